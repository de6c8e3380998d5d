/- Contracts of the functions of PubOk. -/
import Derived.Test.YtjidbfocloocaaaTi
namespace Go.Proofs.Ytjidbfocloocaaa
open Go Go.Proofs Go.Sm
attribute [local simp] ti

def within (x lo hi : Int) : Bool := decide (x ≥ lo) && decide (x ≤ hi)
theorem within_ok (x lo hi : Int) : VC Try.prog 46 [int .i64 x, int .i64 lo, int .i64 hi] [(false, [(.s, .sc (.bool (within x lo hi)))])] := by
  refine vc_of_ew good hm [0,1,2,6] Try.func46 rfl (by kernel_rfl) (by kernel_rfl) rfl ?_
  simp [Try.f46, within]

def byteAt (s : ByteArray) (i : Nat) : Int := ((s.data[i]?.getD 0).toNat : Int)
def letter (c : Int) : Bool := decide (97 ≤ c) && decide (c ≤ 122)
theorem letter_iff (c : Int) : letter c = true ↔ 97 ≤ c ∧ c ≤ 122 := by simp [letter]
def lettersTo (s : ByteArray) (n : Nat) : Bool := (List.range n).all (fun i => letter (byteAt s i))
def wordOk (s : ByteArray) : Bool := lettersTo s s.size && within s.size 1 8
theorem lettersTo_succ (s : ByteArray) (n : Nat) : lettersTo s (n + 1) = (lettersTo s n && letter (byteAt s n)) := by
  simp [lettersTo, List.range_succ, List.all_append]
theorem lettersTo_le {s : ByteArray} {n m : Nat} (h : lettersTo s m = true) (hnm : n ≤ m) : lettersTo s n = true := by
  simp only [lettersTo, List.all_eq_true, List.mem_range] at h ⊢
  exact fun x hx => h x (by omega)
theorem wordOk_no {s : ByteArray} {i : Nat} (hi : i < s.size) (h : letter (byteAt s i) = false) : wordOk s = false := by
  unfold wordOk
  cases hl : lettersTo s s.size with
  | false => rfl
  | true =>
    have := lettersTo_le hl (show i + 1 ≤ s.size by omega)
    rw [lettersTo_succ, h] at this
    simp at this

set_option maxHeartbeats 1000000 in
theorem wordOkI_ok (s : ByteArray) (hs : s.size ≤ 9223372036854775807) : VC Try.prog 36 [str s] [(false, [(.s, .sc (.bool (wordOk s)))])] := by
  refine vc_of_ew good hm [0,2,3,7,19] Try.func36 rfl (by kernel_rfl) (by kernel_rfl) rfl ?_
  simp [Try.f36]
  refine ew_loop (fun E => ∃ i : Nat, i ≤ s.size ∧ lettersTo s i = true ∧ E = { nt := 23, sl := [(0, str s), (2, bool false), (3, int .i64 i)], bx := [], rt := [] }) (fun E => s.size - (E.num 3).toNat) _ (Gh.keep _ [0,2,3]) ⟨0, by omega, by simp [lettersTo], by simp⟩ ?_
  rintro E1 ⟨i, hi, hall, rfl⟩
  simp
  refine ⟨fun h => ⟨h, fun h1 => ⟨h1, h⟩, fun h1 => wordOk_no h ?_, fun h1 h2 => .of _ (Gh.keep _ [0,2,3]) ⟨i + 1, by omega, ?_, ?_⟩ ?_⟩, fun h => .of (within_ok _ _ _) ?_⟩
  · rw [Bool.eq_false_iff]; intro h; rw [letter_iff] at h; unfold byteAt at h; omega
  · rw [lettersTo_succ, hall, Bool.true_and, letter_iff]; unfold byteAt; omega
  · simp [wrapS (show i < 9223372036854775807 by omega)]
  · simp [wrapS (show i < 9223372036854775807 by omega)]; omega
  · have : i = s.size := by omega
    subst this
    simp [wordOk, hall]

set_option maxHeartbeats 1000000 in
theorem wordOkS_ok (s : ByteArray) (hs : s.size ≤ 9223372036854775807) : VC Try.prog 34 [str s] [(false, [(.s, .sc (.bool (wordOk s)))])] := by
  refine vc_of_ew good hm [0,2,3,7,19] Try.func34 rfl (by kernel_rfl) (by kernel_rfl) rfl ?_
  simp [Try.f34]
  refine ew_loop (fun E => ∃ i : Nat, i ≤ s.size ∧ lettersTo s i = true ∧ E = { nt := 28, sl := [(0, str s), (2, bool false), (3, int .i64 i)], bx := [], rt := [] }) (fun E => s.size - (E.num 3).toNat) _ (Gh.keep _ [0,2,3]) ⟨0, by omega, by simp [lettersTo], by simp⟩ ?_
  rintro E1 ⟨i, hi, hall, rfl⟩
  simp
  refine ⟨fun h => ⟨h, fun h1 => ⟨h1, h⟩, fun h1 => wordOk_no h ?_, fun h1 h2 => .of _ (Gh.keep _ [0,2,3]) ⟨i + 1, by omega, ?_, ?_⟩ ?_⟩, fun h => ?_⟩
  · rw [Bool.eq_false_iff]; intro h; rw [letter_iff] at h; unfold byteAt at h; omega
  · rw [lettersTo_succ, hall, Bool.true_and, letter_iff]; unfold byteAt; omega
  · simp [wrapS (show i < 9223372036854775807 by omega)]
  · simp [wrapS (show i < 9223372036854775807 by omega)]; omega
  · have : i = s.size := by omega
    subst this
    simp [wordOk, hall, within]

/-! ### sizes -/
def szL : List Nat → Int → Int
  | [], left => left
  | s :: r, left => if left - s < 0 then -1 else szL r (left - s)
theorem szL_app : ∀ (a b : List Nat) (left : Int), 0 ≤ left → szL (a ++ b) left = if szL a left < 0 then -1 else szL b (szL a left)
  | [], b, left, h => by simp [szL]; omega
  | s :: r, b, left, h => by
    simp only [List.cons_append, szL]
    split
    · rfl
    · exact szL_app r b _ (by omega)
/-- One round. -/
theorem szL_step {l : List Nat} {i : Nat} {left : Int} (h : i < l.length) (hl : 0 ≤ left) (h0 : 0 ≤ szL (l.take i) left) :
    (szL (l.take i) left - (l[i]?.getD 0 : Nat) < 0 → szL l left = -1) ∧ (0 ≤ szL (l.take i) left - (l[i]?.getD 0 : Nat) → szL (l.take (i + 1)) left = szL (l.take i) left - (l[i]?.getD 0 : Nat)) := by
  have e1 : l = l.take i ++ (l[i] :: l.drop (i + 1)) := by simp
  have e2 : l.take (i + 1) = l.take i ++ [l[i]] := by rw [List.take_succ_eq_append_getElem h]
  rw [List.getElem?_eq_getElem h, Option.getD_some]
  refine ⟨fun hn => ?_, fun hn => ?_⟩
  · conv => lhs; rw [e1]
    rw [szL_app _ _ _ hl, if_neg (by omega)]
    simp only [szL, if_pos hn]
  · rw [e2, szL_app _ _ _ hl, if_neg (by omega)]
    simp only [szL]
    rw [if_neg (by omega)]
def strs (l : List ByteArray) : List (List Lf) := l.map fun s => [.sc (.string s)]
abbrev zs : List Lf := [.sc (.string ⟨#[]⟩)]
def szStrs (l : List ByteArray) (left : Int) : Int := if left - l.length < 0 then -1 else szL (l.map ByteArray.size) (left - l.length)

set_option maxHeartbeats 1000000 in
theorem szStringS_ok (l : List ByteArray) (left : Int) (h0 : 0 ≤ left) (h1 : left ≤ 1048576) (hl : l.length ≤ 9223372036854775807) (hs : ∀ s ∈ l, s.size ≤ 9223372036854775807) :
    VC Try.prog 33 [list zs (strs l), int .i64 left] [(false, [(.s, .sc (.int .i64 (szStrs l left)))])] := by
  refine vc_of_ew good hm [0,1,4,5,11,15,26] Try.func33 rfl (by kernel_rfl) (by kernel_rfl) rfl ?_
  simp [Try.f33, strs]
  rw [wrapI (i := left - l.length) (by omega) (by omega)]
  refine ⟨fun h => by simp [szStrs, h], fun hn => ?_⟩
  have hszl : ∀ i, (l.map ByteArray.size)[i]?.getD 0 = (l[i]?.getD (⟨#[]⟩ : ByteArray)).size := fun i => by
    rw [List.getElem?_map]
    cases l[i]? <;> rfl
  refine ew_loop (fun E => ∃ i : Nat, i ≤ l.length ∧ 0 ≤ szL ((l.map ByteArray.size).take i) (left - l.length) ∧ szL ((l.map ByteArray.size).take i) (left - l.length) ≤ 1048576 ∧
    E = { nt := 28, sl := [(0, list zs (strs l)), (1, int .i64 (szL ((l.map ByteArray.size).take i) (left - l.length))), (4, int .i64 0), (5, int .i64 i)], bx := [], rt := [] }) (fun E => l.length - (E.num 5).toNat) _ (Gh.keep _ [0,1,4,5]) ⟨0, by omega, by simp [szL]; omega, by simp [szL]; omega, by simp [szL, strs]⟩ ?_
  rintro E1 ⟨i, hi, hr0, hr1, rfl⟩
  simp [strs]
  refine ⟨fun h => ?_, fun h => ?_⟩
  · obtain ⟨q1, q2⟩ := szL_step (l := l.map ByteArray.size) (by simpa using h) (by omega) hr0
    rw [hszl] at q1 q2
    have hb : (l[i]?.getD (⟨#[]⟩ : ByteArray)).size ≤ 9223372036854775807 := by
      rw [List.getElem?_eq_getElem h]
      exact hs _ (List.getElem_mem h)
    rw [wrapI (i := szL (List.take i (List.map ByteArray.size l)) (left - ↑l.length) - ↑(l[i]?.getD (⟨#[]⟩ : ByteArray)).size) (by omega) (by omega)]
    refine ⟨h, fun h2 => ?_, fun h2 => .of _ (Gh.keep _ [0,1,4,5]) ⟨i + 1, by omega, ?_, ?_, ?_⟩ ?_⟩
    · rw [szStrs, if_neg (by omega), q1 h2]
    · rw [q2 h2]; exact h2
    · rw [q2 h2]; omega
    · rw [q2 h2]
      simp [wrapS (show i < 9223372036854775807 by omega)]
    · simp [wrapS (show i < 9223372036854775807 by omega)]; omega
  · rw [szStrs, if_neg (by omega), List.take_of_length_le (by simpa using h)]
theorem szL_le : ∀ (l : List Nat) (left : Int), 0 ≤ szL l left → 0 ≤ left → szL l left ≤ left ∧ ∀ n ∈ l, (n : Int) ≤ left
  | [], left, h, _ => ⟨Int.le_refl _, fun n h => by cases h⟩
  | s :: r, left, h, h0 => by
    simp only [szL] at h ⊢
    split at h
    · omega
    · rename_i h1
      rw [if_neg h1]
      obtain ⟨q1, q2⟩ := szL_le r _ h (by omega)
      refine ⟨by omega, fun n hn => ?_⟩
      rcases List.mem_cons.1 hn with rfl | hn
      · omega
      · have := q2 n hn; omega
theorem szStrs_le {l : List ByteArray} {left : Int} (h : 0 ≤ szStrs l left) : szStrs l left ≤ left ∧ (l.length : Int) ≤ left ∧ ∀ s ∈ l, (s.size : Int) ≤ left := by
  unfold szStrs at h ⊢
  split at h
  · omega
  · rename_i h1
    rw [if_neg h1]
    obtain ⟨q1, q2⟩ := szL_le _ _ h (by omega)
    refine ⟨by omega, by omega, fun s hs => ?_⟩
    have := q2 s.size (List.mem_map.2 ⟨s, hs, rfl⟩)
    omega

set_option maxHeartbeats 1000000 in
theorem toStringS_ok (l : List ByteArray) (hl : l.length ≤ 1048576) : VC Try.prog 35 [list zs (strs l)] [(false, [(.o 9 (fun _ => [.s]), .ls zs (strs l))])] := by
  refine vc_of_ew good hm [0,2,3,4,11] Try.func35 rfl (by kernel_rfl) (by kernel_rfl) rfl ?_
  simp [Try.f35, strs]
  refine ⟨by omega, ?_⟩
  refine ew_loop (fun E => ∃ i : Nat, i ≤ l.length ∧ E = { nt := 22, sl := [(0, list zs (strs l)), (2, .v false [.n zs]), (3, .v false [.r [7]]), (4, int .i64 i)], bx := [], rt := [(7, .o 9 (fun _ => [.s]), .ls zs (fillR zs (strs l) i))] }) (fun E => l.length - (E.num 4).toNat) _ (Gh.keep _ [0,2,3,4]) ⟨0, by omega, by simp [strs, fillR]⟩ ?_
  rintro E1 ⟨i, hi, rfl⟩
  have hfl : (fillR zs (strs l) i).length = l.length := by rw [fillR_len _ _ (by simpa [strs] using hi)]; simp [strs]
  simp [strs] at hfl ⊢
  simp [hfl]
  refine ⟨fun h => ⟨h, .of _ (Gh.keep _ [0,2,3,4]) ⟨i + 1, by omega, ?_⟩ ?_⟩, fun h => fillR_all _ _ (by simpa using h)⟩
  · have := fillR_set zs (strs l) (i := i) (by simpa [strs] using h)
    simp [wrapS (show i < 9223372036854775807 by omega), strs] at this ⊢
    rw [← this]
  · simp [wrapS (show i < 9223372036854775807 by omega)]; omega

set_option maxHeartbeats 1000000 in
theorem eqStringS_ok (l : List ByteArray) (hl : l.length ≤ 1048576) : VC Try.prog 37 [list zs (strs l), list zs (strs l)] [(false, [(.s, .sc (.bool true))])] := by
  refine vc_of_ew good hm [0,1,4,5,10,14,25] Try.func37 rfl (by kernel_rfl) (by kernel_rfl) rfl ?_
  simp [Try.f37, strs]
  refine ew_loop (fun E => ∃ i : Nat, i ≤ l.length ∧ E = { nt := 26, sl := [(0, list zs (strs l)), (1, list zs (strs l)), (4, bool false), (5, int .i64 i)], bx := [], rt := [] }) (fun E => l.length - (E.num 5).toNat) _ (Gh.keep _ [0,1,4,5]) ⟨0, by omega, by simp [strs]⟩ ?_
  rintro E1 ⟨i, hi, rfl⟩
  simp [strs]
  intro h
  refine ⟨h, .of _ (Gh.keep _ [0,1,4,5]) ⟨i + 1, by omega, ?_⟩ ?_⟩
  · simp [wrapS (show i < 9223372036854775807 by omega)]
  · simp [wrapS (show i < 9223372036854775807 by omega)]; omega
end Go.Proofs.Ytjidbfocloocaaa
