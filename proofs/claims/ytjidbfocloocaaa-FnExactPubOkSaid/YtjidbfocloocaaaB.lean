/- PubOk: the program's, the reference's, the law. -/
import Derived.Test.YtjidbfocloocaaaA
namespace Go.Proofs.Ytjidbfocloocaaa
open Go Go.Proofs Go.Sm
attribute [local simp] ti

def pub (l : List ByteArray) : SV := .v true [.s (.ls zs (strs l))]
theorem szL_neg : ∀ (l : List Nat) (left : Int), 0 ≤ left → szL l left < 0 → szL l left = -1
  | [], left, h0, h => by simp [szL] at h; omega
  | s :: r, left, h0, h => by
    simp only [szL] at h ⊢
    split at h
    · rename_i h1; rw [if_pos h1]
    · rename_i h1; rw [if_neg h1]; exact szL_neg r _ (by omega) h
theorem szStrs_neg {l : List ByteArray} {left : Int} (h : szStrs l left < 0) : szStrs l left = -1 := by
  unfold szStrs at h ⊢
  split
  · rfl
  · rename_i h1
    rw [if_neg h1] at h
    exact szL_neg _ _ (by omega) h
theorem szPub_ok (l : List ByteArray) (left : Int) (h0 : 0 ≤ left) (h1 : left ≤ 1048576) (hl : l.length ≤ 9223372036854775807) (hs : ∀ s ∈ l, s.size ≤ 9223372036854775807) :
    VC Try.prog 9 [pub l, int .i64 left] [(false, [(.s, .sc (.int .i64 (szStrs l left)))])] := by
  refine vc_of_ew good hm [1,2,4,10] Try.func9 rfl (by kernel_rfl) (by kernel_rfl) rfl ?_
  simp [Try.f9, pub]
  refine .of (szStringS_ok l left h0 h1 hl hs) ?_
  simp
  exact fun h => (szStrs_neg h).symm
set_option maxHeartbeats 2000000 in
theorem toPub_ok (l : List ByteArray) (hl : l.length ≤ 1048576) : VC Try.prog 11 [pub l] [(true, [(.o 9 (fun _ => [.s]), .ls zs (strs l))])] := by
  refine vc_of_ew good hm [1,2,3] Try.func11 rfl (by kernel_rfl) (by kernel_rfl) rfl ?_
  simp [Try.f11, pub]
  refine .of (toStringS_ok l hl) ?_
  simp
theorem eqPub_ok (l : List ByteArray) (hl : l.length ≤ 1048576) : VC Try.prog 13 [pub l, pub l] [(false, [(.s, .sc (.bool true))])] := by
  refine vc_of_ew good hm [2,3,4,10] Try.func13 rfl (by kernel_rfl) (by kernel_rfl) rfl ?_
  simp [Try.f13, pub]
  refine .of (eqStringS_ok l hl) ?_
  simp

def geq (a b : ByteArray) : Bool := !Op.bytesLess a.toList b.toList
def pubAt (l : List ByteArray) (i : Nat) : Bool := wordOk (l[i]?.getD ⟨#[]⟩) && !(decide (0 < i) && geq (l[i-1]?.getD ⟨#[]⟩) (l[i]?.getD ⟨#[]⟩))
def pubTo (l : List ByteArray) (n : Nat) : Bool := (List.range n).all (pubAt l)
def pubOk (l : List ByteArray) : Bool := pubTo l l.length && decide (l.length ≤ 6)
theorem pubTo_succ (l : List ByteArray) (n : Nat) : pubTo l (n + 1) = (pubTo l n && pubAt l n) := by
  simp [pubTo, List.range_succ, List.all_append]
theorem pubOk_no {l : List ByteArray} {i : Nat} (hi : i < l.length) (h : pubAt l i = false) : pubOk l = false := by
  have : pubTo l l.length = false := by
    rw [Bool.eq_false_iff]
    intro ht
    simp only [pubTo, List.all_eq_true, List.mem_range] at ht
    rw [ht i hi] at h
    cases h
  simp [pubOk, this]
theorem wrapP {i : Nat} (h0 : 0 < i) (h : i ≤ 9223372036854775807) : IntKind.i64.wrap ((i : Int) - 1) = ((i - 1 : Nat) : Int) := by
  rw [wrapI (by omega) (by omega)]
  omega
set_option maxHeartbeats 1000000 in
theorem pubOkS_ok (l : List ByteArray) (hl : l.length ≤ 1048576) (hs : ∀ s ∈ l, s.size ≤ 9223372036854775807) : VC Try.prog 10 [pub l] [(false, [(.s, .sc (.bool (pubOk l)))])] := by
  refine vc_of_ew good hm [1,2,6,7,8,9,3,4,29] Try.func10 rfl (by kernel_rfl) (by kernel_rfl) rfl ?_
  simp [Try.f10, pub]
  refine ew_loop (fun E => ∃ i : Nat, i ≤ l.length ∧ pubTo l i = true ∧ E = { nt := 35, sl := [(1, .p (.bx 1 0)), (2, bool false), (6, list zs (strs l)), (7, int .i64 l.length), (8, int .i64 i)], bx := [(1, [.s (.ls zs (strs l))])], rt := [] }) (fun E => l.length - (E.num 8).toNat) _ (Gh.keep _ [1,2,6,7,8]) ⟨0, by omega, by simp [pubTo], by simp [strs]⟩ ?_
  rintro E1 ⟨i, hi, hall, rfl⟩
  simp [strs]
  refine ⟨fun h => ⟨h, .of (wordOkS_ok _ (by rw [List.getElem?_eq_getElem h]; exact hs _ (List.getElem_mem h))) ?_⟩, fun h => ?_⟩
  · simp
    have hw : 0 < i → IntKind.i64.wrap ((i : Int) - 1) = ((i - 1 : Nat) : Int) := fun h0 => wrapP h0 (by omega)
    refine ⟨fun hk h0 => ⟨⟨hk, h0⟩, by rw [hw h0]; omega, by rw [hw h0]; omega⟩, fun hk => ⟨hk, fun h0 => ⟨hk, h0⟩⟩, fun hbad => pubOk_no h ?_, fun hk hlt => .of _ (Gh.keep _ [1,2,6,7,8]) ⟨i + 1, by omega, ?_, ?_⟩ ?_⟩
    · rcases hbad with hb | ⟨h0, hb⟩
      · simp [pubAt, hb]
      · rw [hw h0] at hb
        simp at hb
        simp [pubAt, geq, h0, hb]
    · rw [pubTo_succ, hall]
      simp [pubAt, geq, hk]
      rcases Nat.eq_zero_or_pos i with h0 | h0
      · exact .inl h0
      · have := hlt h0
        rw [hw h0] at this
        exact .inr (by simpa using this)
    · simp [wrapS (show i < 9223372036854775807 by omega)]
    · simp [wrapS (show i < 9223372036854775807 by omega)]; omega
  · have : i = l.length := by omega
    subst this
    simp [pubOk, hall]
    omega
set_option maxHeartbeats 1000000 in
theorem pubOkI_ok (l : List ByteArray) (hl : l.length ≤ 1048576) (hs : ∀ s ∈ l, s.size ≤ 9223372036854775807) : VC Try.prog 12 [pub l] [(false, [(.s, .sc (.bool (pubOk l)))])] := by
  refine vc_of_ew good hm [1,2,6,7,8,9,3,4,29] Try.func12 rfl (by kernel_rfl) (by kernel_rfl) rfl ?_
  simp [Try.f12, pub]
  refine ew_loop (fun E => ∃ i : Nat, i ≤ l.length ∧ pubTo l i = true ∧ E = { nt := 35, sl := [(1, .p (.bx 1 0)), (2, bool false), (6, list zs (strs l)), (7, int .i64 l.length), (8, int .i64 i)], bx := [(1, [.s (.ls zs (strs l))])], rt := [] }) (fun E => l.length - (E.num 8).toNat) _ (Gh.keep _ [1,2,6,7,8]) ⟨0, by omega, by simp [pubTo], by simp [strs]⟩ ?_
  rintro E1 ⟨i, hi, hall, rfl⟩
  simp [strs]
  refine ⟨fun h => ⟨h, .of (wordOkI_ok _ (by rw [List.getElem?_eq_getElem h]; exact hs _ (List.getElem_mem h))) ?_⟩, fun h => ?_⟩
  · simp
    have hw : 0 < i → IntKind.i64.wrap ((i : Int) - 1) = ((i - 1 : Nat) : Int) := fun h0 => wrapP h0 (by omega)
    refine ⟨fun hk h0 => ⟨⟨hk, h0⟩, by rw [hw h0]; omega, by rw [hw h0]; omega⟩, fun hk => ⟨hk, fun h0 => ⟨hk, h0⟩⟩, fun hbad => pubOk_no h ?_, fun hk hlt => .of _ (Gh.keep _ [1,2,6,7,8]) ⟨i + 1, by omega, ?_, ?_⟩ ?_⟩
    · rcases hbad with hb | ⟨h0, hb⟩
      · simp [pubAt, hb]
      · rw [hw h0] at hb
        simp at hb
        simp [pubAt, geq, h0, hb]
    · rw [pubTo_succ, hall]
      simp [pubAt, geq, hk]
      rcases Nat.eq_zero_or_pos i with h0 | h0
      · exact .inl h0
      · have := hlt h0
        rw [hw h0] at this
        exact .inr (by simpa using this)
    · simp [wrapS (show i < 9223372036854775807 by omega)]
    · simp [wrapS (show i < 9223372036854775807 by omega)]; omega
  · have : i = l.length := by omega
    subst this
    simp [pubOk, hall]
    omega

/-! ### the law -/
theorem law_ok (l : List ByteArray) (hl : l.length ≤ 9223372036854775807) (hs : ∀ s ∈ l, s.size ≤ 9223372036854775807) : VC Try.prog 3 [pub l] [(false, [(.s, .sc (.bool true))])] := by
  refine vc_of_ew good hm [1,2,3,4,5,6,11,21,26] Try.func3 rfl (by kernel_rfl) (by kernel_rfl) rfl ?_
  simp [Try.f3, pub]
  refine .of (szPub_ok l 1048576 (by omega) (by omega) hl hs) ?_
  simp
  intro h0
  obtain ⟨_, hl2, hs2⟩ := szStrs_le h0
  have hl3 : l.length ≤ 1048576 := by omega
  refine .of (toPub_ok l hl3) ?_
  simp
  refine .of (pubOkS_ok l hl3 hs) ?_
  simp
  refine .of (toPub_ok l hl3) ?_
  simp
  refine .of (pubOkI_ok l hl3 hs) ?_
  simp
  refine .of (toPub_ok l hl3) ?_
  simp
  refine .of (eqPub_ok l hl3) ?_
  simp
end Go.Proofs.Ytjidbfocloocaaa
