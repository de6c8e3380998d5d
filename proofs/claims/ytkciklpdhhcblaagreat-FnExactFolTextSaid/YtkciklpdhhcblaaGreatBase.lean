import Derived.Test.YtkciklpdhhcblaaGreatTy
import Derived.Test.YtkciklpdhhcblaaGreatSmR
namespace Go.Proofs.YtkciklpdhhcblaaGreat
open Go Go.Proofs Go.Sm
attribute [local simp] ti eStr eInt eByte eVal cVal vVal eCol cCol vCol eColS vColS eStrS vStrS eTable cTable vTable eTableS vTableS eCat cCat vCat eValS vValS eRow cRow vRow eRowS vRowS eRows cRows vRows eRowsS vRowsS eDb cDb vDb eDdl cDdl vDdl eFol cFol vFol eStmt cStmt vStmt eRec cRec vRec eSnap cSnap vSnap eRecS vRecS eTail cTail vTail
set_option linter.unusedVariables false
set_option linter.unusedSimpArgs false


def within (x lo hi : Int) : Bool := decide (x ≥ lo) && decide (x ≤ hi)
theorem within_ok (x lo hi : Int) : VC Tryz.prog 63 [int .i64 x, int .i64 lo, int .i64 hi] [(false, [(.s, .sc (.bool (within x lo hi)))])] := by
  refine vc_of_ew good hm [0,1,2,6] Tryz.func63 rfl (by kernel_rfl) (by kernel_rfl) rfl ?_
  simp [Tryz.f63, within]

def byteAt (s : ByteArray) (i : Nat) : Int := ((s.data[i]?.getD 0).toNat : Int)
def letter (c : Int) : Bool := decide (97 ≤ c) && decide (c ≤ 122)
theorem letter_iff (c : Int) : letter c = true ↔ 97 ≤ c ∧ c ≤ 122 := by simp [letter]
def lettersTo (s : ByteArray) (n : Nat) : Bool := (List.range n).all (fun i => letter (byteAt s i))
def wordOk (s : ByteArray) : Bool := lettersTo s s.size && within s.size 1 8
theorem lettersTo_succ (s : ByteArray) (n : Nat) : lettersTo s (n + 1) = (lettersTo s n && letter (byteAt s n)) := by
  simp [lettersTo, List.range_succ, List.all_append]
theorem lettersTo_le {s : ByteArray} {n m : Nat} (h : lettersTo s m = true) (hnm : n ≤ m) : lettersTo s n = true := by
  simp only [lettersTo, List.all_eq_true, List.mem_range] at h ⊢
  exact fun x hx => h x (by omega)
theorem wordOk_no {s : ByteArray} {i : Nat} (hi : i < s.size) (h : letter (byteAt s i) = false) : wordOk s = false := by
  unfold wordOk
  cases hl : lettersTo s s.size with
  | false => rfl
  | true =>
    have := lettersTo_le hl (show i + 1 ≤ s.size by omega)
    rw [lettersTo_succ, h] at this
    simp at this
set_option maxHeartbeats 1000000 in
theorem wordOkI_ok (s : ByteArray) (hs : okM s.size) : VC Tryz.prog 174 [str s] [(false, [(.s, .sc (.bool (wordOk s)))])] := by
  unfold okM at hs
  refine vc_of_ew good hm [0,2,3,7,19] Tryz.func174 rfl (by kernel_rfl) (by kernel_rfl) rfl ?_
  simp [Tryz.f174]
  refine ew_loop (fun E => ∃ i : Nat, i ≤ s.size ∧ lettersTo s i = true ∧ E = { nt := 23, sl := [(0, str s), (3, int .i64 i)], bx := [], rt := [] }) (fun E => s.size - (E.num 3).toNat) _ (Gh.kb _ [0,3] [] []) ⟨0, by omega, by simp [lettersTo], by simp⟩ ?_
  rintro E1 ⟨i, hi, hall, rfl⟩
  simp
  refine ⟨fun h => ⟨h, fun h1 => ⟨h1, h⟩, fun h1 => wordOk_no h ?_, fun h1 h2 => .of _ (Gh.kb _ [0,3] [] []) ⟨i + 1, by omega, ?_, ?_⟩ ?_⟩, fun h => .of (within_ok _ _ _) ?_⟩
  · rw [Bool.eq_false_iff]; intro h; rw [letter_iff] at h; unfold byteAt at h; omega
  · rw [lettersTo_succ, hall, Bool.true_and, letter_iff]; unfold byteAt; omega
  · simp [wrapS (show i < 9223372036854775807 by omega)]
  · simp [wrapS (show i < 9223372036854775807 by omega)]; omega
  · have : i = s.size := by omega
    subst this
    simp [wordOk, hall]
set_option maxHeartbeats 1000000 in
theorem wordOkS_ok (s : ByteArray) (hs : okM s.size) : VC Tryz.prog 168 [str s] [(false, [(.s, .sc (.bool (wordOk s)))])] := by
  unfold okM at hs
  refine vc_of_ew good hm [0,2,3,7,19] Tryz.func168 rfl (by kernel_rfl) (by kernel_rfl) rfl ?_
  simp [Tryz.f168]
  refine ew_loop (fun E => ∃ i : Nat, i ≤ s.size ∧ lettersTo s i = true ∧ E = { nt := 28, sl := [(0, str s), (3, int .i64 i)], bx := [], rt := [] }) (fun E => s.size - (E.num 3).toNat) _ (Gh.kb _ [0,3] [] []) ⟨0, by omega, by simp [lettersTo], by simp⟩ ?_
  rintro E1 ⟨i, hi, hall, rfl⟩
  simp
  refine ⟨fun h => ⟨h, fun h1 => ⟨h1, h⟩, fun h1 => wordOk_no h ?_, fun h1 h2 => .of _ (Gh.kb _ [0,3] [] []) ⟨i + 1, by omega, ?_, ?_⟩ ?_⟩, fun h => ?_⟩
  · rw [Bool.eq_false_iff]; intro h; rw [letter_iff] at h; unfold byteAt at h; omega
  · rw [lettersTo_succ, hall, Bool.true_and, letter_iff]; unfold byteAt; omega
  · simp [wrapS (show i < 9223372036854775807 by omega)]
  · simp [wrapS (show i < 9223372036854775807 by omega)]; omega
  · have : i = s.size := by omega
    subst this
    simp [wordOk, hall, within]
def geq (a b : ByteArray) : Bool := !Op.bytesLess a.toList b.toList
theorem wrapP {i : Nat} (h0 : 0 < i) (h : i ≤ 9223372036854775807) : IntKind.i64.wrap ((i : Int) - 1) = ((i - 1 : Nat) : Int) := by
  rw [wrapI (by omega) (by omega)]
  omega
theorem rangeAll_succ (p : Nat → Bool) (n : Nat) : (List.range (n + 1)).all p = ((List.range n).all p && p n) := by
  simp [List.range_succ, List.all_append]
theorem rangeAll_no {p : Nat → Bool} {n i : Nat} (hi : i < n) (h : p i = false) : (List.range n).all p = false := by
  rw [Bool.eq_false_iff]
  intro ht
  simp only [List.all_eq_true, List.mem_range] at ht
  rw [ht i hi] at h
  cases h

end Go.Proofs.YtkciklpdhhcblaaGreat
