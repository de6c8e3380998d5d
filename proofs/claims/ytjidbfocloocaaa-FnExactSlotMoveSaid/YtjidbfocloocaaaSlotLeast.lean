import Derived.Test.YtjidbfocloocaaaSlots
namespace Go.Proofs.Ytjidbfocloocaaa
open Go Go.Proofs Go.Sm
attribute [local simp] ti eStr eInt eByte eByteS vByteS ePack cPack vPack eStrS vStrS ePub cPub vPub eSlot cSlot vSlot eSlotS vSlotS
set_option linter.unusedVariables false
set_option linter.unusedSimpArgs false


def stp (n : Int) (s : GSlot) : Int := if s.fAt < n then s.fAt else n
def leastTo (l : List GSlot) (i : Nat) : Int := (l.take i).foldl stp 400
def slotLeast (l : List GSlot) : Int := if slotsOk l then leastTo l l.length else 0
theorem leastTo_succ {l : List GSlot} {i : Nat} (h : i < l.length) : leastTo l (i + 1) = stp (leastTo l i) (l[i]?.getD dSlot) := by
  unfold leastTo
  rw [List.take_succ_eq_append_getElem h, List.foldl_append, List.getElem?_eq_getElem h]
  rfl
set_option maxHeartbeats 4000000 in
theorem slotLeastS_ok (l : List GSlot) (hl : okSlotS l) : VC Try.prog 26 [vSlotS l] [(false, [(.s, .sc (.int .i64 (slotLeast l)))])] := by
  have hlen : l.length ≤ 9223372036854775807 := hl.1
  refine vc_of_ew good hm [0,2,8,3,9,10,11,12,5,18] Try.func26 rfl (by kernel_rfl) (by kernel_rfl) rfl ?_
  simp [Try.f26]
  refine .of (slotsOkS_ok l hl) ?_
  simp
  refine ⟨fun h => by simp [slotLeast, h], fun hok => ?_⟩
  refine ew_loop (fun E => ∃ i : Nat, i ≤ l.length ∧ E = { nt := 23, sl := [(3, int .i64 (leastTo l i)), (9, vSlotS l), (10, int .i64 l.length), (11, int .i64 i)], bx := [], rt := [] }) (fun E => l.length - (E.num 11).toNat) _ (Gh.kb _ [3,9,10,11] [] []) ⟨0, by omega, by simp [leastTo]⟩ ?_
  rintro E1 ⟨i, hi, rfl⟩
  simp
  refine ⟨fun h => ⟨h, ?_, ?_⟩, fun h => ?_⟩
  · intro h2
    refine .of _ (Gh.kb _ [3,9,10,11] [] []) ⟨i + 1, by omega, ?_⟩ ?_
    · simp [wrapS (show i < 9223372036854775807 by omega), leastTo_succ h, stp, h2]
    · simp [wrapS (show i < 9223372036854775807 by omega)]; omega
  · intro h2
    refine .of _ (Gh.kb _ [3,9,10,11] [] []) ⟨i + 1, by omega, ?_⟩ ?_
    · simp [wrapS (show i < 9223372036854775807 by omega), leastTo_succ h, stp]; omega
    · simp [wrapS (show i < 9223372036854775807 by omega)]; omega
  · have : i = l.length := by omega
    subst this
    simp [slotLeast, hok]
set_option maxHeartbeats 4000000 in
theorem slotLeastI_ok (l : List GSlot) (hl : okSlotS l) : VC Try.prog 27 [vSlotS l] [(false, [(.s, .sc (.int .i64 (slotLeast l)))])] := by
  have hlen : l.length ≤ 9223372036854775807 := hl.1
  refine vc_of_ew good hm [0,2,8,3,9,10,11,12,5] Try.func27 rfl (by kernel_rfl) (by kernel_rfl) rfl ?_
  simp [Try.f27]
  refine .of (slotsOkI_ok l hl) ?_
  simp
  refine ⟨fun h => by simp [slotLeast, h], fun hok => ?_⟩
  refine ew_loop (fun E => ∃ i : Nat, i ≤ l.length ∧ E = { nt := 21, sl := [(3, int .i64 (leastTo l i)), (9, vSlotS l), (10, int .i64 l.length), (11, int .i64 i)], bx := [], rt := [] }) (fun E => l.length - (E.num 11).toNat) _ (Gh.kb _ [3,9,10,11] [] []) ⟨0, by omega, by simp [leastTo]⟩ ?_
  rintro E1 ⟨i, hi, rfl⟩
  simp
  refine ⟨fun h => ⟨h, ?_⟩, fun h => ?_⟩
  · refine .of _ (Gh.kb _ [3,9,10,11] [] []) ⟨i + 1, by omega, ?_⟩ ?_
    · simp [wrapS (show i < 9223372036854775807 by omega), leastTo_succ h, stp]
    · simp [wrapS (show i < 9223372036854775807 by omega)]; omega
  · have : i = l.length := by omega
    subst this
    simp [slotLeast, hok]
theorem S_SlotLeast_ok (l : List GSlot) (hl : okSlotS l) (_ : ∀ n ∈ wSlotS l, n ≤ 1048576) (_ : (wSlotS l).sum ≤ 1048576) : VC Try.prog 26 [vSlotS l] [(false, [(.s, .sc (.int .i64 (slotLeast l)))])] := slotLeastS_ok l hl
theorem I_SlotLeast_ok (l : List GSlot) (hl : okSlotS l) (_ : ∀ n ∈ wSlotS l, n ≤ 1048576) (_ : (wSlotS l).sum ≤ 1048576) : VC Try.prog 27 [vSlotS l] [(false, [(.s, .sc (.int .i64 (slotLeast l)))])] := slotLeastI_ok l hl

end Go.Proofs.Ytjidbfocloocaaa
