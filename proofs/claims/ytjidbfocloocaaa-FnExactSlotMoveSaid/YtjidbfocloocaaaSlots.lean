import Derived.Test.YtjidbfocloocaaaBase
namespace Go.Proofs.Ytjidbfocloocaaa
open Go Go.Proofs Go.Sm
attribute [local simp] ti eStr eInt eByte eByteS vByteS ePack cPack vPack eStrS vStrS ePub cPub vPub eSlot cSlot vSlot eSlotS vSlotS
set_option linter.unusedVariables false
set_option linter.unusedSimpArgs false


def slotAt (l : List GSlot) (i : Nat) : Bool := wordOk (l[i]?.getD dSlot).fName && within (l[i]?.getD dSlot).fAt 0 400 && !(decide (0 < i) && geq (l[i-1]?.getD dSlot).fName (l[i]?.getD dSlot).fName)
def slotsTo (l : List GSlot) (n : Nat) : Bool := (List.range n).all (slotAt l)
def slotsOk (l : List GSlot) : Bool := slotsTo l l.length && decide (l.length ≤ 8)
theorem slotsOk_no {l : List GSlot} {i : Nat} (hi : i < l.length) (h : slotAt l i = false) : slotsOk l = false := by
  simp [slotsOk, slotsTo, rangeAll_no hi h]
theorem l13At_ok (n : Int) : VC Try.prog 44 [int .i64 n] [(false, [(.s, .sc (.bool (within n 0 400)))])] := by
  refine vc_of_ew good hm [0,2] Try.func44 rfl (by kernel_rfl) (by kernel_rfl) rfl ?_
  simp [Try.f44, within]
set_option maxHeartbeats 4000000 in
set_option maxRecDepth 4000 in
theorem slotsOkS_ok (l : List GSlot) (hl : okSlotS l) : VC Try.prog 22 [vSlotS l] [(false, [(.s, .sc (.bool (slotsOk l)))])] := by
  have hlen : l.length ≤ 9223372036854775807 := hl.1
  refine vc_of_ew good hm [0,2,5,6,7,8,4,3,36] Try.func22 rfl (by kernel_rfl) (by kernel_rfl) rfl ?_
  simp [Try.f22, vSlotS]
  refine ew_loop (fun E => ∃ i : Nat, i ≤ l.length ∧ slotsTo l i = true ∧ E = { nt := 41, sl := [(0, vSlotS l), (5, vSlotS l), (6, int .i64 l.length), (7, int .i64 i)], bx := [], rt := [] }) (fun E => l.length - (E.num 7).toNat) _ (Gh.kb _ [0,5,6,7] [] []) ⟨0, by omega, by simp [slotsTo], by simp [vSlotS]⟩ ?_
  rintro E1 ⟨i, hi, hall, rfl⟩
  have hw : 0 < i → IntKind.i64.wrap ((i : Int) - 1) = ((i - 1 : Nat) : Int) := fun h0 => wrapP h0 (by omega)
  simp [vSlotS, eSlot]
  refine ⟨fun h => ?_, fun h => ?_⟩
  · refine ⟨h, .of (wordOkS_ok _ (hl.2 _ (getD_mem dSlot h)).1) ?_⟩
    simp [hw]
    refine ⟨fun hk h0 => ⟨⟨hk, h0⟩, by rw [hw h0]; omega, by rw [hw h0]; omega⟩, fun hk => ⟨hk, fun h0 => ⟨hk, h0⟩⟩, .of (fun h => ⟨h, l13At_ok _⟩) ?_⟩
    simp
    have hat : slotAt l i = (wordOk (l[i]?.getD dSlot).fName && within (l[i]?.getD dSlot).fAt 0 400 && (decide (i = 0) || Op.bytesLess (l[(IntKind.i64.wrap ((i : Int) - 1)).toNat]?.getD dSlot).fName.toList (l[i]?.getD dSlot).fName.toList)) := by
      unfold slotAt geq
      rcases Nat.eq_zero_or_pos i with h0 | h0
      · simp [h0]
      · rw [hw h0]; simp [h0, Nat.ne_of_gt h0]
    refine ⟨by grind, fun hb => slotsOk_no h (by grind), fun h1 h2 h3 => .of _ (Gh.kb _ [0,5,6,7] [] []) ⟨i + 1, by omega, ?_, ?_⟩ ?_⟩
    · rw [slotsTo, rangeAll_succ]; unfold slotsTo at hall; grind
    · simp [wrapS (show i < 9223372036854775807 by omega)]
    · simp [wrapS (show i < 9223372036854775807 by omega)]; omega
  · have : i = l.length := by omega
    subst this
    simp [slotsOk, hall]
    try omega
set_option maxHeartbeats 4000000 in
set_option maxRecDepth 4000 in
theorem slotsOkI_ok (l : List GSlot) (hl : okSlotS l) : VC Try.prog 24 [vSlotS l] [(false, [(.s, .sc (.bool (slotsOk l)))])] := by
  have hlen : l.length ≤ 9223372036854775807 := hl.1
  refine vc_of_ew good hm [0,2,5,6,7,8,4,3,36] Try.func24 rfl (by kernel_rfl) (by kernel_rfl) rfl ?_
  simp [Try.f24, vSlotS]
  refine ew_loop (fun E => ∃ i : Nat, i ≤ l.length ∧ slotsTo l i = true ∧ E = { nt := 41, sl := [(0, vSlotS l), (5, vSlotS l), (6, int .i64 l.length), (7, int .i64 i)], bx := [], rt := [] }) (fun E => l.length - (E.num 7).toNat) _ (Gh.kb _ [0,5,6,7] [] []) ⟨0, by omega, by simp [slotsTo], by simp [vSlotS]⟩ ?_
  rintro E1 ⟨i, hi, hall, rfl⟩
  have hw : 0 < i → IntKind.i64.wrap ((i : Int) - 1) = ((i - 1 : Nat) : Int) := fun h0 => wrapP h0 (by omega)
  simp [vSlotS, eSlot]
  refine ⟨fun h => ?_, fun h => ?_⟩
  · refine ⟨h, .of (wordOkI_ok _ (hl.2 _ (getD_mem dSlot h)).1) ?_⟩
    simp [hw]
    have hat : slotAt l i = (wordOk (l[i]?.getD dSlot).fName && within (l[i]?.getD dSlot).fAt 0 400 && (decide (i = 0) || Op.bytesLess (l[(IntKind.i64.wrap ((i : Int) - 1)).toNat]?.getD dSlot).fName.toList (l[i]?.getD dSlot).fName.toList)) := by
      unfold slotAt geq
      rcases Nat.eq_zero_or_pos i with h0 | h0
      · simp [h0]
      · rw [hw h0]; simp [h0, Nat.ne_of_gt h0]
    refine .of (fun h => ⟨h, within_ok _ _ _⟩) ?_
    simp
    refine ⟨fun h1 h2 h3 => ⟨by grind, by rw [hw h3]; omega, by rw [hw h3]; omega⟩, by grind, fun hb => slotsOk_no h (by grind), fun h1 h2 h3 => .of _ (Gh.kb _ [0,5,6,7] [] []) ⟨i + 1, by omega, ?_, ?_⟩ ?_⟩
    · rw [slotsTo, rangeAll_succ]; unfold slotsTo at hall; grind
    · simp [wrapS (show i < 9223372036854775807 by omega)]
    · simp [wrapS (show i < 9223372036854775807 by omega)]; omega
  · have : i = l.length := by omega
    subst this
    simp [slotsOk, hall]
    try omega

theorem S_SlotsOk_ok (l : List GSlot) (hl : okSlotS l) (_ : ∀ n ∈ wSlotS l, n ≤ 1048576) (_ : (wSlotS l).sum ≤ 1048576) : VC Try.prog 22 [vSlotS l] [(false, [(.s, .sc (.bool (slotsOk l)))])] := slotsOkS_ok l hl
theorem I_SlotsOk_ok (l : List GSlot) (hl : okSlotS l) (_ : ∀ n ∈ wSlotS l, n ≤ 1048576) (_ : (wSlotS l).sum ≤ 1048576) : VC Try.prog 24 [vSlotS l] [(false, [(.s, .sc (.bool (slotsOk l)))])] := slotsOkI_ok l hl

end Go.Proofs.Ytjidbfocloocaaa
