/-
  The program's SlotMove returns what the reference's returns, for all arguments, and leaves its arguments as they were: no condition.
-/
import Derived.Test.YtjidbfocloocaaaRows
import Derived.Test.YtjidbfocloocaaaSlotMove
namespace Go.Proofs.Ytjidbfocloocaaa
open Go Go.Proofs Go.Sm
open Go.ChangeShapes Go.WideShapes Go.ChangeAt Go.RowKit
set_option linter.unusedVariables false
set_option linter.unusedSimpArgs false
namespace fnExactSlotMove
attribute [local simp] ti
set_option maxHeartbeats 4000000 in
theorem law (p0 : List GSlot) (p1 : ByteArray) (p2 : Int) (o0 : okSlotS p0) (o1 : okM p1.size) (o2 : okI p2) : VC Try.prog 7 [vSlotS p0, str p1, int .i64 p2] [(false, [(.s, .sc (.bool true))])] := by
  have q0 := okw_SlotS p0 o0
  refine vc_of_ew good hm [0,1,2,6,20,7,25,8,9,10,11,12,51,56,13,72,14,15,80,83,16,17,100,105,108] Try.func7 rfl (by kernel_rfl) (by kernel_rfl) rfl ?_
  simp [Try.f7, vSlotS]
  intro hs1'
  have hs1 : p1.size ≤ 1048576 := by omega
  refine .of (szSlotS_ok p0 1048576 (by omega) (by omega) q0) ?_
  simp
  intro z0
  have y0 := szL_le' (l := wSlotS p0) (left := 1048576) (by omega)
  have hs0 : ∀ n ∈ wSlotS p0, n ≤ 1048576 := fun n hn => by have := (szL_le _ _ z0 (by omega)).2 n hn; omega
  have hz0 : (wSlotS p0).sum ≤ 1048576 := by have := (szL_le _ _ z0 (by omega)).1; omega
  refine .of (toSlotS_ok p0 hs0) ?_
  simp [mSlotS]
  refine .of (S_SlotMove_ok p0 p1 p2 o0 hs0 hz0 o1 hs1 o2) ?_
  simp [mSlotS]
  refine .of (toSlotS_ok p0 hs0) ?_
  simp [mSlotS]
  refine .of (I_SlotMove_ok p0 p1 p2 o0 hs0 hz0 o1 hs1 o2) ?_
  simp [mSlotS]
  refine .of (eqSlotS_ok _ (SlotMove_r0 p0 p1 p2 o0 hs0 hz0 o1 hs1 o2).1) ?_
  simp
  refine .of (toSlotS_ok p0 hs0) ?_
  simp [mSlotS]
  refine .of (eqSlotS_ok p0 hs0) ?_
  simp
  have hr0 := (SlotMove_r0 p0 p1 p2 o0 hs0 hz0 o1 hs1 o2).1
  have hx0 := (SlotMove_r0 p0 p1 p2 o0 hs0 hz0 o1 hs1 o2).2
  have hc0 := ctle_SlotS (slotMove p0 p1 p2).1
  have hp0 := ctle_SlotS p0
  refine .mut (markSlotS_ok p0 (1) ((1 : Int)) (by simp) (by omega) (fun n hn => by have := hs0 n hn; omega)) ?_
  simp [mvPack, (show ¬ ((1 : Int) + (ctSlotS p0 : Int) < 0) by omega), (show 0 ≤ (1 : Int) + (ctSlotS p0 : Int) by omega)]
  refine .of (fun _ => ⟨by simp, eqSlotS_ok _ (SlotMove_r0 p0 p1 p2 o0 hs0 hz0 o1 hs1 o2).1⟩) ?_
  simp [(show ¬ ((1 : Int) + (ctSlotS p0 : Int) < 0) by omega), (show 0 ≤ (1 : Int) + (ctSlotS p0 : Int) by omega)]
  refine .mut (markSlotS_ok (slotMove p0 p1 p2).1 (1) ((1 : Int)) (by simp) (by omega) (fun n hn => by have := hr0 n hn; omega)) ?_
  simp [mvPack]
  refine .of (heldSlotS_ok (slotMove p0 p1 p2).1 (1) _ (by simp) (by omega) (fun n hn => by have := hr0 n hn; omega)) ?_
  simp [(show ¬ ((1 : Int) + (ctSlotS (slotMove p0 p1 p2).1 : Int) < 0) by omega), (show 0 ≤ (1 : Int) + (ctSlotS (slotMove p0 p1 p2).1 : Int) by omega)]
  refine .of (toSlotS_ok p0 hs0) ?_
  simp [mSlotS]
  refine .of (I_SlotMove_ok p0 p1 p2 o0 hs0 hz0 o1 hs1 o2) ?_
  simp [mSlotS]
  refine .of (eqSlotS_ok _ (SlotMove_r0 p0 p1 p2 o0 hs0 hz0 o1 hs1 o2).1) ?_
  simp
  refine .of (heldSlotS_ok (slotMove p0 p1 p2).1 (1) _ (by simp) (by omega) (fun n hn => by have := hr0 n hn; omega)) ?_
  simp [(show ¬ ((1 : Int) + (ctSlotS (slotMove p0 p1 p2).1 : Int) < 0) by omega), (show 0 ≤ (1 : Int) + (ctSlotS (slotMove p0 p1 p2).1 : Int) by omega)]

theorem own : ownKnob Try.prog.godebug = none := by kernel_rfl
theorem laidOut : laidOutB Try.prog = true := by kernel_rfl
set_option maxRecDepth 100000 in
theorem lifted (os : Os) (started : os.Started) (H : Type) (enc : TypeId × Value → H) :
    ReturnsInHanded {} Try.checked os 7 .any (Rows.fnExactSlotMoveSpec.pre6 enc Try.prog Try.f7 Rows.fnExactSlotMoveRow.domain false) (Rows.fnExactSlotMoveSpec.post enc Try.prog Try.f7 false true false false) := by
  refine returnsInHanded_of_change (C := Try.checked) own started (by kernel_rfl) Try.func7
    (ChangeSpec.witness6 (enc := enc) (C := Try.checked) false ⟨#[], #[.slice none 0 0, .string ⟨#[]⟩, .int .i64 0], []⟩ 8 (by kernel_rfl) (by kernel_rfl) (by kernel_rfl) (by kernel_rfl)) ?_
  intro W base args ds gs before hval0 hW hcnd _
  have hval : ∀ (j : Nat) t v, Try.f7.params[j]? = some t → args[j]? = some v → Value.okWide Try.prog W .any base t v := hval0
  have hW' := hW
  obtain ⟨p, q, hA0, hV, rfl, hfz, hnd⟩ := hW
  have hA : DataW.TrodAll enc Try.prog W 0 (fun _ => true) true [41, 9, 3] args.toList ds p := hA0
  obtain ⟨v0, vs0, d0, ds0, p0, q0, hargs, rfl, rfl, h0, r0⟩ := trodAll_cons hA
  obtain ⟨v1, vs1, d1, ds1, p1, q1, rfl, rfl, rfl, h1, r1⟩ := trodAll_cons r0
  obtain ⟨v2, vs2, d2, ds2, p2, q2, rfl, rfl, rfl, h2, r2⟩ := trodAll_cons r1
  obtain ⟨rfl, rfl, rfl⟩ := trodAll_nil r2
  obtain rfl : args = #[v0, v1, v2] := by cases args; simp_all
  obtain ⟨rfl, rfl⟩ := trodVars_none hV
  have lt0 : ∀ x ∈ p0, x.block < W.heap.size := by obtain ⟨m, hm⟩ := h0; exact DataW.trod_lt m _ _ _ hm
  obtain ⟨ls0, f0, s0⟩ := arg_of_trod good cgood (t := 41) rfl (hval 0 41 v0 rfl rfl) h0
  obtain ⟨l0, rfl, b0⟩ := fit_SlotS ls0 f0
  have lt1 : ∀ x ∈ p1, x.block < W.heap.size := by obtain ⟨m, hm⟩ := h1; exact DataW.trod_lt m _ _ _ hm
  obtain ⟨ls1, f1, s1⟩ := arg_of_trod good cgood (t := 9) rfl (hval 1 9 v1 rfl rfl) h1
  obtain ⟨l1, rfl, b1⟩ := fit_Str ls1 f1
  have lt2 : ∀ x ∈ p2, x.block < W.heap.size := by obtain ⟨m, hm⟩ := h2; exact DataW.trod_lt m _ _ _ hm
  obtain ⟨ls2, f2, s2⟩ := arg_of_trod good cgood (t := 3) rfl (hval 2 3 v2 rfl rfl) h2
  obtain ⟨l2, rfl, b2⟩ := fit_Int ls2 f2
  refine (calls_of_vc (law l0 l1 l2 b0 b1 b2) (fun hv => .cons (s0 hv) (.cons (s1 hv) (.cons (s2 hv) (.nil))))).mono fun e W' ⟨he, bel⟩ => ?_
  subst he
  exact ⟨_, rfl, _, _, _, [], _, [], hW', trodAll_mk1 (shut_bool Try.underlying4 _), (trodAll_cons_mk (Below.trod laidOut (by kernel_rfl) (of_decide_eq_true (by kernel_rfl)) h0 bel lt0) (trodAll_cons_mk (Below.trod laidOut (by kernel_rfl) (of_decide_eq_true (by kernel_rfl)) h1 bel lt1) (trodAll_cons_mk (Below.trod laidOut (by kernel_rfl) (of_decide_eq_true (by kernel_rfl)) h2 bel lt2) trodAll_mk0))), rfl, bel.frame _, fun h => by cases h⟩

theorem over : Rows.fnExactSlotMoveRow.holds Try.pinned (OpenSpec.ofChange Rows.fnExactSlotMoveSpec) :=
  OpenClaim.holds_of_wide 7 Try.f7 rfl rfl rfl rfl rfl rfl rfl ⟨rfl, rfl, rfl, rfl, rfl⟩ rfl rfl rfl rfl rfl (by kernel_rfl) Try.func7 (by kernel_rfl)
    (of_decide_eq_true (by kernel_rfl)) (by unfold Func.isWrapper; first | (rw [if_pos (by decide +kernel)]; kernel_rfl) | (rw [if_neg (by decide +kernel)]; exact ⟨rfl, rfl⟩))
    (fun os started H enc _ => lifted os started H enc)
theorem proved : Rows.FnExactSlotMoveSaid := over
#print axioms proved
end fnExactSlotMove
end Go.Proofs.Ytjidbfocloocaaa
