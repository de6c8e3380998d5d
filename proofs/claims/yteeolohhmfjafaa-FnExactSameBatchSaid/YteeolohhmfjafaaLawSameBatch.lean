/-
  The program's SameBatch returns what the reference's returns, for all arguments, and leaves its arguments as they were: no condition.
-/
import Derived.Test.YteeolohhmfjafaaRows
import Derived.Test.YteeolohhmfjafaaG6
namespace Go.Proofs.Yteeolohhmfjafaa
open Go Go.Proofs Go.Sm
open Go.ChangeShapes Go.WideShapes Go.ChangeAt Go.RowKit
set_option linter.unusedVariables false
set_option linter.unusedSimpArgs false
namespace fnExactSameBatch
attribute [local simp] ti
set_option maxHeartbeats 4000000 in
theorem law (p0 : GBatch) (p1 : GBatch) (o0 : okBatch p0) (o1 : okBatch p1) : VC Try.prog 5 [vBatch p0, vBatch p1] [(false, [(.s, .sc (.bool true))])] := by
  have q0 := okw_Batch p0 o0
  have q1 := okw_Batch p1 o1
  refine vc_of_ew good hm [0,1,2,3,4,5,14,19,6,7,8,9,34,39,44] Try.func5 rfl (by kernel_rfl) (by kernel_rfl) rfl ?_
  simp [Try.f5, vBatch]
  refine .of (szBatch_ok p0 1048576 (by omega) (by omega) q0) ?_
  simp
  intro z0
  have y0 := szL_le' (l := wBatch p0) (left := 1048576) (by omega)
  have hs0 : ∀ n ∈ wBatch p0, n ≤ 1048576 := fun n hn => by have := (szL_le _ _ z0 (by omega)).2 n hn; omega
  have hz0 : (wBatch p0).sum ≤ 1048576 := by have := (szL_le _ _ z0 (by omega)).1; omega
  refine .of (szBatch_ok p1 (szL (wBatch p0) 1048576) (by omega) (by omega) q1) ?_
  simp
  intro z1
  have y1 := szL_le' (l := wBatch p1) (left := (szL (wBatch p0) 1048576)) (by omega)
  have hs1 : ∀ n ∈ wBatch p1, n ≤ 1048576 := fun n hn => by have := (szL_le _ _ z1 (by omega)).2 n hn; omega
  have hz1 : (wBatch p1).sum ≤ 1048576 := by have := (szL_le _ _ z1 (by omega)).1; omega
  refine .of (toBatch_ok p0 hs0) ?_
  simp [mBatch]
  refine .of (toBatch_ok p1 hs1) ?_
  simp [mBatch]
  refine .of (S_SameBatch_ok p0 p1 o0 hs0 hz0 o1 hs1 hz1) ?_
  simp [mBatch]
  refine .of (toBatch_ok p0 hs0) ?_
  simp [mBatch]
  refine .of (toBatch_ok p1 hs1) ?_
  simp [mBatch]
  refine .of (I_SameBatch_ok p0 p1 o0 hs0 hz0 o1 hs1 hz1) ?_
  simp [mBatch]
  refine .of (toBatch_ok p0 hs0) ?_
  simp [mBatch]
  refine .of (eqBatch_ok p0 hs0) ?_
  simp
  refine .of (toBatch_ok p1 hs1) ?_
  simp [mBatch]
  refine .of (eqBatch_ok p1 hs1) ?_
  simp

theorem own : ownKnob Try.prog.godebug = none := by kernel_rfl
theorem laidOut : laidOutB Try.prog = true := by kernel_rfl
set_option maxRecDepth 100000 in
set_option maxHeartbeats 4000000 in
theorem lifted (os : Os) (started : os.Started) (H : Type) (enc : TypeId × Value → H) :
    ReturnsInHanded {} Try.checked os 5 .any (Rows.fnExactSameBatchSpec.pre6 enc Try.prog Try.f5 Rows.fnExactSameBatchRow.domain false) (Rows.fnExactSameBatchSpec.post enc Try.prog Try.f5 false true false false) := by
  refine returnsInHanded_of_change (C := Try.checked) own started (by kernel_rfl) Try.func5
    (ChangeSpec.witness6 (enc := enc) (C := Try.checked) false ⟨#[], #[.agg #[.int .i64 0, .int .i64 0, .slice none 0 0], .agg #[.int .i64 0, .int .i64 0, .slice none 0 0]], []⟩ 8 (by kernel_rfl) (by kernel_rfl) (by kernel_rfl) (by kernel_rfl)) ?_
  intro W base args ds gs before hval0 hW hcnd _
  have hval : ∀ (j : Nat) t v, Try.f5.params[j]? = some t → args[j]? = some v → Value.okWide Try.prog W .any base t v := hval0
  have hW' := hW
  obtain ⟨p, q, hA0, hV, rfl, hfz, hnd⟩ := hW
  have hA : DataW.TrodAll enc Try.prog W 0 (fun _ => true) true [50, 50] args.toList ds p := hA0
  obtain ⟨v0, vs0, d0, ds0, p0, q0, hargs, rfl, rfl, h0, r0⟩ := trodAll_cons hA
  obtain ⟨v1, vs1, d1, ds1, p1, q1, rfl, rfl, rfl, h1, r1⟩ := trodAll_cons r0
  obtain ⟨rfl, rfl, rfl⟩ := trodAll_nil r1
  obtain rfl : args = #[v0, v1] := by cases args; simp_all
  obtain ⟨rfl, rfl⟩ := trodVars_none hV
  have lt0 : ∀ x ∈ p0, x.block < W.heap.size := by obtain ⟨m, hm⟩ := h0; exact DataW.trod_lt m _ _ _ hm
  obtain ⟨ls0, f0, s0⟩ := arg_of_trod good cgood (t := 50) rfl (hval 0 50 v0 rfl rfl) h0
  obtain ⟨l0, rfl, b0⟩ := fit_Batch ls0 f0
  have lt1 : ∀ x ∈ p1, x.block < W.heap.size := by obtain ⟨m, hm⟩ := h1; exact DataW.trod_lt m _ _ _ hm
  obtain ⟨ls1, f1, s1⟩ := arg_of_trod good cgood (t := 50) rfl (hval 1 50 v1 rfl rfl) h1
  obtain ⟨l1, rfl, b1⟩ := fit_Batch ls1 f1
  refine (calls_of_vc (law l0 l1 b0 b1) (fun hv => .cons (s0 hv) (.cons (s1 hv) (.nil)))).mono fun e W' ⟨he, bel⟩ => ?_
  subst he
  exact ⟨_, rfl, _, _, _, [], _, [], hW', trodAll_mk1 (shut_bool Try.underlying4 _), (trodAll_cons_mk (Below.trod laidOut (by kernel_rfl) (of_decide_eq_true (by kernel_rfl)) h0 bel lt0) (trodAll_cons_mk (Below.trod laidOut (by kernel_rfl) (of_decide_eq_true (by kernel_rfl)) h1 bel lt1) trodAll_mk0)), rfl, bel.frame _, fun h => by cases h⟩

set_option maxRecDepth 100000 in
set_option maxHeartbeats 0 in
theorem joined : joinedFacts Try.pinned.checked.prog 5 Try.f5 Rows.fnExactSameBatchSpec Rows.fnExactSameBatchRow = true := by
  unfold joinedFacts
  repeat' with_reducible refine Bool.and_eq_true_iff.2 ⟨?_, ?_⟩
  all_goals as_aux_lemma => kernel_rfl
set_option maxHeartbeats 0 in
theorem over : Rows.fnExactSameBatchRow.holds Try.pinned (OpenSpec.ofChange Rows.fnExactSameBatchSpec) :=
  OpenClaim.holds_of_wide 5 Try.f5 rfl rfl rfl rfl rfl rfl rfl ⟨rfl, rfl, rfl, rfl, rfl⟩ rfl rfl rfl rfl rfl (by kernel_rfl) Try.func5 joined
    (of_decide_eq_true (by kernel_rfl)) (by unfold Func.isWrapper; first | (rw [if_pos (by decide +kernel)]; kernel_rfl) | (rw [if_neg (by decide +kernel)]; exact ⟨rfl, rfl⟩))
    (fun os started H enc _ => lifted os started H enc)
theorem proved : Rows.FnExactSameBatchSaid := over
#print axioms proved
end fnExactSameBatch
end Go.Proofs.Yteeolohhmfjafaa
