/-
  The program's PackOf returns what the reference's returns, for all arguments, and leaves its arguments as they were: no condition.
-/
import Derived.Test.YteeolohhmfjafaaGreatRows
import Derived.Test.YteeolohhmfjafaaGreatG7
namespace Go.Proofs.YteeolohhmfjafaaGreat
open Go Go.Proofs Go.Sm
open Go.ChangeShapes Go.WideShapes Go.ChangeAt Go.RowKit
set_option linter.unusedVariables false
set_option linter.unusedSimpArgs false
namespace fnExactPackOf
attribute [local simp] ti
attribute [-simp] OwRs OwML
set_option maxHeartbeats 4000000 in
theorem law (p0 : GBatch) (o0 : okBatch p0) : VC Tryz.prog 7 [vBatch p0] [(false, [(.s, .sc (.bool true))])] := by
  have q0 := okw_Batch p0 o0
  refine vc_of_ew good hm [0,1,2,3,18,4,5,6,7,8,40,45,9,61,10,11,69,72,12,13,87,92,95] Tryz.func7 rfl (by kernel_rfl) (by kernel_rfl) rfl ?_
  simp [Tryz.f7, vBatch]
  refine .of (szBatch_ok p0 1048576 (by omega) (by omega) q0) ?_
  simp
  intro z0
  have y0 := szL_le' (l := wBatch p0) (left := 1048576) (by omega)
  have hs0 : ∀ n ∈ wBatch p0, n ≤ 1048576 := fun n hn => by have := (szL_le _ _ z0 (by omega)).2 n hn; omega
  have hz0 : (wBatch p0).sum ≤ 1048576 := by have := (szL_le _ _ z0 (by omega)).1; omega
  refine .of (toBatch_ok p0 hs0) ?_
  simp [mBatch]
  refine .of (S_PackOf_ok p0 o0 hs0 hz0) ?_
  simp [md, lf, List.range', mBatch, mPack]
  refine .of (toBatch_ok p0 hs0) ?_
  simp [md, lf, List.range', mBatch]
  refine .of (I_PackOf_ok p0 o0 hs0 hz0) ?_
  simp [md, lf, List.range', mBatch, mPack]
  refine .of (eqPack_ok _ (PackOf_r0 p0 o0 hs0 hz0).1) ?_
  simp [md, lf, List.range']
  refine .of (toBatch_ok p0 hs0) ?_
  simp [md, lf, List.range', mBatch]
  refine .of (eqBatch_ok p0 hs0) ?_
  simp [md, lf, List.range']
  have hr0 := (PackOf_r0 p0 o0 hs0 hz0).1
  have hx0 := (PackOf_r0 p0 o0 hs0 hz0).2
  have hc0 := cvle_Pack (packOf p0).1
  have hp0 := cvle_Batch p0
  refine .mut (markVBatch_ok p0 (1) ((1 : Int)) (by simp) (by omega) (fun n hn => by have := hs0 n hn; omega)) ?_
  simp [md, lf, List.range', mvBatch, mvCat, mvDb, mvDdl, mvFol, mvPack, mvRec, mvRow, mvSnap, mvStmt, mvTail, (show ¬ ((1 : Int) + (cvBatch p0 : Int) < 0) by omega), (show 0 ≤ (1 : Int) + (cvBatch p0 : Int) by omega)]
  refine .of (fun _ => ⟨by simp, eqPack_ok _ (PackOf_r0 p0 o0 hs0 hz0).1⟩) ?_
  simp [md, lf, List.range', (show ¬ ((1 : Int) + (cvBatch p0 : Int) < 0) by omega), (show 0 ≤ (1 : Int) + (cvBatch p0 : Int) by omega)]
  refine .mut (markVPack_ok (packOf p0).1 (1) ((1 : Int)) (by simp) (by omega) (fun n hn => by have := hr0 n hn; omega)) ?_
  simp [md, lf, List.range', mvBatch, mvCat, mvDb, mvDdl, mvFol, mvPack, mvRec, mvRow, mvSnap, mvStmt, mvTail]
  refine .of (heldVPack_ok (packOf p0).1 (1) _ (by simp) (by omega) (fun n hn => by have := hr0 n hn; omega)) ?_
  simp [md, lf, List.range', (show ¬ ((1 : Int) + (cvPack (packOf p0).1 : Int) < 0) by omega), (show 0 ≤ (1 : Int) + (cvPack (packOf p0).1 : Int) by omega)]
  refine .of (toBatch_ok p0 hs0) ?_
  simp [md, lf, List.range', mBatch]
  refine .of (I_PackOf_ok p0 o0 hs0 hz0) ?_
  simp [md, lf, List.range', mBatch, mPack]
  refine .of (eqPack_ok _ (PackOf_r0 p0 o0 hs0 hz0).1) ?_
  simp [md, lf, List.range']
  refine .of (heldVPack_ok (packOf p0).1 (1) _ (by simp) (by omega) (fun n hn => by have := hr0 n hn; omega)) ?_
  simp [md, lf, List.range', (show ¬ ((1 : Int) + (cvPack (packOf p0).1 : Int) < 0) by omega), (show 0 ≤ (1 : Int) + (cvPack (packOf p0).1 : Int) by omega)]

theorem own : ownKnob Tryz.prog.godebug = none := by kernel_rfl
theorem laidOut : laidOutB Tryz.prog = true := by kernel_rfl
set_option maxRecDepth 100000 in
set_option maxHeartbeats 4000000 in
theorem lifted (os : Os) (started : os.Started) (H : Type) (enc : TypeId × Value → H) :
    ReturnsInHanded {} Tryz.checked os 7 .any (Rows.fnExactPackOfSpec.pre6 enc Tryz.prog Tryz.f7 Rows.fnExactPackOfRow.domain false) (Rows.fnExactPackOfSpec.post enc Tryz.prog Tryz.f7 false true false false) := by
  refine returnsInHanded_of_change (C := Tryz.checked) own started (by kernel_rfl) Tryz.func7
    (ChangeSpec.witness6 (enc := enc) (C := Tryz.checked) false ⟨#[], #[.agg #[.int .i64 0, .int .i64 0, .slice none 0 0]], []⟩ 8 (by kernel_rfl) (by kernel_rfl) (by kernel_rfl) (by kernel_rfl)) ?_
  intro W base args ds gs before hval0 hW hcnd _
  have hval : ∀ (j : Nat) t v, Tryz.f7.params[j]? = some t → args[j]? = some v → Value.okWide Tryz.prog W .any base t v := hval0
  have hW' := hW
  obtain ⟨p, q, hA0, hV, rfl, hfz, hnd⟩ := hW
  have hA : DataW.TrodAll enc Tryz.prog W 0 (fun _ => true) true [70] args.toList ds p := hA0
  obtain ⟨v0, vs0, d0, ds0, p0, q0, hargs, rfl, rfl, h0, r0⟩ := trodAll_cons hA
  obtain ⟨rfl, rfl, rfl⟩ := trodAll_nil r0
  obtain rfl : args = #[v0] := by cases args; simp_all
  obtain ⟨rfl, rfl⟩ := trodVars_none hV
  have lt0 : ∀ x ∈ p0, x.block < W.heap.size := by obtain ⟨m, hm⟩ := h0; exact DataW.trod_lt m _ _ _ hm
  obtain ⟨ls0, f0, s0⟩ := arg_of_trod good cgood (t := 70) rfl (hval 0 70 v0 rfl rfl) h0
  obtain ⟨l0, rfl, b0⟩ := fit_Batch ls0 f0
  refine (calls_of_vc (law l0 b0) (fun hv => .cons (s0 hv) (.nil))).mono fun e W' ⟨he, bel⟩ => ?_
  subst he
  exact ⟨_, rfl, _, _, _, [], _, [], hW', trodAll_mk1 (shut_bool Tryz.underlying4 _), (trodAll_cons_mk (Below.trod laidOut (by kernel_rfl) (of_decide_eq_true (by kernel_rfl)) h0 bel lt0) trodAll_mk0), rfl, bel.frame _, fun h => by cases h⟩

set_option maxRecDepth 100000 in
set_option maxHeartbeats 0 in
theorem joined : joinedFacts Tryz.pinned.checked.prog 7 Tryz.f7 Rows.fnExactPackOfSpec Rows.fnExactPackOfRow = true := by
  unfold joinedFacts
  repeat' with_reducible refine Bool.and_eq_true_iff.2 ⟨?_, ?_⟩
  all_goals as_aux_lemma => kernel_rfl
set_option maxHeartbeats 0 in
theorem over : Rows.fnExactPackOfRow.holds Tryz.pinned (OpenSpec.ofChange Rows.fnExactPackOfSpec) :=
  OpenClaim.holds_of_wide 7 Tryz.f7 rfl rfl rfl rfl rfl rfl rfl ⟨rfl, rfl, rfl, rfl, rfl⟩ rfl rfl rfl rfl rfl (by kernel_rfl) Tryz.func7 joined
    (of_decide_eq_true (by kernel_rfl)) (by unfold Func.isWrapper; first | (rw [if_pos (by decide +kernel)]; kernel_rfl) | (rw [if_neg (by decide +kernel)]; exact ⟨rfl, rfl⟩))
    (fun os started H enc _ => lifted os started H enc)
theorem proved : Rows.FnExactPackOfSaid := over
#print axioms proved
end fnExactPackOf
end Go.Proofs.YteeolohhmfjafaaGreat
