/-
  The program's PartsOf returns what the reference's returns, for all arguments, and leaves its arguments as they were: no condition.
-/
import Derived.Test.YteeolohhmfjafaaGreatRows
import Derived.Test.YteeolohhmfjafaaGreatG10
namespace Go.Proofs.YteeolohhmfjafaaGreat
open Go Go.Proofs Go.Sm
open Go.ChangeShapes Go.WideShapes Go.ChangeAt Go.RowKit
set_option linter.unusedVariables false
set_option linter.unusedSimpArgs false
namespace fnExactPartsOf
attribute [local simp] ti
set_option maxHeartbeats 4000000 in
theorem law (p0 : GDb) (p1 : List GStmt) (o0 : okDb p0) (o1 : okStmtS p1) : VC Tryz.prog 3 [vDb p0, vStmtS p1] [(false, [(.s, .sc (.bool true))])] := by
  have q0 := okw_Db p0 o0
  have q1 := okw_StmtS p1 o1
  refine vc_of_ew good hm [0,1,2,4,5,21,26,6,7,8,9,10,11,53,58,63,12,82,13,14,90,93,15,16,110,115,118] Tryz.func3 rfl (by kernel_rfl) (by kernel_rfl) rfl ?_
  simp [Tryz.f3, vDb, vStmtS]
  refine .of (szDb_ok p0 1048576 (by omega) (by omega) q0) ?_
  simp
  intro z0
  have y0 := szL_le' (l := wDb p0) (left := 1048576) (by omega)
  have hs0 : ∀ n ∈ wDb p0, n ≤ 1048576 := fun n hn => by have := (szL_le _ _ z0 (by omega)).2 n hn; omega
  have hz0 : (wDb p0).sum ≤ 1048576 := by have := (szL_le _ _ z0 (by omega)).1; omega
  refine .of (szStmtS_ok p1 (szL (wDb p0) 1048576) (by omega) (by omega) q1) ?_
  simp
  intro z1
  have y1 := szL_le' (l := wStmtS p1) (left := (szL (wDb p0) 1048576)) (by omega)
  have hs1 : ∀ n ∈ wStmtS p1, n ≤ 1048576 := fun n hn => by have := (szL_le _ _ z1 (by omega)).2 n hn; omega
  have hz1 : (wStmtS p1).sum ≤ 1048576 := by have := (szL_le _ _ z1 (by omega)).1; omega
  refine .of (toDb_ok p0 hs0) ?_
  simp [mDb]
  refine .of (toStmtS_ok p1 hs1) ?_
  simp [mStmtS]
  refine .of (S_PartsOf_ok p0 p1 o0 hs0 hz0 o1 hs1 hz1) ?_
  simp [mDb, mPartS, mStmtS]
  refine .of (toDb_ok p0 hs0) ?_
  simp [mDb]
  refine .of (toStmtS_ok p1 hs1) ?_
  simp [mStmtS]
  refine .of (I_PartsOf_ok p0 p1 o0 hs0 hz0 o1 hs1 hz1) ?_
  simp [mDb, mPartS, mStmtS]
  refine .of (eqPartS_ok _ (PartsOf_r0 p0 p1 o0 hs0 hz0 o1 hs1 hz1).1) ?_
  simp
  refine .of (toDb_ok p0 hs0) ?_
  simp [mDb]
  refine .of (eqDb_ok p0 hs0) ?_
  simp
  refine .of (toStmtS_ok p1 hs1) ?_
  simp [mStmtS]
  refine .of (eqStmtS_ok p1 hs1) ?_
  simp
  have hr0 := (PartsOf_r0 p0 p1 o0 hs0 hz0 o1 hs1 hz1).1
  have hx0 := (PartsOf_r0 p0 p1 o0 hs0 hz0 o1 hs1 hz1).2
  have hc0 := ctle_PartS (partsOf p0 p1).1
  have hp0 := cvle_Db p0
  have hp1 := ctle_StmtS p1
  refine .mut (markVDb_ok p0 (1) ((1 : Int)) (by simp) (by omega) (fun n hn => by have := hs0 n hn; omega)) ?_
  simp [mvBatch, mvCat, mvDb, mvDdl, mvFol, mvPack, mvRec, mvRow, mvSnap, mvStmt, mvTail, (show ¬ ((1 : Int) + (cvDb p0 : Int) < 0) by omega), (show 0 ≤ (1 : Int) + (cvDb p0 : Int) by omega)]
  refine .mut (markStmtS_ok p1 (1 + cvDb p0) ((1 : Int) + (cvDb p0 : Int)) (by simp) (by omega) (fun n hn => by have := hs1 n hn; omega)) ?_
  simp [mvBatch, mvCat, mvDb, mvDdl, mvFol, mvPack, mvRec, mvRow, mvSnap, mvStmt, mvTail, (show ¬ ((1 : Int) + (cvDb p0 : Int) + (ctStmtS p1 : Int) < 0) by omega), (show 0 ≤ (1 : Int) + (cvDb p0 : Int) + (ctStmtS p1 : Int) by omega)]
  refine .of (fun _ => ⟨by simp, eqPartS_ok _ (PartsOf_r0 p0 p1 o0 hs0 hz0 o1 hs1 hz1).1⟩) ?_
  simp [(show ¬ ((1 : Int) + (cvDb p0 : Int) + (ctStmtS p1 : Int) < 0) by omega), (show 0 ≤ (1 : Int) + (cvDb p0 : Int) + (ctStmtS p1 : Int) by omega)]
  refine .mut (markPartS_ok (partsOf p0 p1).1 (1) ((1 : Int)) (by simp) (by omega) (fun n hn => by have := hr0 n hn; omega)) ?_
  simp [mvBatch, mvCat, mvDb, mvDdl, mvFol, mvPack, mvRec, mvRow, mvSnap, mvStmt, mvTail]
  refine .of (heldPartS_ok (partsOf p0 p1).1 (1) _ (by simp) (by omega) (fun n hn => by have := hr0 n hn; omega)) ?_
  simp [(show ¬ ((1 : Int) + (ctPartS (partsOf p0 p1).1 : Int) < 0) by omega), (show 0 ≤ (1 : Int) + (ctPartS (partsOf p0 p1).1 : Int) by omega)]
  refine .of (toDb_ok p0 hs0) ?_
  simp [mDb]
  refine .of (toStmtS_ok p1 hs1) ?_
  simp [mStmtS]
  refine .of (I_PartsOf_ok p0 p1 o0 hs0 hz0 o1 hs1 hz1) ?_
  simp [mDb, mPartS, mStmtS]
  refine .of (eqPartS_ok _ (PartsOf_r0 p0 p1 o0 hs0 hz0 o1 hs1 hz1).1) ?_
  simp
  refine .of (heldPartS_ok (partsOf p0 p1).1 (1) _ (by simp) (by omega) (fun n hn => by have := hr0 n hn; omega)) ?_
  simp [(show ¬ ((1 : Int) + (ctPartS (partsOf p0 p1).1 : Int) < 0) by omega), (show 0 ≤ (1 : Int) + (ctPartS (partsOf p0 p1).1 : Int) by omega)]

theorem own : ownKnob Tryz.prog.godebug = none := by kernel_rfl
theorem laidOut : laidOutB Tryz.prog = true := by kernel_rfl
set_option maxRecDepth 100000 in
set_option maxHeartbeats 4000000 in
theorem lifted (os : Os) (started : os.Started) (H : Type) (enc : TypeId × Value → H) :
    ReturnsInHanded {} Tryz.checked os 3 .any (Rows.fnExactPartsOfSpec.pre6 enc Tryz.prog Tryz.f3 Rows.fnExactPartsOfRow.domain false) (Rows.fnExactPartsOfSpec.post enc Tryz.prog Tryz.f3 false true false false) := by
  refine returnsInHanded_of_change (C := Tryz.checked) own started (by kernel_rfl) Tryz.func3
    (ChangeSpec.witness6 (enc := enc) (C := Tryz.checked) false ⟨#[], #[.agg #[.slice none 0 0, .slice none 0 0], .slice none 0 0], []⟩ 8 (by kernel_rfl) (by kernel_rfl) (by kernel_rfl) (by kernel_rfl)) ?_
  intro W base args ds gs before hval0 hW hcnd _
  have hval : ∀ (j : Nat) t v, Tryz.f3.params[j]? = some t → args[j]? = some v → Value.okWide Tryz.prog W .any base t v := hval0
  have hW' := hW
  obtain ⟨p, q, hA0, hV, rfl, hfz, hnd⟩ := hW
  have hA : DataW.TrodAll enc Tryz.prog W 0 (fun _ => true) true [27, 28] args.toList ds p := hA0
  obtain ⟨v0, vs0, d0, ds0, p0, q0, hargs, rfl, rfl, h0, r0⟩ := trodAll_cons hA
  obtain ⟨v1, vs1, d1, ds1, p1, q1, rfl, rfl, rfl, h1, r1⟩ := trodAll_cons r0
  obtain ⟨rfl, rfl, rfl⟩ := trodAll_nil r1
  obtain rfl : args = #[v0, v1] := by cases args; simp_all
  obtain ⟨rfl, rfl⟩ := trodVars_none hV
  have lt0 : ∀ x ∈ p0, x.block < W.heap.size := by obtain ⟨m, hm⟩ := h0; exact DataW.trod_lt m _ _ _ hm
  obtain ⟨ls0, f0, s0⟩ := arg_of_trod good cgood (t := 27) rfl (hval 0 27 v0 rfl rfl) h0
  obtain ⟨l0, rfl, b0⟩ := fit_Db ls0 f0
  have lt1 : ∀ x ∈ p1, x.block < W.heap.size := by obtain ⟨m, hm⟩ := h1; exact DataW.trod_lt m _ _ _ hm
  obtain ⟨ls1, f1, s1⟩ := arg_of_trod good cgood (t := 28) rfl (hval 1 28 v1 rfl rfl) h1
  obtain ⟨l1, rfl, b1⟩ := fit_StmtS ls1 f1
  refine (calls_of_vc (law l0 l1 b0 b1) (fun hv => .cons (s0 hv) (.cons (s1 hv) (.nil)))).mono fun e W' ⟨he, bel⟩ => ?_
  subst he
  exact ⟨_, rfl, _, _, _, [], _, [], hW', trodAll_mk1 (shut_bool Tryz.underlying4 _), (trodAll_cons_mk (Below.trod laidOut (by kernel_rfl) (of_decide_eq_true (by kernel_rfl)) h0 bel lt0) (trodAll_cons_mk (Below.trod laidOut (by kernel_rfl) (of_decide_eq_true (by kernel_rfl)) h1 bel lt1) trodAll_mk0)), rfl, bel.frame _, fun h => by cases h⟩

set_option maxRecDepth 100000 in
set_option maxHeartbeats 0 in
theorem joined : joinedFacts Tryz.pinned.checked.prog 3 Tryz.f3 Rows.fnExactPartsOfSpec Rows.fnExactPartsOfRow = true := by
  unfold joinedFacts
  repeat' with_reducible refine Bool.and_eq_true_iff.2 ⟨?_, ?_⟩
  all_goals as_aux_lemma => kernel_rfl
set_option maxHeartbeats 0 in
theorem over : Rows.fnExactPartsOfRow.holds Tryz.pinned (OpenSpec.ofChange Rows.fnExactPartsOfSpec) :=
  OpenClaim.holds_of_wide 3 Tryz.f3 rfl rfl rfl rfl rfl rfl rfl ⟨rfl, rfl, rfl, rfl, rfl⟩ rfl rfl rfl rfl rfl (by kernel_rfl) Tryz.func3 joined
    (of_decide_eq_true (by kernel_rfl)) (by unfold Func.isWrapper; first | (rw [if_pos (by decide +kernel)]; kernel_rfl) | (rw [if_neg (by decide +kernel)]; exact ⟨rfl, rfl⟩))
    (fun os started H enc _ => lifted os started H enc)
theorem proved : Rows.FnExactPartsOfSaid := over
#print axioms proved
end fnExactPartsOf
end Go.Proofs.YteeolohhmfjafaaGreat
