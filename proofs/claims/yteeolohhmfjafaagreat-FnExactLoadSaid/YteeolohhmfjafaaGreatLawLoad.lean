/-
  The program's Load returns what the reference's returns, for all arguments, and leaves its arguments as they were: no condition.
-/
import Derived.Test.YteeolohhmfjafaaGreatRows
import Derived.Test.YteeolohhmfjafaaGreatG11
namespace Go.Proofs.YteeolohhmfjafaaGreat
open Go Go.Proofs Go.Sm
open Go.ChangeShapes Go.WideShapes Go.ChangeAt Go.RowKit
set_option linter.unusedVariables false
set_option linter.unusedSimpArgs false
namespace fnExactLoad
attribute [local simp] ti
attribute [-simp] OwRs OwML
set_option maxHeartbeats 4000000 in
theorem law (p0 : GFol) (p1 : GSnap) (o0 : okFol p0) (o1 : okSnap p1) : VC Tryz.prog 10 [vFol p0, vSnap p1] [(false, [(.s, .sc (.bool true))])] := by
  have q0 := okw_Fol p0 o0
  have q1 := okw_Snap p1 o1
  refine vc_of_ew good hm [0,1,2,3,4,5,21,26,6,7,8,9,10,11,53,58,63,12,82,13,14,90,93,15,16,110,115,118] Tryz.func10 rfl (by kernel_rfl) (by kernel_rfl) rfl ?_
  simp [Tryz.f10, vFol, vSnap]
  refine .of (szFol_ok p0 1048576 (by omega) (by omega) q0) ?_
  simp
  intro z0
  have y0 := szL_le' (l := wFol p0) (left := 1048576) (by omega)
  have hs0 : ∀ n ∈ wFol p0, n ≤ 1048576 := fun n hn => by have := (szL_le _ _ z0 (by omega)).2 n hn; omega
  have hz0 : (wFol p0).sum ≤ 1048576 := by have := (szL_le _ _ z0 (by omega)).1; omega
  refine .of (szSnap_ok p1 (szL (wFol p0) 1048576) (by omega) (by omega) q1) ?_
  simp
  intro z1
  have y1 := szL_le' (l := wSnap p1) (left := (szL (wFol p0) 1048576)) (by omega)
  have hs1 : ∀ n ∈ wSnap p1, n ≤ 1048576 := fun n hn => by have := (szL_le _ _ z1 (by omega)).2 n hn; omega
  have hz1 : (wSnap p1).sum ≤ 1048576 := by have := (szL_le _ _ z1 (by omega)).1; omega
  refine .of ((toFol_ok p0 hs0).frz (by simp [FullRs, FullML, mFol])) ?_
  simp [mFol]
  refine .of ((toSnap_ok p1 hs1).frz (by simp [FullRs, FullML, mSnap])) ?_
  simp [mSnap]
  refine .of (S_Load_ok p0 p1 o0 hs0 hz0 o1 hs1 hz1) ?_
  simp [md, lf, List.range', mFol, mSnap, fFol]
  refine .of (toFol_ok p0 hs0) ?_
  simp [md, lf, List.range', mFol]
  refine .of (toSnap_ok p1 hs1) ?_
  simp [md, lf, List.range', mSnap]
  refine .of (I_Load_ok p0 p1 o0 hs0 hz0 o1 hs1 hz1) ?_
  simp [md, lf, List.range', mFol, mSnap, fFol]
  refine .of (eqFol_ok _ (Load_r0 p0 p1 o0 hs0 hz0 o1 hs1 hz1).1) ?_
  simp [md, lf, List.range']
  refine .of (toFol_ok p0 hs0) ?_
  simp [md, lf, List.range', mFol]
  refine .of (eqFol_ok p0 hs0) ?_
  simp [md, lf, List.range']
  refine .of (toSnap_ok p1 hs1) ?_
  simp [md, lf, List.range', mSnap]
  refine .of (eqSnap_ok p1 hs1) ?_
  simp [md, lf, List.range']
  have hr0 := (Load_r0 p0 p1 o0 hs0 hz0 o1 hs1 hz1).1
  have hx0 := (Load_r0 p0 p1 o0 hs0 hz0 o1 hs1 hz1).2
  have hc0 := cvle_Fol (load p0 p1).1
  have hp0 := cvle_Fol p0
  have hp1 := cvle_Snap p1
  refine .mut (markVFol_ok p0 (1) ((1 : Int)) (by simp) (by omega) (fun n hn => by have := hs0 n hn; omega)) ?_
  simp [md, lf, List.range', mvBatch, mvCat, mvDb, mvDdl, mvFol, mvPack, mvRec, mvRow, mvSnap, mvStmt, mvTail, (show ¬ ((1 : Int) + (cvFol p0 : Int) < 0) by omega), (show 0 ≤ (1 : Int) + (cvFol p0 : Int) by omega)]
  refine .mut (markVSnap_ok p1 (1 + cvFol p0) ((1 : Int) + (cvFol p0 : Int)) (by simp) (by omega) (fun n hn => by have := hs1 n hn; omega)) ?_
  simp [md, lf, List.range', mvBatch, mvCat, mvDb, mvDdl, mvFol, mvPack, mvRec, mvRow, mvSnap, mvStmt, mvTail, (show ¬ ((1 : Int) + (cvFol p0 : Int) + (cvSnap p1 : Int) < 0) by omega), (show 0 ≤ (1 : Int) + (cvFol p0 : Int) + (cvSnap p1 : Int) by omega)]
  refine .of (fun _ => ⟨by simp, eqFol_ok _ (Load_r0 p0 p1 o0 hs0 hz0 o1 hs1 hz1).1⟩) ?_
  simp [md, lf, List.range', (show ¬ ((1 : Int) + (cvFol p0 : Int) + (cvSnap p1 : Int) < 0) by omega), (show 0 ≤ (1 : Int) + (cvFol p0 : Int) + (cvSnap p1 : Int) by omega)]
  refine .mut (markVFol_ok (load p0 p1).1 (1) ((1 : Int)) (by simp) (by omega) (fun n hn => by have := hr0 n hn; omega)) ?_
  simp [md, lf, List.range', mvBatch, mvCat, mvDb, mvDdl, mvFol, mvPack, mvRec, mvRow, mvSnap, mvStmt, mvTail]
  refine .of (heldVFol_ok (load p0 p1).1 (1) _ (by simp) (by omega) (fun n hn => by have := hr0 n hn; omega)) ?_
  simp [md, lf, List.range', (show ¬ ((1 : Int) + (cvFol (load p0 p1).1 : Int) < 0) by omega), (show 0 ≤ (1 : Int) + (cvFol (load p0 p1).1 : Int) by omega)]
  refine .of (toFol_ok p0 hs0) ?_
  simp [md, lf, List.range', mFol]
  refine .of (toSnap_ok p1 hs1) ?_
  simp [md, lf, List.range', mSnap]
  refine .of (I_Load_ok p0 p1 o0 hs0 hz0 o1 hs1 hz1) ?_
  simp [md, lf, List.range', mFol, mSnap, fFol]
  refine .of (eqFol_ok _ (Load_r0 p0 p1 o0 hs0 hz0 o1 hs1 hz1).1) ?_
  simp [md, lf, List.range']
  refine .of (heldVFol_ok (load p0 p1).1 (1) _ (by simp) (by omega) (fun n hn => by have := hr0 n hn; omega)) ?_
  simp [md, lf, List.range', (show ¬ ((1 : Int) + (cvFol (load p0 p1).1 : Int) < 0) by omega), (show 0 ≤ (1 : Int) + (cvFol (load p0 p1).1 : Int) by omega)]

theorem own : ownKnob Tryz.prog.godebug = none := by kernel_rfl
theorem laidOut : laidOutB Tryz.prog = true := by kernel_rfl
set_option maxRecDepth 100000 in
set_option maxHeartbeats 4000000 in
theorem lifted (os : Os) (started : os.Started) (H : Type) (enc : TypeId × Value → H) :
    ReturnsInHanded {} Tryz.checked os 10 .any (Rows.fnExactLoadSpec.pre6 enc Tryz.prog Tryz.f10 Rows.fnExactLoadRow.domain false) (Rows.fnExactLoadSpec.post enc Tryz.prog Tryz.f10 false true false false) := by
  refine returnsInHanded_of_change (C := Tryz.checked) own started (by kernel_rfl) Tryz.func10
    (ChangeSpec.witness6 (enc := enc) (C := Tryz.checked) false ⟨#[], #[.agg #[.slice none 0 0, .slice none 0 0, .int .i64 0, .int .i64 0], .agg #[.int .i64 0, .slice none 0 0, .slice none 0 0]], []⟩ 8 (by kernel_rfl) (by kernel_rfl) (by kernel_rfl) (by kernel_rfl)) ?_
  intro W base args ds gs before hval0 hW hcnd _
  have hval : ∀ (j : Nat) t v, Tryz.f10.params[j]? = some t → args[j]? = some v → Value.okWide Tryz.prog W .any base t v := hval0
  have hW' := hW
  obtain ⟨p, q, hA0, hV, rfl, hfz, hnd⟩ := hW
  have hA : DataW.TrodAll enc Tryz.prog W 0 (fun _ => true) true [98, 100] args.toList ds p := hA0
  obtain ⟨v0, vs0, d0, ds0, p0, q0, hargs, rfl, rfl, h0, r0⟩ := trodAll_cons hA
  obtain ⟨v1, vs1, d1, ds1, p1, q1, rfl, rfl, rfl, h1, r1⟩ := trodAll_cons r0
  obtain ⟨rfl, rfl, rfl⟩ := trodAll_nil r1
  obtain rfl : args = #[v0, v1] := by cases args; simp_all
  obtain ⟨rfl, rfl⟩ := trodVars_none hV
  have lt0 : ∀ x ∈ p0, x.block < W.heap.size := by obtain ⟨m, hm⟩ := h0; exact DataW.trod_lt m _ _ _ hm
  obtain ⟨ls0, f0, s0⟩ := arg_of_trod good cgood (t := 98) rfl (hval 0 98 v0 rfl rfl) h0
  obtain ⟨l0, rfl, b0⟩ := fit_Fol ls0 f0
  have lt1 : ∀ x ∈ p1, x.block < W.heap.size := by obtain ⟨m, hm⟩ := h1; exact DataW.trod_lt m _ _ _ hm
  obtain ⟨ls1, f1, s1⟩ := arg_of_trod good cgood (t := 100) rfl (hval 1 100 v1 rfl rfl) h1
  obtain ⟨l1, rfl, b1⟩ := fit_Snap ls1 f1
  refine (calls_of_vc (law l0 l1 b0 b1) (fun hv => .cons (s0 hv) (.cons (s1 hv) (.nil)))).mono fun e W' ⟨he, bel⟩ => ?_
  subst he
  exact ⟨_, rfl, _, _, _, [], _, [], hW', trodAll_mk1 (shut_bool Tryz.underlying4 _), (trodAll_cons_mk (Below.trod laidOut (by kernel_rfl) (of_decide_eq_true (by kernel_rfl)) h0 bel lt0) (trodAll_cons_mk (Below.trod laidOut (by kernel_rfl) (of_decide_eq_true (by kernel_rfl)) h1 bel lt1) trodAll_mk0)), rfl, bel.frame _, fun h => by cases h⟩

set_option maxRecDepth 100000 in
set_option maxHeartbeats 0 in
theorem joined : joinedFacts Tryz.pinned.checked.prog 10 Tryz.f10 Rows.fnExactLoadSpec Rows.fnExactLoadRow = true := by
  unfold joinedFacts
  repeat' with_reducible refine Bool.and_eq_true_iff.2 ⟨?_, ?_⟩
  all_goals as_aux_lemma => kernel_rfl
set_option maxHeartbeats 0 in
theorem over : Rows.fnExactLoadRow.holds Tryz.pinned (OpenSpec.ofChange Rows.fnExactLoadSpec) :=
  OpenClaim.holds_of_wide 10 Tryz.f10 rfl rfl rfl rfl rfl rfl rfl ⟨rfl, rfl, rfl, rfl, rfl⟩ rfl rfl rfl rfl rfl (by kernel_rfl) Tryz.func10 joined
    (of_decide_eq_true (by kernel_rfl)) (by unfold Func.isWrapper; first | (rw [if_pos (by decide +kernel)]; kernel_rfl) | (rw [if_neg (by decide +kernel)]; exact ⟨rfl, rfl⟩))
    (fun os started H enc _ => lifted os started H enc)
theorem proved : Rows.FnExactLoadSaid := over
#print axioms proved
end fnExactLoad
end Go.Proofs.YteeolohhmfjafaaGreat
