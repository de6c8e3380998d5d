/-
  The program's MapRow returns what the reference's returns, for all arguments, and leaves its arguments as they were: no condition.
-/
import Derived.Test.YtkbknmcafiepgaaRows
import Derived.Test.YtkbknmcafiepgaaMapRow
namespace Go.Proofs.Ytkbknmcafiepgaa
open Go Go.Proofs Go.Sm
open Go.ChangeShapes Go.WideShapes Go.ChangeAt Go.RowKit
set_option linter.unusedVariables false
set_option linter.unusedSimpArgs false
namespace fnExactMapRow
attribute [local simp] ti
set_option maxHeartbeats 4000000 in
theorem law (p0 : List ByteArray) (p1 : GTable) (p2 : List GVal) (o0 : okStrS p0) (o1 : okTable p1) (o2 : okValS p2) : VC Try.prog 4 [vStrS p0, vTable p1, vValS p2] [(false, [(.s, .sc (.bool true))])] := by
  have q0 := okw_StrS p0 o0
  have q1 := okw_Table p1 o1
  have q2 := okw_ValS p2 o2
  refine vc_of_ew good hm [0,1,2,4,6,7,24,29,34,8,9,10,11,12,13,14,66,71,76,81,15,103,16,17,111,114,18,19,133,138,141] Try.func4 rfl (by kernel_rfl) (by kernel_rfl) rfl ?_
  simp [Try.f4, vStrS, vTable, vValS]
  refine .of (szStrS_ok p0 1048576 (by omega) (by omega) q0) ?_
  simp
  intro z0
  have y0 := szL_le' (l := wStrS p0) (left := 1048576) (by omega)
  have hs0 : ∀ n ∈ wStrS p0, n ≤ 1048576 := fun n hn => by have := (szL_le _ _ z0 (by omega)).2 n hn; omega
  have hz0 : (wStrS p0).sum ≤ 1048576 := by have := (szL_le _ _ z0 (by omega)).1; omega
  refine .of (szTable_ok p1 (szL (wStrS p0) 1048576) (by omega) (by omega) q1) ?_
  simp
  intro z1
  have y1 := szL_le' (l := wTable p1) (left := (szL (wStrS p0) 1048576)) (by omega)
  have hs1 : ∀ n ∈ wTable p1, n ≤ 1048576 := fun n hn => by have := (szL_le _ _ z1 (by omega)).2 n hn; omega
  have hz1 : (wTable p1).sum ≤ 1048576 := by have := (szL_le _ _ z1 (by omega)).1; omega
  refine .of (szValS_ok p2 (szL (wTable p1) (szL (wStrS p0) 1048576)) (by omega) (by omega) q2) ?_
  simp
  intro z2
  have y2 := szL_le' (l := wValS p2) (left := (szL (wTable p1) (szL (wStrS p0) 1048576))) (by omega)
  have hs2 : ∀ n ∈ wValS p2, n ≤ 1048576 := fun n hn => by have := (szL_le _ _ z2 (by omega)).2 n hn; omega
  have hz2 : (wValS p2).sum ≤ 1048576 := by have := (szL_le _ _ z2 (by omega)).1; omega
  refine .of (toStrS_ok p0 hs0) ?_
  simp [mStrS]
  refine .of (toTable_ok p1 hs1) ?_
  simp [mTable]
  refine .of (toValS_ok p2 hs2) ?_
  simp [mValS]
  refine .of (S_MapRow_ok p0 p1 p2 o0 hs0 hz0 o1 hs1 hz1 o2 hs2 hz2) ?_
  simp [md, lf, List.range', mRow, mStrS, mTable, mValS]
  refine .of (toStrS_ok p0 hs0) ?_
  simp [md, lf, List.range', mStrS]
  refine .of (toTable_ok p1 hs1) ?_
  simp [md, lf, List.range', mTable]
  refine .of (toValS_ok p2 hs2) ?_
  simp [md, lf, List.range', mValS]
  refine .of (I_MapRow_ok p0 p1 p2 o0 hs0 hz0 o1 hs1 hz1 o2 hs2 hz2) ?_
  simp [md, lf, List.range', mRow, mStrS, mTable, mValS]
  refine .of (eqRow_ok _ (MapRow_r0 p0 p1 p2 o0 hs0 hz0 o1 hs1 hz1 o2 hs2 hz2).1) ?_
  simp [md, lf, List.range']
  refine .of (toStrS_ok p0 hs0) ?_
  simp [md, lf, List.range', mStrS]
  refine .of (eqStrS_ok p0 hs0) ?_
  simp [md, lf, List.range']
  refine .of (toTable_ok p1 hs1) ?_
  simp [md, lf, List.range', mTable]
  refine .of (eqTable_ok p1 hs1) ?_
  simp [md, lf, List.range']
  refine .of (toValS_ok p2 hs2) ?_
  simp [md, lf, List.range', mValS]
  refine .of (eqValS_ok p2 hs2) ?_
  simp [md, lf, List.range']
  have hr0 := (MapRow_r0 p0 p1 p2 o0 hs0 hz0 o1 hs1 hz1 o2 hs2 hz2).1
  have hx0 := (MapRow_r0 p0 p1 p2 o0 hs0 hz0 o1 hs1 hz1 o2 hs2 hz2).2
  have hc0 := cvle_Row (mapRow p0 p1 p2 []).1
  have hp0 := ctle_StrS p0
  have hp1 := cvle_Table p1
  have hp2 := ctle_ValS p2
  refine .mut (markStrS_ok p0 (1) ((1 : Int)) (by simp) (by omega) (fun n hn => by have := hs0 n hn; omega)) ?_
  simp [md, lf, List.range', mvBatch, mvCat, mvDb, mvRow, mvTable, (show ¬ ((1 : Int) + (ctStrS p0 : Int) < 0) by omega), (show 0 ≤ (1 : Int) + (ctStrS p0 : Int) by omega)]
  refine .mut (markVTable_ok p1 (1 + ctStrS p0) ((1 : Int) + (ctStrS p0 : Int)) (by simp) (by omega) (fun n hn => by have := hs1 n hn; omega)) ?_
  simp [md, lf, List.range', mvBatch, mvCat, mvDb, mvRow, mvTable, (show ¬ ((1 : Int) + (ctStrS p0 : Int) + (cvTable p1 : Int) < 0) by omega), (show 0 ≤ (1 : Int) + (ctStrS p0 : Int) + (cvTable p1 : Int) by omega)]
  refine .mut (markValS_ok p2 (1 + ctStrS p0 + cvTable p1) ((1 : Int) + (ctStrS p0 : Int) + (cvTable p1 : Int)) (by simp) (by omega) (fun n hn => by have := hs2 n hn; omega)) ?_
  simp [md, lf, List.range', mvBatch, mvCat, mvDb, mvRow, mvTable, (show ¬ ((1 : Int) + (ctStrS p0 : Int) + (cvTable p1 : Int) + (ctValS p2 : Int) < 0) by omega), (show 0 ≤ (1 : Int) + (ctStrS p0 : Int) + (cvTable p1 : Int) + (ctValS p2 : Int) by omega)]
  refine .of (fun _ => ⟨by simp, eqRow_ok _ (MapRow_r0 p0 p1 p2 o0 hs0 hz0 o1 hs1 hz1 o2 hs2 hz2).1⟩) ?_
  simp [md, lf, List.range', (show ¬ ((1 : Int) + (ctStrS p0 : Int) + (cvTable p1 : Int) + (ctValS p2 : Int) < 0) by omega), (show 0 ≤ (1 : Int) + (ctStrS p0 : Int) + (cvTable p1 : Int) + (ctValS p2 : Int) by omega)]
  refine .mut (markVRow_ok (mapRow p0 p1 p2 []).1 (1) ((1 : Int)) (by simp) (by omega) (fun n hn => by have := hr0 n hn; omega)) ?_
  simp [md, lf, List.range', mvBatch, mvCat, mvDb, mvRow, mvTable]
  refine .of (heldVRow_ok (mapRow p0 p1 p2 []).1 (1) _ (by simp) (by omega) (fun n hn => by have := hr0 n hn; omega)) ?_
  simp [md, lf, List.range', (show ¬ ((1 : Int) + (cvRow (mapRow p0 p1 p2 []).1 : Int) < 0) by omega), (show 0 ≤ (1 : Int) + (cvRow (mapRow p0 p1 p2 []).1 : Int) by omega)]
  refine .of (toStrS_ok p0 hs0) ?_
  simp [md, lf, List.range', mStrS]
  refine .of (toTable_ok p1 hs1) ?_
  simp [md, lf, List.range', mTable]
  refine .of (toValS_ok p2 hs2) ?_
  simp [md, lf, List.range', mValS]
  refine .of (I_MapRow_ok p0 p1 p2 o0 hs0 hz0 o1 hs1 hz1 o2 hs2 hz2) ?_
  simp [md, lf, List.range', mRow, mStrS, mTable, mValS]
  refine .of (eqRow_ok _ (MapRow_r0 p0 p1 p2 o0 hs0 hz0 o1 hs1 hz1 o2 hs2 hz2).1) ?_
  simp [md, lf, List.range']
  refine .of (heldVRow_ok (mapRow p0 p1 p2 []).1 (1) _ (by simp) (by omega) (fun n hn => by have := hr0 n hn; omega)) ?_
  simp [md, lf, List.range', (show ¬ ((1 : Int) + (cvRow (mapRow p0 p1 p2 []).1 : Int) < 0) by omega), (show 0 ≤ (1 : Int) + (cvRow (mapRow p0 p1 p2 []).1 : Int) by omega)]

theorem own : ownKnob Try.prog.godebug = none := by kernel_rfl
theorem laidOut : laidOutB Try.prog = true := by kernel_rfl
set_option maxRecDepth 100000 in
theorem lifted (os : Os) (started : os.Started) (H : Type) (enc : TypeId × Value → H) :
    ReturnsInHanded {} Try.checked os 4 .any (Rows.fnExactMapRowSpec.pre6 enc Try.prog Try.f4 Rows.fnExactMapRowRow.domain false) (Rows.fnExactMapRowSpec.post enc Try.prog Try.f4 false true false false) := by
  refine returnsInHanded_of_change (C := Try.checked) own started (by kernel_rfl) Try.func4
    (ChangeSpec.witness6 (enc := enc) (C := Try.checked) false ⟨#[], #[.slice none 0 0, .agg #[.string ⟨#[]⟩, .slice none 0 0, .slice none 0 0], .slice none 0 0], []⟩ 8 (by kernel_rfl) (by kernel_rfl) (by kernel_rfl) (by kernel_rfl)) ?_
  intro W base args ds gs before hval0 hW hcnd _
  have hval : ∀ (j : Nat) t v, Try.f4.params[j]? = some t → args[j]? = some v → Value.okWide Try.prog W .any base t v := hval0
  have hW' := hW
  obtain ⟨p, q, hA0, hV, rfl, hfz, hnd⟩ := hW
  have hA : DataW.TrodAll enc Try.prog W 0 (fun _ => true) true [22, 25, 26] args.toList ds p := hA0
  obtain ⟨v0, vs0, d0, ds0, p0, q0, hargs, rfl, rfl, h0, r0⟩ := trodAll_cons hA
  obtain ⟨v1, vs1, d1, ds1, p1, q1, rfl, rfl, rfl, h1, r1⟩ := trodAll_cons r0
  obtain ⟨v2, vs2, d2, ds2, p2, q2, rfl, rfl, rfl, h2, r2⟩ := trodAll_cons r1
  obtain ⟨rfl, rfl, rfl⟩ := trodAll_nil r2
  obtain rfl : args = #[v0, v1, v2] := by cases args; simp_all
  obtain ⟨rfl, rfl⟩ := trodVars_none hV
  have lt0 : ∀ x ∈ p0, x.block < W.heap.size := by obtain ⟨m, hm⟩ := h0; exact DataW.trod_lt m _ _ _ hm
  obtain ⟨ls0, f0, s0⟩ := arg_of_trod good cgood (t := 22) rfl (hval 0 22 v0 rfl rfl) h0
  obtain ⟨l0, rfl, b0⟩ := fit_StrS ls0 f0
  have lt1 : ∀ x ∈ p1, x.block < W.heap.size := by obtain ⟨m, hm⟩ := h1; exact DataW.trod_lt m _ _ _ hm
  obtain ⟨ls1, f1, s1⟩ := arg_of_trod good cgood (t := 25) rfl (hval 1 25 v1 rfl rfl) h1
  obtain ⟨l1, rfl, b1⟩ := fit_Table ls1 f1
  have lt2 : ∀ x ∈ p2, x.block < W.heap.size := by obtain ⟨m, hm⟩ := h2; exact DataW.trod_lt m _ _ _ hm
  obtain ⟨ls2, f2, s2⟩ := arg_of_trod good cgood (t := 26) rfl (hval 2 26 v2 rfl rfl) h2
  obtain ⟨l2, rfl, b2⟩ := fit_ValS ls2 f2
  refine (calls_of_vc (law l0 l1 l2 b0 b1 b2) (fun hv => .cons (s0 hv) (.cons (s1 hv) (.cons (s2 hv) (.nil))))).mono fun e W' ⟨he, bel⟩ => ?_
  subst he
  exact ⟨_, rfl, _, _, _, [], _, [], hW', trodAll_mk1 (shut_bool Try.underlying4 _), (trodAll_cons_mk (Below.trod laidOut (by kernel_rfl) (of_decide_eq_true (by kernel_rfl)) h0 bel lt0) (trodAll_cons_mk (Below.trod laidOut (by kernel_rfl) (of_decide_eq_true (by kernel_rfl)) h1 bel lt1) (trodAll_cons_mk (Below.trod laidOut (by kernel_rfl) (of_decide_eq_true (by kernel_rfl)) h2 bel lt2) trodAll_mk0))), rfl, bel.frame _, fun h => by cases h⟩

theorem over : Rows.fnExactMapRowRow.holds Try.pinned (OpenSpec.ofChange Rows.fnExactMapRowSpec) :=
  OpenClaim.holds_of_wide 4 Try.f4 rfl rfl rfl rfl rfl rfl rfl ⟨rfl, rfl, rfl, rfl, rfl⟩ rfl rfl rfl rfl rfl (by kernel_rfl) Try.func4 (by kernel_rfl)
    (of_decide_eq_true (by kernel_rfl)) (by unfold Func.isWrapper; first | (rw [if_pos (by decide +kernel)]; kernel_rfl) | (rw [if_neg (by decide +kernel)]; exact ⟨rfl, rfl⟩))
    (fun os started H enc _ => lifted os started H enc)
theorem proved : Rows.FnExactMapRowSaid := over
#print axioms proved
end fnExactMapRow
end Go.Proofs.Ytkbknmcafiepgaa
