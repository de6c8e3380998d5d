/-
  The program's NamesOf returns what the reference's returns, for all arguments, and leaves its arguments as they were: no condition.
-/
import Derived.Test.YtkbknmcafiepgaaRows
import Derived.Test.YtkbknmcafiepgaaNames
namespace Go.Proofs.Ytkbknmcafiepgaa
open Go Go.Proofs Go.Sm
open Go.ChangeShapes Go.WideShapes Go.ChangeAt Go.RowKit
set_option linter.unusedVariables false
set_option linter.unusedSimpArgs false
namespace fnExactNamesOf
attribute [local simp] ti
set_option maxHeartbeats 4000000 in
theorem law (p0 : GDb) (p1 : ByteArray) (o0 : okDb p0) (o1 : okM p1.size) : VC Try.prog 7 [vDb p0, str p1] [(false, [(.s, .sc (.bool true))])] := by
  have q0 := okw_Db p0 o0
  refine vc_of_ew good hm [0,1,2,4,18,5,23,6,7,8,9,10,48,53,11,70,12,13,81,86,89,14,15,106,111,116,119] Try.func7 rfl (by kernel_rfl) (by kernel_rfl) rfl ?_
  simp [Try.f7, vDb]
  intro hs1'
  have hs1 : p1.size ≤ 1048576 := by omega
  refine .of (szDb_ok p0 1048576 (by omega) (by omega) q0) ?_
  simp
  intro z0
  have y0 := szL_le' (l := wDb p0) (left := 1048576) (by omega)
  have hs0 : ∀ n ∈ wDb p0, n ≤ 1048576 := fun n hn => by have := (szL_le _ _ z0 (by omega)).2 n hn; omega
  have hz0 : (wDb p0).sum ≤ 1048576 := by have := (szL_le _ _ z0 (by omega)).1; omega
  refine .of (toDb_ok p0 hs0) ?_
  simp [mDb]
  refine .of (S_NamesOf_ok p0 p1 o0 hs0 hz0 o1 hs1) ?_
  simp [mDb, mStrS]
  refine .of (toDb_ok p0 hs0) ?_
  simp [mDb]
  refine .of (I_NamesOf_ok p0 p1 o0 hs0 hz0 o1 hs1) ?_
  simp [mDb, mStrS]
  refine .of (eqStrS_ok _ (NamesOf_r0 p0 p1 o0 hs0 hz0 o1 hs1).1) ?_
  simp
  refine .of (fun _ => ⟨by simp, eqStrS_ok _ (NamesOf_r1 p0 p1 o0 hs0 hz0 o1 hs1).1⟩) ?_
  simp
  refine .of (toDb_ok p0 hs0) ?_
  simp [mDb]
  refine .of (eqDb_ok p0 hs0) ?_
  simp
  have hr0 := (NamesOf_r0 p0 p1 o0 hs0 hz0 o1 hs1).1
  have hx0 := (NamesOf_r0 p0 p1 o0 hs0 hz0 o1 hs1).2
  have hc0 := ctle_StrS (namesOf p0 p1).1
  have hr1 := (NamesOf_r1 p0 p1 o0 hs0 hz0 o1 hs1).1
  have hx1 := (NamesOf_r1 p0 p1 o0 hs0 hz0 o1 hs1).2
  have hc1 := ctle_StrS (namesOf p0 p1).2
  have hp0 := cvle_Db p0
  refine .mut (markVDb_ok p0 (1) ((1 : Int)) (by simp) (by omega) (fun n hn => by have := hs0 n hn; omega)) ?_
  simp [mvBatch, mvCat, mvDb, mvRow, mvTable, (show ¬ ((1 : Int) + (cvDb p0 : Int) < 0) by omega), (show 0 ≤ (1 : Int) + (cvDb p0 : Int) by omega)]
  refine .of (fun _ => ⟨by simp, eqStrS_ok _ (NamesOf_r0 p0 p1 o0 hs0 hz0 o1 hs1).1⟩) ?_
  simp [(show ¬ ((1 : Int) + (cvDb p0 : Int) < 0) by omega), (show 0 ≤ (1 : Int) + (cvDb p0 : Int) by omega)]
  refine .of (fun _ => ⟨by simp, eqStrS_ok _ (NamesOf_r1 p0 p1 o0 hs0 hz0 o1 hs1).1⟩) ?_
  simp [(show ¬ ((1 : Int) + (cvDb p0 : Int) < 0) by omega), (show 0 ≤ (1 : Int) + (cvDb p0 : Int) by omega)]
  refine .mut (markStrS_ok (namesOf p0 p1).1 (1) ((1 : Int)) (by simp) (by omega) (fun n hn => by have := hr0 n hn; omega)) ?_
  simp [mvBatch, mvCat, mvDb, mvRow, mvTable]
  refine .mut (markStrS_ok (namesOf p0 p1).2 (1 + ctStrS (namesOf p0 p1).1) ((1 : Int) + (ctStrS (namesOf p0 p1).1 : Int)) (by simp) (by omega) (fun n hn => by have := hr1 n hn; omega)) ?_
  simp [mvBatch, mvCat, mvDb, mvRow, mvTable]
  refine .of (heldStrS_ok (namesOf p0 p1).1 (1) _ (by simp) (by omega) (fun n hn => by have := hr0 n hn; omega)) ?_
  simp [(show ¬ ((1 : Int) + (ctStrS (namesOf p0 p1).1 : Int) < 0) by omega), (show 0 ≤ (1 : Int) + (ctStrS (namesOf p0 p1).1 : Int) by omega)]
  refine .of (heldStrS_ok (namesOf p0 p1).2 (1 + ctStrS (namesOf p0 p1).1) _ (by simp) (by omega) (fun n hn => by have := hr1 n hn; omega)) ?_
  simp [(show ¬ ((1 : Int) + (ctStrS (namesOf p0 p1).1 : Int) + (ctStrS (namesOf p0 p1).2 : Int) < 0) by omega), (show 0 ≤ (1 : Int) + (ctStrS (namesOf p0 p1).1 : Int) + (ctStrS (namesOf p0 p1).2 : Int) by omega)]
  refine .of (toDb_ok p0 hs0) ?_
  simp [mDb]
  refine .of (I_NamesOf_ok p0 p1 o0 hs0 hz0 o1 hs1) ?_
  simp [mDb, mStrS]
  refine .of (eqStrS_ok _ (NamesOf_r0 p0 p1 o0 hs0 hz0 o1 hs1).1) ?_
  simp
  refine .of (fun _ => ⟨by simp, eqStrS_ok _ (NamesOf_r1 p0 p1 o0 hs0 hz0 o1 hs1).1⟩) ?_
  simp
  refine .of (heldStrS_ok (namesOf p0 p1).1 (1) _ (by simp) (by omega) (fun n hn => by have := hr0 n hn; omega)) ?_
  simp [(show ¬ ((1 : Int) + (ctStrS (namesOf p0 p1).1 : Int) < 0) by omega), (show 0 ≤ (1 : Int) + (ctStrS (namesOf p0 p1).1 : Int) by omega)]
  refine .of (heldStrS_ok (namesOf p0 p1).2 (1 + ctStrS (namesOf p0 p1).1) _ (by simp) (by omega) (fun n hn => by have := hr1 n hn; omega)) ?_
  simp [(show ¬ ((1 : Int) + (ctStrS (namesOf p0 p1).1 : Int) + (ctStrS (namesOf p0 p1).2 : Int) < 0) by omega), (show 0 ≤ (1 : Int) + (ctStrS (namesOf p0 p1).1 : Int) + (ctStrS (namesOf p0 p1).2 : Int) by omega)]

theorem own : ownKnob Try.prog.godebug = none := by kernel_rfl
theorem laidOut : laidOutB Try.prog = true := by kernel_rfl
set_option maxRecDepth 100000 in
theorem lifted (os : Os) (started : os.Started) (H : Type) (enc : TypeId × Value → H) :
    ReturnsInHanded {} Try.checked os 7 .any (Rows.fnExactNamesOfSpec.pre6 enc Try.prog Try.f7 Rows.fnExactNamesOfRow.domain false) (Rows.fnExactNamesOfSpec.post enc Try.prog Try.f7 false true false false) := by
  refine returnsInHanded_of_change (C := Try.checked) own started (by kernel_rfl) Try.func7
    (ChangeSpec.witness6 (enc := enc) (C := Try.checked) false ⟨#[], #[.agg #[.slice none 0 0, .slice none 0 0], .string ⟨#[]⟩], []⟩ 8 (by kernel_rfl) (by kernel_rfl) (by kernel_rfl) (by kernel_rfl)) ?_
  intro W base args ds gs before hval0 hW hcnd _
  have hval : ∀ (j : Nat) t v, Try.f7.params[j]? = some t → args[j]? = some v → Value.okWide Try.prog W .any base t v := hval0
  have hW' := hW
  obtain ⟨p, q, hA0, hV, rfl, hfz, hnd⟩ := hW
  have hA : DataW.TrodAll enc Try.prog W 0 (fun _ => true) true [79, 9] args.toList ds p := hA0
  obtain ⟨v0, vs0, d0, ds0, p0, q0, hargs, rfl, rfl, h0, r0⟩ := trodAll_cons hA
  obtain ⟨v1, vs1, d1, ds1, p1, q1, rfl, rfl, rfl, h1, r1⟩ := trodAll_cons r0
  obtain ⟨rfl, rfl, rfl⟩ := trodAll_nil r1
  obtain rfl : args = #[v0, v1] := by cases args; simp_all
  obtain ⟨rfl, rfl⟩ := trodVars_none hV
  have lt0 : ∀ x ∈ p0, x.block < W.heap.size := by obtain ⟨m, hm⟩ := h0; exact DataW.trod_lt m _ _ _ hm
  obtain ⟨ls0, f0, s0⟩ := arg_of_trod good cgood (t := 79) rfl (hval 0 79 v0 rfl rfl) h0
  obtain ⟨l0, rfl, b0⟩ := fit_Db ls0 f0
  have lt1 : ∀ x ∈ p1, x.block < W.heap.size := by obtain ⟨m, hm⟩ := h1; exact DataW.trod_lt m _ _ _ hm
  obtain ⟨ls1, f1, s1⟩ := arg_of_trod good cgood (t := 9) rfl (hval 1 9 v1 rfl rfl) h1
  obtain ⟨l1, rfl, b1⟩ := fit_Str ls1 f1
  refine (calls_of_vc (law l0 l1 b0 b1) (fun hv => .cons (s0 hv) (.cons (s1 hv) (.nil)))).mono fun e W' ⟨he, bel⟩ => ?_
  subst he
  exact ⟨_, rfl, _, _, _, [], _, [], hW', trodAll_mk1 (shut_bool Try.underlying4 _), (trodAll_cons_mk (Below.trod laidOut (by kernel_rfl) (of_decide_eq_true (by kernel_rfl)) h0 bel lt0) (trodAll_cons_mk (Below.trod laidOut (by kernel_rfl) (of_decide_eq_true (by kernel_rfl)) h1 bel lt1) trodAll_mk0)), rfl, bel.frame _, fun h => by cases h⟩

theorem over : Rows.fnExactNamesOfRow.holds Try.pinned (OpenSpec.ofChange Rows.fnExactNamesOfSpec) :=
  OpenClaim.holds_of_wide 7 Try.f7 rfl rfl rfl rfl rfl rfl rfl ⟨rfl, rfl, rfl, rfl, rfl⟩ rfl rfl rfl rfl rfl (by kernel_rfl) Try.func7 (by kernel_rfl)
    (of_decide_eq_true (by kernel_rfl)) (by unfold Func.isWrapper; first | (rw [if_pos (by decide +kernel)]; kernel_rfl) | (rw [if_neg (by decide +kernel)]; exact ⟨rfl, rfl⟩))
    (fun os started H enc _ => lifted os started H enc)
theorem proved : Rows.FnExactNamesOfSaid := over
#print axioms proved
end fnExactNamesOf
end Go.Proofs.Ytkbknmcafiepgaa
