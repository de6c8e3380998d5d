import Derived.Test.YtkbknmcafiepgaaRow
namespace Go.Proofs.Ytkbknmcafiepgaa
open Go Go.Proofs Go.Sm
attribute [local simp] ti eStr eInt eByte eVal cVal vVal eValS vValS eRow cRow vRow eCol cCol vCol eColS vColS eStrS vStrS eDdl cDdl vDdl eStmt cStmt vStmt ePart cPart vPart ePartS vPartS eBatch cBatch vBatch eTable cTable vTable eTableS vTableS eCat cCat vCat eRowS vRowS eRows cRows vRows eRowsS vRowsS eDb cDb vDb eRec cRec vRec eRecS vRecS eStmtS vStmtS
set_option linter.unusedVariables false
set_option linter.unusedSimpArgs false


theorem tableOk_kcol {t : GTable} (h : tableOk t = true) {i : Nat} (hi : i < t.fKeys.length) : 0 ≤ colAt t (t.fKeys[i]?.getD ⟨#[]⟩) ∧ colAt t (t.fKeys[i]?.getD ⟨#[]⟩) < t.fCols.length ∧ (t.fCols[(colAt t (t.fKeys[i]?.getD ⟨#[]⟩)).toNat]?.getD dCol).fNot = true := by
  simp only [tableOk, keysTo, Bool.and_eq_true, List.all_eq_true, List.mem_range] at h
  have h1 := h.2.2 i hi
  have h2 := lastK_ge t i
  have hb := idxF_bd (fun c : GCol => c.fName.toList == (t.fKeys[i]?.getD ⟨#[]⟩).toList) t.fCols
  rw [show idxF (fun c : GCol => c.fName.toList == (t.fKeys[i]?.getD ⟨#[]⟩).toList) t.fCols = colAt t (t.fKeys[i]?.getD ⟨#[]⟩) from rfl] at hb
  simp only [keyOkAt, Bool.and_eq_true, decide_eq_true_eq] at h1
  exact ⟨by omega, hb.2, h1.2⟩
def kcol (t : GTable) (i : Nat) : GCol := t.fCols[(colAt t (t.fKeys[i]?.getD ⟨#[]⟩)).toNat]?.getD dCol
def kvAt (t : GTable) (key : List GVal) (i : Nat) : Bool := valOk (key[i]?.getD dVal) && decide ((key[i]?.getD dVal).fTy = (kcol t i).fTy)
def kvTo (t : GTable) (key : List GVal) (n : Nat) : Bool := (List.range n).all (kvAt t key)
def keyOk (t : GTable) (key : List GVal) : Bool := tableOk t && (decide ((key.length : Int) = t.fKeys.length) && kvTo t key t.fKeys.length)
theorem keyOk_no {t : GTable} {key : List GVal} {i : Nat} (hi : i < t.fKeys.length) (h : kvAt t key i = false) : keyOk t key = false := by
  simp [keyOk, kvTo, rangeAll_no hi h]
theorem kfits {t : GTable} (h : tableOk t = true) (key : List GVal) {i : Nat} (hi : i < t.fKeys.length) : fits (kcol t i) (key[i]?.getD dVal) = kvAt t key i := by
  obtain ⟨h1, h2, h3⟩ := tableOk_kcol h hi
  have h4 := tableOk_col h (i := (colAt t (t.fKeys[i]?.getD ⟨#[]⟩)).toNat) (by omega)
  rw [show t.fCols[(colAt t (t.fKeys[i]?.getD ⟨#[]⟩)).toNat]?.getD dCol = kcol t i from rfl] at h3 h4
  have h5 : 1 ≤ (kcol t i).fTy := by
    simp only [colOk, within, Bool.and_eq_true, decide_eq_true_eq] at h4
    exact h4.1.2.1
  unfold fits kvAt
  split
  · rename_i h6
    rw [h3, h6, decide_eq_false (show ¬ (0 : Int) = (kcol t i).fTy by omega)]
    simp
  · rfl
set_option maxHeartbeats 8000000 in
set_option maxRecDepth 4000 in
theorem keyOkI_ok (t : GTable) (key : List GVal) (ht : okTable t) (hk : okM key.length) : VC Try.prog 63 [vTable t, vValS key] [(false, [(.s, .sc (.bool (keyOk t key)))])] := by
  have hkl : t.fKeys.length ≤ 9223372036854775807 := ht.2.2.1.1
  refine vc_of_ew good hm [0,1,2,4,17,19,20,21,22,5,6,47] Try.func63 rfl (by kernel_rfl) (by kernel_rfl) rfl ?_
  simp [Try.f63]
  refine .of (tableOkI_ok t ht) ?_
  simp
  refine ⟨fun h => by grind [keyOk], fun h1 h2 => ?_⟩
  refine ew_loop (fun E => ∃ i : Nat, i ≤ t.fKeys.length ∧ kvTo t key i = true ∧ E = { nt := 49, sl := [(1, vValS key), (2, .p (.bx 2 0)), (19, vStrS t.fKeys), (20, int .i64 t.fKeys.length), (21, int .i64 i)], bx := [(2, cTable t)], rt := [] }) (fun E => t.fKeys.length - (E.num 21).toNat) _ (Gh.kb _ [1,2,19,20,21] [2] []) ⟨0, by omega, by simp [kvTo], by simp⟩ ?_
  rintro E1 ⟨i, hi, hall, rfl⟩
  simp
  refine ⟨fun h => ⟨h, by omega, .of (valOkI_ok _) ?_⟩, fun h => ?_⟩
  · obtain ⟨b1, b2, b3⟩ := tableOk_kcol h1 h
    have hat : kvAt t key i = (valOk (key[i]?.getD dVal) && decide ((key[i]?.getD dVal).fTy = (kcol t i).fTy)) := rfl
    simp [beqI]
    refine ⟨fun g => ⟨g, by omega⟩, .of (fun g => ⟨g, colAtI_ok t _ ht.2.1.1⟩) ?_⟩
    simp [beqI]
    rw [show t.fCols[(colAt t (t.fKeys[i]?.getD ⟨#[]⟩)).toNat]?.getD dCol = kcol t i from rfl]
    refine ⟨fun g => ⟨g, b1, b2⟩, fun hb => keyOk_no h (by grind), fun g1 g2 => .of _ (Gh.kb _ [1,2,19,20,21] [2] []) ⟨i + 1, by omega, ?_, ?_⟩ ?_⟩
    · rw [kvTo, rangeAll_succ]; unfold kvTo at hall; grind
    · simp [wrapS (show i < 9223372036854775807 by omega)]
    · simp [wrapS (show i < 9223372036854775807 by omega)]; omega
  · have : i = t.fKeys.length := by omega
    subst this
    grind [keyOk]
set_option maxHeartbeats 8000000 in
set_option maxRecDepth 4000 in
theorem keyOkS_ok (t : GTable) (key : List GVal) (ht : okTable t) (hk : okM key.length) : VC Try.prog 56 [vTable t, vValS key] [(false, [(.s, .sc (.bool (keyOk t key)))])] := by
  have hkl : t.fKeys.length ≤ 9223372036854775807 := ht.2.2.1.1
  refine vc_of_ew good hm [0,1,2,4,17,19,20,21,22,5,6,38] Try.func56 rfl (by kernel_rfl) (by kernel_rfl) rfl ?_
  simp [Try.f56]
  refine .of (tableOkS_ok t ht) ?_
  simp
  refine ⟨fun h => by grind [keyOk], fun h1 h2 => ?_⟩
  refine ew_loop (fun E => ∃ i : Nat, i ≤ t.fKeys.length ∧ kvTo t key i = true ∧ E = { nt := 40, sl := [(1, vValS key), (2, .p (.bx 2 0)), (19, vStrS t.fKeys), (20, int .i64 t.fKeys.length), (21, int .i64 i)], bx := [(2, cTable t)], rt := [] }) (fun E => t.fKeys.length - (E.num 21).toNat) _ (Gh.kb _ [1,2,19,20,21] [2] []) ⟨0, by omega, by simp [kvTo], by simp⟩ ?_
  rintro E1 ⟨i, hi, hall, rfl⟩
  simp
  refine ⟨fun h => ⟨h, .of (colAtS_ok t _ ht.2.1.1) ?_⟩, fun h => ?_⟩
  · obtain ⟨b1, b2, b3⟩ := tableOk_kcol h1 h
    simp
    refine ⟨⟨b1, b2⟩, by omega, ?_⟩
    rw [show t.fCols[(colAt t (t.fKeys[i]?.getD ⟨#[]⟩)).toNat]?.getD dCol = kcol t i from rfl]
    refine .of (fits_ok _ _) ?_
    simp
    rw [kfits h1 key h]
    refine ⟨fun hb => keyOk_no h hb, fun g1 => .of _ (Gh.kb _ [1,2,19,20,21] [2] []) ⟨i + 1, by omega, ?_, ?_⟩ ?_⟩
    · rw [kvTo, rangeAll_succ]; unfold kvTo at hall; grind
    · simp [wrapS (show i < 9223372036854775807 by omega)]
    · simp [wrapS (show i < 9223372036854775807 by omega)]; omega
  · have : i = t.fKeys.length := by omega
    subst this
    grind [keyOk]

end Go.Proofs.Ytkbknmcafiepgaa
