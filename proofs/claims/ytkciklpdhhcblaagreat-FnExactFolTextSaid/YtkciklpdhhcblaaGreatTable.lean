import Derived.Test.YtkciklpdhhcblaaGreatCat
namespace Go.Proofs.YtkciklpdhhcblaaGreat
open Go Go.Proofs Go.Sm
attribute [local simp] ti eStr eInt eByte eVal cVal vVal eCol cCol vCol eColS vColS eStrS vStrS eTable cTable vTable eTableS vTableS eCat cCat vCat eValS vValS eRow cRow vRow eRowS vRowS eRows cRows vRows eRowsS vRowsS eDb cDb vDb eDdl cDdl vDdl eFol cFol vFol eStmt cStmt vStmt eRec cRec vRec eSnap cSnap vSnap eRecS vRecS eTail cTail vTail
set_option linter.unusedVariables false
set_option linter.unusedSimpArgs false


def colsOkAt (t : GTable) (i : Nat) : Bool := colOk (t.fCols[i]?.getD dCol) && decide (colAt t (t.fCols[i]?.getD dCol).fName = i)
def colsTo (t : GTable) (n : Nat) : Bool := (List.range n).all (colsOkAt t)
def lastK (t : GTable) (i : Nat) : Int := if i = 0 then -1 else colAt t (t.fKeys[i-1]?.getD ⟨#[]⟩)
def keyOkAt (t : GTable) (i : Nat) : Bool := decide (lastK t i < colAt t (t.fKeys[i]?.getD ⟨#[]⟩)) && (t.fCols[(colAt t (t.fKeys[i]?.getD ⟨#[]⟩)).toNat]?.getD dCol).fNot
def keysTo (t : GTable) (n : Nat) : Bool := (List.range n).all (keyOkAt t)
def tableOk (t : GTable) : Bool := wordOk t.fName && (within t.fCols.length 1 8 && decide (0 < t.fKeys.length)) && (colsTo t t.fCols.length && keysTo t t.fKeys.length)
theorem colsTo_no {t : GTable} {i : Nat} (hi : i < t.fCols.length) (h : colsOkAt t i = false) : tableOk t = false := by
  simp [tableOk, colsTo, rangeAll_no hi h]
theorem keysTo_no {t : GTable} {i : Nat} (hi : i < t.fKeys.length) (h : keyOkAt t i = false) : tableOk t = false := by
  simp [tableOk, keysTo, rangeAll_no hi h]
theorem lastK_succ (t : GTable) (i : Nat) : lastK t (i + 1) = colAt t (t.fKeys[i]?.getD ⟨#[]⟩) := by simp [lastK]
theorem lastK_ge (t : GTable) (i : Nat) : -1 ≤ lastK t i := by
  unfold lastK
  split
  · omega
  · exact (idxF_bd _ _).1
set_option maxHeartbeats 8000000 in
set_option maxRecDepth 4000 in
theorem tableOkS_ok (t : GTable) (ht : okTable t) : VC Tryz.prog 123 [vTable t] [(false, [(.s, .sc (.bool (tableOk t)))])] := by
  obtain ⟨hn, hc, hk, _⟩ := ht
  have hcl : t.fCols.length ≤ 9223372036854775807 := hc.1
  have hkl : t.fKeys.length ≤ 9223372036854775807 := hk.1
  refine vc_of_ew good hm [0,1,2,30,32,33,34,35,4,3,49,5,52,53,54,55,7,8,72] Tryz.func123 rfl (by kernel_rfl) (by kernel_rfl) rfl ?_
  simp [Tryz.f123]
  refine .of (wordOkS_ok _ hn) ?_
  simp
  refine ⟨fun h => by grind [tableOk, within], fun a1 a2 a3 a4 => ?_⟩
  refine ew_loop (fun E => ∃ i : Nat, i ≤ t.fCols.length ∧ colsTo t i = true ∧ E = { nt := 75, sl := [(1, .p (.bx 1 0)), (32, vColS t.fCols), (33, int .i64 t.fCols.length), (34, int .i64 i)], bx := [(1, cTable t)], rt := [] }) (fun E => t.fCols.length - (E.num 34).toNat) _ (Gh.kb _ [1,32,33,34] [1] []) ⟨0, by omega, by simp [colsTo], by simp⟩ ?_
  rintro E1 ⟨i, hi, hall, rfl⟩
  simp
  refine ⟨fun h => ⟨h, .of (colOkS_ok _ (hc.2 _ (getD_mem dCol h))) ?_⟩, fun h => ?_⟩
  · simp
    refine .of (fun h => ⟨h, colAtS_ok _ _ hc.1⟩) ?_
    simp
    have hat : colsOkAt t i = (colOk (t.fCols[i]?.getD dCol) && decide (colAt t (t.fCols[i]?.getD dCol).fName = i)) := rfl
    refine ⟨fun hb => colsTo_no h (by grind), fun h1 h2 => .of _ (Gh.kb _ [1,32,33,34] [1] []) ⟨i + 1, by omega, ?_, ?_⟩ ?_⟩
    · rw [colsTo, rangeAll_succ]; unfold colsTo at hall; grind
    · simp [wrapS (show i < 9223372036854775807 by omega)]
    · simp [wrapS (show i < 9223372036854775807 by omega)]; omega
  · have hil : i = t.fCols.length := by omega
    subst hil
    refine ew_loop (fun E => ∃ i : Nat, i ≤ t.fKeys.length ∧ keysTo t i = true ∧ E = { nt := 75, sl := [(1, .p (.bx 1 0)), (5, int .i64 (lastK t i)), (52, vStrS t.fKeys), (53, int .i64 t.fKeys.length), (54, int .i64 i)], bx := [(1, cTable t)], rt := [] }) (fun E => t.fKeys.length - (E.num 54).toNat) _ (Gh.kb _ [1,5,52,53,54] [1] []) ⟨0, by omega, by simp [keysTo], by simp [lastK]⟩ ?_
    rintro E1 ⟨j, hj, hkall, rfl⟩
    simp
    refine ⟨fun h => ⟨h, .of (colAtS_ok _ _ hc.1) ?_⟩, fun h => ?_⟩
    · simp
      have hb := idxF_bd (fun c : GCol => c.fName.toList == (t.fKeys[j]?.getD ⟨#[]⟩).toList) t.fCols
      have hlg := lastK_ge t j
      rw [show idxF (fun c : GCol => c.fName.toList == (t.fKeys[j]?.getD ⟨#[]⟩).toList) t.fCols = colAt t (t.fKeys[j]?.getD ⟨#[]⟩) from rfl] at hb
      have hat : keyOkAt t j = (decide (lastK t j < colAt t (t.fKeys[j]?.getD ⟨#[]⟩)) && (t.fCols[(colAt t (t.fKeys[j]?.getD ⟨#[]⟩)).toNat]?.getD dCol).fNot) := rfl
      refine ⟨fun h1 => ⟨h1, by omega, by omega⟩, fun hb => keysTo_no h (by grind), fun h1 h2 => .of _ (Gh.kb _ [1,5,52,53,54] [1] []) ⟨j + 1, by omega, ?_, ?_⟩ ?_⟩
      · rw [keysTo, rangeAll_succ]; unfold keysTo at hkall; grind
      · simp [wrapS (show j < 9223372036854775807 by omega), lastK_succ]
      · simp [wrapS (show j < 9223372036854775807 by omega)]; omega
    · have hjl : j = t.fKeys.length := by omega
      subst hjl
      grind [tableOk, within]
set_option maxHeartbeats 8000000 in
set_option maxRecDepth 4000 in
theorem tableOkI_ok (t : GTable) (ht : okTable t) : VC Tryz.prog 164 [vTable t] [(false, [(.s, .sc (.bool (tableOk t)))])] := by
  obtain ⟨hn, hc, hk, _⟩ := ht
  have hcl : t.fCols.length ≤ 9223372036854775807 := hc.1
  have hkl : t.fKeys.length ≤ 9223372036854775807 := hk.1
  refine vc_of_ew good hm [0,1,2,10,11,12,13,4,3,27,5,30,31,32,33,7,8,50] Tryz.func164 rfl (by kernel_rfl) (by kernel_rfl) rfl ?_
  simp [Tryz.f164]
  refine ew_loop (fun E => ∃ i : Nat, i ≤ t.fCols.length ∧ colsTo t i = true ∧ E = { nt := 68, sl := [(1, .p (.bx 1 0)), (10, vColS t.fCols), (11, int .i64 t.fCols.length), (12, int .i64 i)], bx := [(1, cTable t)], rt := [] }) (fun E => t.fCols.length - (E.num 12).toNat) _ (Gh.kb _ [1,10,11,12] [1] []) ⟨0, by omega, by simp [colsTo], by simp⟩ ?_
  rintro E1 ⟨i, hi, hall, rfl⟩
  simp
  refine ⟨fun h => ⟨h, .of (colOkI_ok _ (hc.2 _ (getD_mem dCol h))) ?_⟩, fun h => ?_⟩
  · simp
    refine .of (fun h => ⟨h, colAtI_ok _ _ hc.1⟩) ?_
    simp
    have hat : colsOkAt t i = (colOk (t.fCols[i]?.getD dCol) && decide (colAt t (t.fCols[i]?.getD dCol).fName = i)) := rfl
    refine ⟨fun hb => colsTo_no h (by grind), fun h1 h2 => .of _ (Gh.kb _ [1,10,11,12] [1] []) ⟨i + 1, by omega, ?_, ?_⟩ ?_⟩
    · rw [colsTo, rangeAll_succ]; unfold colsTo at hall; grind
    · simp [wrapS (show i < 9223372036854775807 by omega)]
    · simp [wrapS (show i < 9223372036854775807 by omega)]; omega
  · have hil : i = t.fCols.length := by omega
    subst hil
    refine ew_loop (fun E => ∃ i : Nat, i ≤ t.fKeys.length ∧ keysTo t i = true ∧ E = { nt := 68, sl := [(1, .p (.bx 1 0)), (5, int .i64 (lastK t i)), (30, vStrS t.fKeys), (31, int .i64 t.fKeys.length), (32, int .i64 i)], bx := [(1, cTable t)], rt := [] }) (fun E => t.fKeys.length - (E.num 32).toNat) _ (Gh.kb _ [1,5,30,31,32] [1] []) ⟨0, by omega, by simp [keysTo], by simp [lastK]⟩ ?_
    rintro E1 ⟨j, hj, hkall, rfl⟩
    simp
    refine ⟨fun h => ⟨h, .of (colAtI_ok _ _ hc.1) ?_⟩, fun h => ?_⟩
    · simp
      have hb := idxF_bd (fun c : GCol => c.fName.toList == (t.fKeys[j]?.getD ⟨#[]⟩).toList) t.fCols
      have hlg := lastK_ge t j
      rw [show idxF (fun c : GCol => c.fName.toList == (t.fKeys[j]?.getD ⟨#[]⟩).toList) t.fCols = colAt t (t.fKeys[j]?.getD ⟨#[]⟩) from rfl] at hb
      have hat : keyOkAt t j = (decide (lastK t j < colAt t (t.fKeys[j]?.getD ⟨#[]⟩)) && (t.fCols[(colAt t (t.fKeys[j]?.getD ⟨#[]⟩)).toNat]?.getD dCol).fNot) := rfl
      refine ⟨fun h1 => ⟨h1, by omega, by omega⟩, fun hb => keysTo_no h (by grind), fun h1 h2 => .of _ (Gh.kb _ [1,5,30,31,32] [1] []) ⟨j + 1, by omega, ?_, ?_⟩ ?_⟩
      · rw [keysTo, rangeAll_succ]; unfold keysTo at hkall; grind
      · simp [wrapS (show j < 9223372036854775807 by omega), lastK_succ]
      · simp [wrapS (show j < 9223372036854775807 by omega)]; omega
    · have hjl : j = t.fKeys.length := by omega
      subst hjl
      refine .of (wordOkI_ok _ hn) ?_
      simp
      refine .of (fun h => ⟨h, within_ok _ _ _⟩) ?_
      simp
      grind [tableOk, within]

end Go.Proofs.YtkciklpdhhcblaaGreat
