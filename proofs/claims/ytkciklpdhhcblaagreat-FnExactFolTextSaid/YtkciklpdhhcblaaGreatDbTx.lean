import Derived.Test.YtkciklpdhhcblaaGreatBd
import Derived.Test.YtkciklpdhhcblaaGreatRow
import Derived.Test.YtkciklpdhhcblaaGreatCopy
namespace Go.Proofs.YtkciklpdhhcblaaGreat
open Go Go.Proofs Go.Sm
attribute [local simp] ti eStr eInt eByte eVal cVal vVal eCol cCol vCol eColS vColS eStrS vStrS eTable cTable vTable eTableS vTableS eCat cCat vCat eValS vValS eRow cRow vRow eRowS vRowS eRows cRows vRows eRowsS vRowsS eDb cDb vDb eDdl cDdl vDdl eFol cFol vFol eStmt cStmt vStmt eRec cRec vRec eSnap cSnap vSnap eRecS vRecS eTail cTail vTail
set_option linter.unusedVariables false
set_option linter.unusedSimpArgs false


def crD (t : GTable) : GDdl := ⟨1, t.fName, t.fCols, t.fKeys, ⟨#[]⟩, ⟨#[]⟩⟩
def insS (t : GTable) (r : GRow) : GStmt := ⟨1, t.fName, [], r, ⟨0, ⟨#[]⟩, [], [], ⟨#[]⟩, ⟨#[]⟩⟩⟩
def rowT (t : GTable) (r : GRow) : List UInt8 := stmtT (insS t r) ++ [10]
def rowsT (t : GTable) (l : List GRow) : List UInt8 := l.flatMap (rowT t)
def blkT (d : GDb) (i : Nat) : List UInt8 := (ddlT (crD (d.fCat.fTables[i]?.getD dTable)) ++ [10]) ++ rowsT (d.fCat.fTables[i]?.getD dTable) (d.fData[i]?.getD dRows).fRows
def blksT (d : GDb) (n : Nat) : List UInt8 := (List.range n).flatMap (blkT d)
def dbT (d : GDb) : List UInt8 := if dbOk d = true then blksT d d.fCat.fTables.length else []
theorem blksT_succ (d : GDb) (n : Nat) : blksT d (n + 1) = blksT d n ++ blkT d n := by simp [blksT, List.range_succ]
theorem rowsT_take {t : GTable} {l : List GRow} {i : Nat} (h : i < l.length) : rowsT t (l.take (i + 1)) = rowsT t (l.take i) ++ rowT t (l[i]?.getD dRow) := by
  unfold rowsT
  rw [List.take_succ_eq_append_getElem h, List.getElem?_eq_getElem h, List.flatMap_append]
  simp
theorem ddlT_len2 {d : GDdl} (hb : bdD d) : (ddlT d).length ≤ 1099619000000 := by
  unfold ddlT
  split
  · rename_i h
    exact ddlT_len h hb
  · simp
def bdT (t : GTable) : Prop := ∀ n ∈ wTable t, n ≤ 1048576
theorem bdD_cr {t : GTable} (h : bdT t) : bdD (crD t) := by
  refine bdD_of fun n hn => ?_
  simp only [wDdl, crD, List.mem_cons, List.mem_append, List.not_mem_nil, or_false] at hn
  rcases hn with rfl | hn | hn | rfl | rfl
  · exact h _ (by simp [wTable])
  · exact h _ (by simp [wTable, hn])
  · exact h _ (by simp [wTable, hn])
  · decide
  · decide
theorem bdS_ins {t : GTable} (h : bdT t) (r : GRow) : bdS (insS t r) :=
  ⟨h _ (by simp [wTable, insS]), by simp [insS, szMk], by simp [insS, szMk], by simp [insS, szMk], by simp [insS], by simp [insS], by simp [insS]⟩
theorem rowsT_len {t : GTable} (h : bdT t) (l : List GRow) : (rowsT t l).length ≤ l.length * 1099619000001 := by
  induction l with
  | nil => simp [rowsT]
  | cons r l ih =>
    have h1 := stmtT_len2 (bdS_ins h r)
    simp only [rowsT, List.flatMap_cons, List.length_append, List.length_cons, rowT, List.length_nil, Nat.add_mul, Nat.one_mul] at ih ⊢
    omega
theorem db_len {d : GDb} (h : dbOk d = true) : d.fCat.fTables.length ≤ 6 ∧ d.fData.length = d.fCat.fTables.length ∧ ∀ i, i < d.fCat.fTables.length → (d.fData[i]?.getD dRows).fRows.length ≤ 60 := by
  simp only [dbOk, catOk, dbTo, Bool.and_eq_true, decide_eq_true_eq, List.all_eq_true, List.mem_range] at h
  refine ⟨by omega, by omega, fun i hi => ?_⟩
  have h1 := h.2.2 i hi
  simp only [dbAt, rowsOk, Bool.and_eq_true, decide_eq_true_eq] at h1
  omega
theorem okD_cr {t : GTable} (h : okTable t) : okDdl (crD t) := ⟨by unfold okI; simp [crD], h.1, h.2.1, h.2.2.1, by simp [crD, okM, szMk], by simp [crD, okM, szMk], trivial⟩
theorem okS_ins {t : GTable} {r : GRow} (h : okTable t) (hr : okRow r) : okStmt (insS t r) := by
  refine ⟨by unfold okI; simp [insS], h.1, ?_, hr, ?_, trivial⟩
  · simp [insS, okValS, okM]
  · simp [insS, okDdl, okI, okM, szMk, okColS, okStrS]
theorem blkT_len {d : GDb} (h : dbOk d = true) (hs : ∀ t ∈ d.fCat.fTables, bdT t) {i : Nat} (hi : i < d.fCat.fTables.length) : (blkT d i).length ≤ 68000000000000 := by
  have hb := hs _ (getD_mem dTable hi)
  have h1 := ddlT_len2 (bdD_cr hb)
  have h2 := rowsT_len hb (d.fData[i]?.getD dRows).fRows
  have h3 := (db_len h).2.2 i hi
  have h4 : (d.fData[i]?.getD dRows).fRows.length * 1099619000001 ≤ 60 * 1099619000001 := Nat.mul_le_mul_right _ h3
  simp only [blkT, List.length_append, List.length_cons, List.length_nil]
  omega
theorem blksT_len {d : GDb} (h : dbOk d = true) (hs : ∀ t ∈ d.fCat.fTables, bdT t) : ∀ n, n ≤ d.fCat.fTables.length → (blksT d n).length ≤ n * 68000000000000 := by
  intro n
  induction n with
  | zero => intro _; simp [blksT]
  | succ n ih =>
    intro hn
    have h1 := ih (by omega)
    have h2 := blkT_len h hs (show n < d.fCat.fTables.length by omega)
    rw [blksT_succ, List.length_append, Nat.add_mul, Nat.one_mul]
    omega
set_option maxHeartbeats 8000000 in
set_option maxRecDepth 4000 in
theorem dbTextS_ok (d : GDb) (hd : okDb d) (hs : ∀ t ∈ d.fCat.fTables, bdT t) (hk : ∀ t ∈ d.fCat.fTables, t.fKeys.length ≤ 1048576) : VC Tryz.prog 35 [vDb d] [(false, [(.s, .sc (.string (ofT (dbT d))))])] := by
  refine vc_of_ew good hm [0,1,2,10,3,13,14,15,16,5,4,36,37,38,39,7] Tryz.func35 rfl (by kernel_rfl) (by kernel_rfl) rfl ?_
  simp [Tryz.f35, szMk]
  refine .of (dbOkS_ok _ hd hk) ?_
  simp [szMk]
  refine ⟨fun h => by simp [dbT, h, ofT], fun h => ?_⟩
  refine ew_loop (fun E => ∃ i : Nat, i ≤ d.fCat.fTables.length ∧ E = { nt := 53, sl := [(1, .p (.bx 1 0)), (3, str (ofT (blksT d i))), (13, vTableS d.fCat.fTables), (14, int .i64 d.fCat.fTables.length), (15, int .i64 i)], bx := [(1, cDb d)], rt := [] }) (fun E => d.fCat.fTables.length - (E.num 15).toNat) _ (Gh.kb _ [1,3,13,14,15] [1] []) ⟨0, by omega, by simp [blksT, ofT]⟩ ?_
  rintro E1 ⟨i, hi, rfl⟩
  obtain ⟨hn6, hdl, hr60⟩ := db_len h
  have hbl := blksT_len h hs i hi
  have hbl2 : i * 68000000000000 ≤ 6 * 68000000000000 := Nat.mul_le_mul_right _ (by omega)
  simp [szMk]
  refine ⟨fun hil => ⟨hil, ?_⟩, fun hil => ?_⟩
  · have hm := getD_mem dTable hil
    have hot := hd.1.1.2 _ hm
    have hbt := hs _ hm
    have hdt := ddlT_len2 (bdD_cr hbt)
    have hor := hd.2.1.2 _ (getD_mem dRows (show i < d.fData.length by omega))
    refine .of (ddlTextS_ok (crD (d.fCat.fTables[i]?.getD dTable)) (okD_cr hot) (bdD_cr hbt)) ?_
    simp [szMk]
    refine ⟨by omega, by omega, by omega, ?_⟩
    refine ew_loop (fun E => ∃ j : Nat, j ≤ (d.fData[i]?.getD dRows).fRows.length ∧ E = { nt := 53, sl := [(1, .p (.bx 1 0)), (3, str (ofT (blksT d i ++ ((ddlT (crD (d.fCat.fTables[i]?.getD dTable)) ++ [10]) ++ rowsT (d.fCat.fTables[i]?.getD dTable) ((d.fData[i]?.getD dRows).fRows.take j))))), (13, vTableS d.fCat.fTables), (14, int .i64 d.fCat.fTables.length), (15, int .i64 i), (5, .p (.bx 5 0)), (36, vRowS (d.fData[i]?.getD dRows).fRows), (37, int .i64 (d.fData[i]?.getD dRows).fRows.length), (38, int .i64 j)], bx := [(1, cDb d), (5, cTable (d.fCat.fTables[i]?.getD dTable))], rt := [] }) (fun E => (d.fData[i]?.getD dRows).fRows.length - (E.num 38).toNat) _ (Gh.kb _ [1,3,13,14,15,5,36,37,38] [1, 5] []) ⟨0, by omega, ?_⟩ ?_
    · simp [rowsT]
      exact tx_ext (by simp)
    rintro E2 ⟨j, hj, rfl⟩
    have hrl := rowsT_len hbt ((d.fData[i]?.getD dRows).fRows.take j)
    rw [List.length_take] at hrl
    have h60 := hr60 i hil
    have hr2 : min j (d.fData[i]?.getD dRows).fRows.length * 1099619000001 ≤ 60 * 1099619000001 := Nat.mul_le_mul_right _ (by omega)
    simp [szMk]
    refine ⟨fun hjl => ⟨hjl, ?_⟩, fun hjl => ?_⟩
    · have hst := stmtT_len2 (bdS_ins hbt ((d.fData[i]?.getD dRows).fRows[j]?.getD dRow))
      refine .of (stmtTextS_ok (insS (d.fCat.fTables[i]?.getD dTable) ((d.fData[i]?.getD dRows).fRows[j]?.getD dRow)) (okS_ins hot (hor.1.2 _ (getD_mem dRow hjl))) (bdS_ins hbt _)) ?_
      simp [szMk]
      refine ⟨by omega, by omega, .of _ (Gh.kb _ [1,3,13,14,15,5,36,37,38] [1, 5] []) ⟨j + 1, by omega, ?_⟩ ?_⟩
      · rw [rowsT_take hjl, rowT]
        simp [wrapS (show j < 9223372036854775807 by omega)]
        exact tx_ext (by simp)
      · simp [wrapS (show j < 9223372036854775807 by omega)]; omega
    · have hj' : j = (d.fData[i]?.getD dRows).fRows.length := by omega
      subst hj'
      refine .of _ (Gh.kb _ [1,3,13,14,15] [1] []) ⟨i + 1, by omega, ?_⟩ ?_
      · rw [blksT_succ, blkT, List.take_length]
        simp [wrapS (show i < 9223372036854775807 by omega)]
      · simp [wrapS (show i < 9223372036854775807 by omega)]; omega
  · have hi' : i = d.fCat.fTables.length := by omega
    subst hi'
    simp [dbT, h]
set_option maxHeartbeats 4000000 in
theorem creates_ok (t : GTable) (h : bdD (crD t)) : VC Tryz.prog 70 [vTable t] [(true, mDdl (crD t))] := by
  refine vc_of_ew good hm [0,1,2,3] Tryz.func70 rfl (by kernel_rfl) (by kernel_rfl) rfl ?_
  simp [Tryz.f70, mDdl]
  refine .of (copyTable_ok t h.2.2.2.2.2 h.2.2.2.1) ?_
  simp [mTable, md, lf, List.range', crD]
set_option maxHeartbeats 8000000 in
set_option maxRecDepth 4000 in
theorem dbTextI_ok (d : GDb) (hd : okDb d) (hs : ∀ t ∈ d.fCat.fTables, bdT t) (hk : ∀ t ∈ d.fCat.fTables, t.fKeys.length ≤ 1048576) : VC Tryz.prog 39 [vDb d] [(false, [(.s, .sc (.string (ofT (dbT d))))])] := by
  refine vc_of_ew good hm [0,1,2,10,3,13,14,15,16,5,4,31,32,33,34,7] Tryz.func39 rfl (by kernel_rfl) (by kernel_rfl) rfl ?_
  simp [Tryz.f39, szMk]
  refine .of (dbOkI_ok _ hd hk) ?_
  simp [szMk]
  refine ⟨fun h => by simp [dbT, h, ofT], fun h => ?_⟩
  refine ew_loop (fun E => ∃ i : Nat, i ≤ d.fCat.fTables.length ∧ E = { nt := 48, sl := [(1, .p (.bx 1 0)), (3, str (ofT (blksT d i))), (13, vTableS d.fCat.fTables), (14, int .i64 d.fCat.fTables.length), (15, int .i64 i)], bx := [(1, cDb d)], rt := [] }) (fun E => d.fCat.fTables.length - (E.num 15).toNat) _ (Gh.kb _ [1,3,13,14,15] [1] []) ⟨0, by omega, by simp [blksT, ofT]⟩ ?_
  rintro E1 ⟨i, hi, rfl⟩
  obtain ⟨hn6, hdl, hr60⟩ := db_len h
  have hbl := blksT_len h hs i hi
  have hbl2 : i * 68000000000000 ≤ 6 * 68000000000000 := Nat.mul_le_mul_right _ (by omega)
  simp [szMk]
  refine ⟨fun hil => ⟨hil, ?_⟩, fun hil => ?_⟩
  · have hm := getD_mem dTable hil
    have hot := hd.1.1.2 _ hm
    have hbt := hs _ hm
    have hdt := ddlT_len2 (bdD_cr hbt)
    have hor := hd.2.1.2 _ (getD_mem dRows (show i < d.fData.length by omega))
    refine .of (creates_ok (d.fCat.fTables[i]?.getD dTable) (bdD_cr hbt)) ?_
    simp [mDdl]
    refine .of (ddlTextI_ok (crD (d.fCat.fTables[i]?.getD dTable)) (okD_cr hot) (bdD_cr hbt)) ?_
    simp [szMk]
    refine ⟨by omega, by omega, by omega, ?_⟩
    refine ew_loop (fun E => ∃ j : Nat, j ≤ (d.fData[i]?.getD dRows).fRows.length ∧ E = { nt := 48, sl := [(1, .p (.bx 1 0)), (3, str (ofT (blksT d i ++ ((ddlT (crD (d.fCat.fTables[i]?.getD dTable)) ++ [10]) ++ rowsT (d.fCat.fTables[i]?.getD dTable) ((d.fData[i]?.getD dRows).fRows.take j))))), (13, vTableS d.fCat.fTables), (14, int .i64 d.fCat.fTables.length), (15, int .i64 i), (5, .p (.bx 5 0)), (31, vRowS (d.fData[i]?.getD dRows).fRows), (32, int .i64 (d.fData[i]?.getD dRows).fRows.length), (33, int .i64 j)], bx := [(1, cDb d), (5, cTable (d.fCat.fTables[i]?.getD dTable))], rt := [] }) (fun E => (d.fData[i]?.getD dRows).fRows.length - (E.num 33).toNat) _ (Gh.kb _ [1,3,13,14,15,5,31,32,33] [1, 5] []) ⟨0, by omega, ?_⟩ ?_
    · simp [rowsT]
      exact tx_ext (by simp)
    rintro E2 ⟨j, hj, rfl⟩
    have hrl := rowsT_len hbt ((d.fData[i]?.getD dRows).fRows.take j)
    rw [List.length_take] at hrl
    have h60 := hr60 i hil
    have hr2 : min j (d.fData[i]?.getD dRows).fRows.length * 1099619000001 ≤ 60 * 1099619000001 := Nat.mul_le_mul_right _ (by omega)
    simp [szMk]
    refine ⟨fun hjl => ⟨hjl, ?_⟩, fun hjl => ?_⟩
    · have hst := stmtT_len2 (bdS_ins hbt ((d.fData[i]?.getD dRows).fRows[j]?.getD dRow))
      refine .of (stmtTextI_ok (insS (d.fCat.fTables[i]?.getD dTable) ((d.fData[i]?.getD dRows).fRows[j]?.getD dRow)) (okS_ins hot (hor.1.2 _ (getD_mem dRow hjl))) (bdS_ins hbt _)) ?_
      simp [szMk]
      refine ⟨by omega, by omega, .of _ (Gh.kb _ [1,3,13,14,15,5,31,32,33] [1, 5] []) ⟨j + 1, by omega, ?_⟩ ?_⟩
      · rw [rowsT_take hjl, rowT]
        simp [wrapS (show j < 9223372036854775807 by omega)]
        exact tx_ext (by simp)
      · simp [wrapS (show j < 9223372036854775807 by omega)]; omega
    · have hj' : j = (d.fData[i]?.getD dRows).fRows.length := by omega
      subst hj'
      refine .of _ (Gh.kb _ [1,3,13,14,15] [1] []) ⟨i + 1, by omega, ?_⟩ ?_
      · rw [blksT_succ, blkT, List.take_length]
        simp [wrapS (show i < 9223372036854775807 by omega)]
      · simp [wrapS (show i < 9223372036854775807 by omega)]; omega
  · have hi' : i = d.fCat.fTables.length := by omega
    subst hi'
    simp [dbT, h]

end Go.Proofs.YtkciklpdhhcblaaGreat
