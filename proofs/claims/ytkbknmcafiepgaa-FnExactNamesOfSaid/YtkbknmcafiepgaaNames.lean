import Derived.Test.YtkbknmcafiepgaaStmt
import Derived.Test.YtkbknmcafiepgaaRow
import Derived.Test.YtkbknmcafiepgaaSmR
namespace Go.Proofs.Ytkbknmcafiepgaa
open Go Go.Proofs Go.Sm
attribute [local simp] ti eStr eInt eByte eVal cVal vVal eValS vValS eRow cRow vRow eCol cCol vCol eColS vColS eStrS vStrS eDdl cDdl vDdl eStmt cStmt vStmt ePart cPart vPart ePartS vPartS eBatch cBatch vBatch eTable cTable vTable eTableS vTableS eCat cCat vCat eRowS vRowS eRows cRows vRows eRowsS vRowsS eDb cDb vDb eRec cRec vRec eRecS vRecS eStmtS vStmtS
set_option linter.unusedVariables false
set_option linter.unusedSimpArgs false


def tabAt (l : List GTable) (s : ByteArray) : Int := idxF (fun t : GTable => t.fName.toList == s.toList) l
theorem tabAt_bd (l : List GTable) (s : ByteArray) : -1 ≤ tabAt l s ∧ tabAt l s < l.length := idxF_bd _ _
theorem at1_ok (t : GTable) (s : ByteArray) : VC Try.prog 155 [vTable t, .p (.ps [.sc (.string s)])] [(false, [(.s, .sc (.bool (t.fName.toList == s.toList)))])] := by
  refine vc_of_ew good hm [0,1,2,3] Try.func155 rfl (by kernel_rfl) (by kernel_rfl) rfl ?_
  simp [Try.f155]
theorem at_ok (c : GCat) (s : ByteArray) (hl : okM c.fTables.length) : VC Try.prog 133 [vCat c, str s] [(false, [(.s, .sc (.int .i64 (tabAt c.fTables s)))])] := by
  refine vc_of_ew good hm [0,1,2,3,4] Try.func133 rfl (by kernel_rfl) (by kernel_rfl) rfl ?_
  simp [Try.f133]
  refine .of (idxTable1_ok c.fTables _ _ (fun t : GTable => t.fName.toList == s.toList) hl (fun x _ => at1_ok x s)) ?_
  simp [tabAt]
set_option maxHeartbeats 4000000 in
theorem l02At_ok (c : GCat) (s : ByteArray) (hl : okM c.fTables.length) : VC Try.prog 125 [vCat c, str s] [(false, [(.s, .sc (.int .i64 (tabAt c.fTables s)))])] := by
  unfold okM at hl
  refine vc_of_ew good hm [0,1,2,4,8,9,10,11,6,5,18] Try.func125 rfl (by kernel_rfl) (by kernel_rfl) rfl ?_
  simp [Try.f125]
  refine ew_loop (fun E => ∃ i : Nat, i ≤ c.fTables.length ∧ anyT (fun t : GTable => t.fName.toList == s.toList) c.fTables i = false ∧ E = { nt := 21, sl := [(1, str s), (8, vTableS c.fTables), (9, int .i64 c.fTables.length), (10, int .i64 i)], bx := [], rt := [] }) (fun E => c.fTables.length - (E.num 10).toNat) _ (Gh.kb _ [1,8,9,10] [] []) ⟨0, by omega, anyT_zero _ _, by simp⟩ ?_
  rintro E1 ⟨i, hi, hall, rfl⟩
  simp
  refine ⟨fun h => ⟨h, fun hp => (idxF_at _ dTable h hall (by simpa using hp)).symm, fun hp => .of _ (Gh.kb _ [1,8,9,10] [] []) ⟨i + 1, by omega, by rw [anyT_succ _ dTable h, hall]; simpa using hp, ?_⟩ ?_⟩, fun h => ?_⟩
  · simp [wrapS (show i < 9223372036854775807 by omega)]
  · simp [wrapS (show i < 9223372036854775807 by omega)]; omega
  · have : i = c.fTables.length := by omega
    subst this
    rw [anyT_all] at hall
    exact (idxF_no _ hall).symm
def bdTable (t : GTable) : Prop := t.fCols.length ≤ 1048576 ∧ t.fKeys.length ≤ 1048576
set_option maxHeartbeats 4000000 in
theorem l02Table_ok (t : GTable) (h : bdTable t) : VC Try.prog 127 [vTable t] [(true, mTable t)] := by
  obtain ⟨h1, h2⟩ := h
  refine vc_of_ew good hm [0,1,2] Try.func127 rfl (by kernel_rfl) (by kernel_rfl) rfl ?_
  simp [Try.f127, mTable]
  omega
def colNames (l : List GCol) : List ByteArray := l.map (·.fName)
theorem colNames_succ {l : List GCol} {i : Nat} (h : i < l.length) : colNames (l.take (i + 1)) = colNames (l.take i) ++ [(l[i]?.getD dCol).fName] := by
  unfold colNames
  rw [List.take_succ_eq_append_getElem h, List.map_append, List.getElem?_eq_getElem h]
  rfl
set_option maxHeartbeats 4000000 in
theorem names_ok (t : GTable) (h1 : t.fCols.length ≤ 1048576) : VC Try.prog 134 [vTable t] [(false, mStrS (colNames t.fCols))] := by
  refine vc_of_ew good hm [0,1,2,3,8,9,10,11,5] Try.func134 rfl (by kernel_rfl) (by kernel_rfl) rfl ?_
  simp [Try.f134, mStrS]
  refine ew_loop (fun E => ∃ i : Nat, i ≤ t.fCols.length ∧ E = { nt := 21, sl := [(3, .v false [.r [6]]), (8, vColS t.fCols), (9, int .i64 t.fCols.length), (10, int .i64 i)], bx := [], rt := (mStrS (colNames (t.fCols.take i))).map fun y => (6, y) }) (fun E => t.fCols.length - (E.num 10).toNat) _ (Gh.kb _ [3,8,9,10] [] [6]) ⟨0, by omega, by simp [mStrS, colNames]⟩ ?_
  rintro E1 ⟨i, hi, rfl⟩
  have hsl : (colNames (t.fCols.take i)).length = i := by simp [colNames]; omega
  simp [mStrS]
  refine ⟨fun h => ⟨h, by omega, .of _ ((Gh.kb _ [3,8,9,10] [] [18]).trans (Gh.rn _ 18 6)) ⟨i + 1, by omega, ?_⟩ ?_⟩, fun h => ?_⟩
  · rw [colNames_succ h]
    simp [wrapS (show i < 9223372036854775807 by omega), mStrS]
  · simp [wrapS (show i < 9223372036854775807 by omega)]; omega
  · have : i = t.fCols.length := by omega
    subst this
    simp
def theTab (d : GDb) (s : ByteArray) : GTable := d.fCat.fTables[(tabAt d.fCat.fTables s).toNat]?.getD dTable
def namesP (d : GDb) (s : ByteArray) : List ByteArray × List ByteArray := if 0 ≤ tabAt d.fCat.fTables s then (colNames (theTab d s).fCols, (theTab d s).fKeys) else ([], [])
theorem getD_all {α : Type} {p : α → Prop} {l : List α} {d : α} (h : ∀ x ∈ l, p x) (hd : p d) (i : Nat) : p (l[i]?.getD d) := by
  cases hx : l[i]? with
  | none => exact hd
  | some x => exact h x (List.mem_of_getElem? hx)
theorem bdTable_d : bdTable dTable := by simp [bdTable, dTable]
set_option maxHeartbeats 8000000 in
set_option maxRecDepth 4000 in
theorem namesOf_ok (d : GDb) (s : ByteArray) (hl : okM d.fCat.fTables.length) (hb : ∀ t ∈ d.fCat.fTables, bdTable t) : VC Try.prog 89 [vDb d, str s] [(false, mStrS (namesP d s).1), (false, mStrS (namesP d s).2)] := by
  refine vc_of_ew good hm [0,1,2,4,5,6,12] Try.func89 rfl (by kernel_rfl) (by kernel_rfl) rfl ?_
  simp [Try.f89, mStrS]
  refine .of (at_ok d.fCat s hl) ?_
  have hbd := tabAt_bd d.fCat.fTables s
  have hbt : bdTable (theTab d s) := getD_all hb bdTable_d _
  have ht : d.fCat.fTables[(tabAt d.fCat.fTables s).toNat]?.getD dTable = theTab d s := rfl
  simp
  refine ⟨fun h => ?_, fun h => ⟨⟨by omega, by omega⟩, ?_⟩⟩
  · simp [namesP, show ¬ 0 ≤ tabAt d.fCat.fTables s by omega]
  · rw [ht]
    refine .of (names_ok (theTab d s) hbt.1) ?_
    simp [mStrS]
    rw [ht]
    refine ⟨by omega, .of (copyTexts_ok _ hbt.2) ?_⟩
    simp [mStrS, namesP, h]
set_option maxHeartbeats 8000000 in
set_option maxRecDepth 4000 in
theorem tableOf_ok (c : GCat) (s : ByteArray) (hc : okCat c) (hb : ∀ t ∈ c.fTables, bdTable t) (T : GTable) (hT : T = if catOk c = true ∧ 0 ≤ tabAt c.fTables s then c.fTables[(tabAt c.fTables s).toNat]?.getD dTable else dTable) : VC Try.prog 84 [vCat c, str s] [(true, mTable T), (false, [(.s, .sc (.bool (catOk c && decide (0 ≤ tabAt c.fTables s))))])] := by
  refine vc_of_ew good hm [0,1,2,4,5,6,16] Try.func84 rfl (by kernel_rfl) (by kernel_rfl) rfl ?_
  simp [Try.f84, mTable]
  refine .of (l02At_ok c s hc.1.1) ?_
  have hbd := tabAt_bd c.fTables s
  simp
  refine .of (catOkS_ok c hc) ?_
  simp
  refine ⟨fun h => ?_, fun a1 a2 => ⟨⟨a2, hbd.2⟩, .of (l02Table_ok _ (getD_all hb bdTable_d _)) ?_⟩⟩
  · have : ¬ (catOk c = true ∧ 0 ≤ tabAt c.fTables s) := by grind
    rw [if_neg this] at hT
    subst hT
    simp [dTable]
    grind
  · rw [if_pos ⟨a1, a2⟩] at hT
    simp [mTable, a1, a2, hT]
set_option maxHeartbeats 8000000 in
theorem catOk_of_dbOk {d : GDb} (h : dbOk d = true) : catOk d.fCat = true := by
  simp only [dbOk, Bool.and_eq_true] at h
  exact h.1
def namesOf (d : GDb) (s : ByteArray) : List ByteArray × List ByteArray := if dbOk d = true then namesP d s else ([], [])
theorem dbB {d : GDb} (hs : ∀ n ∈ wDb d, n ≤ 1048576) : ∀ t ∈ d.fCat.fTables, bdTable t := fun t ht =>
  ⟨hs _ (by
    simp only [wDb, wCat, wTableS, List.append_nil]
    refine List.mem_append_left _ (List.mem_cons_of_mem _ (List.mem_flatMap.2 ⟨t, ht, ?_⟩))
    simp [wTable, wColS]), hs _ (by
    simp only [wDb, wCat, wTableS, List.append_nil]
    refine List.mem_append_left _ (List.mem_cons_of_mem _ (List.mem_flatMap.2 ⟨t, ht, ?_⟩))
    simp [wTable, wStrS])⟩
set_option maxHeartbeats 8000000 in
set_option maxRecDepth 4000 in
theorem I_NamesOf_ok (d : GDb) (s : ByteArray) (o0 : okDb d) (hs : ∀ n ∈ wDb d, n ≤ 1048576) (_ : (wDb d).sum ≤ 1048576) (o1 : okM s.size) (h1 : s.size ≤ 1048576) : VC Try.prog 46 [vDb d, str s] [(false, mStrS (namesOf d s).1), (false, mStrS (namesOf d s).2)] := by
  refine vc_of_ew good hm [0,1,2,4,5,8] Try.func46 rfl (by kernel_rfl) (by kernel_rfl) rfl ?_
  simp [Try.f46, mStrS]
  refine .of (dbOkI_ok d o0 (fun t ht => (dbB hs t ht).2)) ?_
  simp
  refine ⟨fun h => by simp [namesOf, h], fun h => .of (namesOf_ok d s o0.1.1.1 (dbB hs)) ?_⟩
  simp [mStrS, namesOf, h]
set_option maxHeartbeats 8000000 in
set_option maxRecDepth 4000 in
theorem S_NamesOf_ok (d : GDb) (s : ByteArray) (o0 : okDb d) (hs : ∀ n ∈ wDb d, n ≤ 1048576) (_ : (wDb d).sum ≤ 1048576) (o1 : okM s.size) (h1 : s.size ≤ 1048576) : VC Try.prog 44 [vDb d, str s] [(false, mStrS (namesOf d s).1), (false, mStrS (namesOf d s).2)] := by
  refine vc_of_ew good hm [0,1,2,4,5,6,7,8,25,27,28,29,30,10] Try.func44 rfl (by kernel_rfl) (by kernel_rfl) rfl ?_
  simp [Try.f44, mStrS]
  obtain ⟨T, hT⟩ : ∃ T, T = if catOk d.fCat = true ∧ 0 ≤ tabAt d.fCat.fTables s then d.fCat.fTables[(tabAt d.fCat.fTables s).toNat]?.getD dTable else dTable := ⟨_, rfl⟩
  have hTb : bdTable T := by rw [hT]; split; exact getD_all (dbB hs) bdTable_d _; exact bdTable_d
  refine .of (tableOf_ok d.fCat s o0.1 (dbB hs) T hT) ?_
  simp [mTable]
  refine .of (fun h => ⟨h, dbOkS_ok d o0 (fun t ht => (dbB hs t ht).2)⟩) ?_
  simp
  refine ⟨fun h => ?_, fun a1 a2 a3 => ?_⟩
  · have : namesOf d s = ([], []) := by
      have := @catOk_of_dbOk d
      grind [namesOf, namesP]
    simp [this]
  have hTe : T = theTab d s := by rw [hT, if_pos ⟨a1, a2⟩]; rfl
  have hres : namesOf d s = (colNames T.fCols, T.fKeys) := by simp [namesOf, namesP, a2, a3, hTe]
  rw [hres]
  obtain ⟨b1, b2⟩ := hTb
  refine ew_loop (fun E => ∃ i : Nat, i ≤ T.fCols.length ∧ E = { nt := 44, sl := [(6, .p (.bx 6 0)), (8, .v false [.r [18]]), (27, .v false [.r [1015]]), (28, int .i64 T.fCols.length), (29, int .i64 i)], bx := [(6, [.s (.sc (.string T.fName)), .r [1015], .r [2015]])], rt := ((mStrS (colNames (T.fCols.take i))).map fun y => (18, y)) ++ (((mColS T.fCols).map fun y => (1015, y)) ++ ((mStrS T.fKeys).map fun y => (2015, y))) }) (fun E => T.fCols.length - (E.num 29).toNat) _ (Gh.kb _ [6,8,27,28,29] [6] [18, 1015, 2015]) ⟨0, by omega, by simp [mStrS, mColS, colNames]⟩ ?_
  rintro E1 ⟨i, hi, rfl⟩
  have hsl : (colNames (T.fCols.take i)).length = i := by simp [colNames]; omega
  simp [mStrS, mColS, md, lf, List.range']
  refine ⟨fun h => ⟨h, by omega, .of _ ((Gh.kb _ [6,8,27,28,29] [6] [37, 1015, 2015]).trans (Gh.rn _ 37 18)) ⟨i + 1, by omega, ?_⟩ ?_⟩, fun h => ?_⟩
  · rw [colNames_succ h]
    simp [wrapS (show i < 9223372036854775807 by omega), mStrS, mColS]
  · simp [wrapS (show i < 9223372036854775807 by omega)]; omega
  · have : i = T.fCols.length := by omega
    subst this
    simp
    omega
theorem strS_r0 {l : List ByteArray} (hl : l.length ≤ 1048576) (h : ∀ s ∈ l, s.size ≤ 1048575) : (∀ n' ∈ wStrS l, n' ≤ 1048576) ∧ (wStrS l).sum ≤ 1099511627776 := by
  refine ⟨fun n hn => ?_, ?_⟩
  · simp only [wStrS, List.mem_cons] at hn
    rcases hn with rfl | hn
    · exact hl
    · obtain ⟨s, hs, hn⟩ := List.mem_flatMap.1 hn
      have := h s hs
      simp only [wStr, List.mem_cons, List.not_mem_nil, or_false] at hn
      omega
  · have : (l.flatMap wStr).sum ≤ l.length * 1048575 := by
      clear hl
      induction l with
      | nil => simp
      | cons x r ih =>
        simp only [List.flatMap_cons, List.sum_append, List.length_cons, Nat.add_mul]
        have h1 := h x (by simp)
        have h2 := ih fun v hv => h v (by simp [hv])
        have h3 : (wStr x).sum = x.size := by simp [wStr]
        omega
    simp only [wStrS, List.sum_cons]
    omega
theorem sumF_mem {α : Type} {w : α → List Nat} {l : List α} {v : α} (hv : v ∈ l) : (w v).sum ≤ (l.flatMap w).sum := by
  induction l with
  | nil => cases hv
  | cons x r ih =>
    simp only [List.flatMap_cons, List.sum_append]
    rcases List.mem_cons.1 hv with rfl | hv
    · omega
    · have := ih hv; omega
theorem tabB {d : GDb} (hz : (wDb d).sum ≤ 1048576) : ∀ t ∈ d.fCat.fTables, (wTable t).sum ≤ 1048575 := by
  intro t ht
  have h1 := sumF_mem (w := wTable) ht
  have h2 : d.fCat.fTables.length + (d.fCat.fTables.flatMap wTable).sum ≤ (wDb d).sum := by simp [wDb, wCat, wTableS] <;> omega
  have h3 := List.length_pos_of_mem ht
  omega
theorem names_r0 {t : GTable} (h : (wTable t).sum ≤ 1048575) : (∀ s ∈ colNames t.fCols, s.size ≤ 1048575) ∧ (∀ s ∈ t.fKeys, s.size ≤ 1048575) := by
  have e : (wTable t).sum = t.fName.size + ((t.fCols.length + (t.fCols.flatMap wCol).sum) + (t.fKeys.length + (t.fKeys.flatMap wStr).sum)) := by simp [wTable, wColS, wStrS]; omega
  refine ⟨fun s hs => ?_, fun s hs => ?_⟩
  · obtain ⟨c, hc, rfl⟩ := List.mem_map.1 hs
    have h1 := sumF_mem (w := wCol) hc
    have h2 : c.fName.size ≤ (wCol c).sum := by simp [wCol]
    omega
  · have h1 := sumF_mem (w := wStr) hs
    have h2 : s.size ≤ (wStr s).sum := by simp [wStr]
    omega
theorem NamesOf_rr (d : GDb) (s : ByteArray) (hs : ∀ n ∈ wDb d, n ≤ 1048576) (hz : (wDb d).sum ≤ 1048576) :
    ((∀ n' ∈ wStrS (namesOf d s).1, n' ≤ 1048576) ∧ (wStrS (namesOf d s).1).sum ≤ 1099511627776) ∧ ((∀ n' ∈ wStrS (namesOf d s).2, n' ≤ 1048576) ∧ (wStrS (namesOf d s).2).sum ≤ 1099511627776) := by
  have h0 : (∀ n' ∈ wStrS [], n' ≤ 1048576) ∧ (wStrS []).sum ≤ 1099511627776 := strS_r0 (by simp) (by simp)
  unfold namesOf namesP
  split
  · split
    · have ht : bdTable (theTab d s) := getD_all (dbB hs) bdTable_d _
      have hw : (wTable (theTab d s)).sum ≤ 1048575 := getD_all (p := fun t => (wTable t).sum ≤ 1048575) (tabB hz) (by simp [wTable, wColS, wStrS, dTable]; exact Nat.zero_le _) _
      exact ⟨strS_r0 (by simp [colNames]; exact ht.1) (names_r0 hw).1, strS_r0 ht.2 (names_r0 hw).2⟩
    · exact ⟨h0, h0⟩
  · exact ⟨h0, h0⟩
theorem NamesOf_r0 (d : GDb) (s : ByteArray) (o0 : okDb d) (hs : ∀ n ∈ wDb d, n ≤ 1048576) (hz : (wDb d).sum ≤ 1048576) (o1 : okM s.size) (h1 : s.size ≤ 1048576) : (∀ n' ∈ wStrS (namesOf d s).1, n' ≤ 1048576) ∧ (wStrS (namesOf d s).1).sum ≤ 1099511627776 := (NamesOf_rr d s hs hz).1
theorem NamesOf_r1 (d : GDb) (s : ByteArray) (o0 : okDb d) (hs : ∀ n ∈ wDb d, n ≤ 1048576) (hz : (wDb d).sum ≤ 1048576) (o1 : okM s.size) (h1 : s.size ≤ 1048576) : (∀ n' ∈ wStrS (namesOf d s).2, n' ≤ 1048576) ∧ (wStrS (namesOf d s).2).sum ≤ 1099511627776 := (NamesOf_rr d s hs hz).2
-- r0 NamesOf (namesOf p0 p1).1
-- r1 NamesOf (namesOf p0 p1).2

end Go.Proofs.Ytkbknmcafiepgaa
