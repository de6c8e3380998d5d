import Derived.Test.YtkbknmcafiepgaaStmt
namespace Go.Proofs.Ytkbknmcafiepgaa
open Go Go.Proofs Go.Sm
attribute [local simp] ti eStr eInt eByte eVal cVal vVal eValS vValS eRow cRow vRow eCol cCol vCol eColS vColS eStrS vStrS eDdl cDdl vDdl eStmt cStmt vStmt ePart cPart vPart ePartS vPartS eBatch cBatch vBatch eTable cTable vTable eTableS vTableS eCat cCat vCat eRowS vRowS eRows cRows vRows eRowsS vRowsS eDb cDb vDb eRec cRec vRec eRecS vRecS eStmtS vStmtS
set_option linter.unusedVariables false
set_option linter.unusedSimpArgs false


theorem copyVals_ok (l : List GVal) (hl : l.length ≤ 1048576) : VC Try.prog 117 [vValS l] [(false, mValS l)] := by
  refine vc_of_ew good hm [0,2] Try.func117 rfl (by kernel_rfl) (by kernel_rfl) rfl ?_
  simp [Try.f117, mValS]
  omega
def bdDdl (d : GDdl) : Prop := d.fCols.length ≤ 1048576 ∧ d.fKeys.length ≤ 1048576
def bdStmt (s : GStmt) : Prop := s.fKey.length ≤ 1048576 ∧ s.fRow.fVals.length ≤ 1048576 ∧ bdDdl s.fDdl
set_option maxHeartbeats 4000000 in
theorem copyDdl_ok (d : GDdl) (h : bdDdl d) : VC Try.prog 118 [vDdl d] [(true, mDdl d)] := by
  refine vc_of_ew good hm [0,1,2] Try.func118 rfl (by kernel_rfl) (by kernel_rfl) rfl ?_
  simp [Try.f118, mDdl]
  refine ⟨by have := h.1; omega, .of (copyTexts_ok _ h.2) ?_⟩
  simp [mStrS]
set_option maxHeartbeats 4000000 in
theorem l03Row_ok (r : GRow) (h : r.fVals.length ≤ 1048576) : VC Try.prog 115 [vRow r] [(true, mRow r)] := by
  refine vc_of_ew good hm [0,1,2] Try.func115 rfl (by kernel_rfl) (by kernel_rfl) rfl ?_
  simp [Try.f115, mRow]
  omega
set_option maxHeartbeats 8000000 in
set_option maxRecDepth 4000 in
theorem copyStmt_ok (s : GStmt) (h : bdStmt s) : VC Try.prog 74 [vStmt s] [(true, mStmt s)] := by
  refine vc_of_ew good hm [0,1,2] Try.func74 rfl (by kernel_rfl) (by kernel_rfl) rfl ?_
  simp [Try.f74, mStmt]
  refine .of (copyVals_ok _ h.1) ?_
  simp [mValS]
  refine .of (copyVals_ok _ h.2.1) ?_
  simp [mValS]
  refine .of (copyDdl_ok s.fDdl h.2.2) ?_
  simp [mDdl]
set_option maxHeartbeats 8000000 in
set_option maxRecDepth 4000 in
theorem l07Stmt_ok (s : GStmt) (h : bdStmt s) : VC Try.prog 72 [vStmt s] [(true, mStmt s)] := by
  obtain ⟨h1, h2, h3, h4⟩ := h
  refine vc_of_ew good hm [0,1,2] Try.func72 rfl (by kernel_rfl) (by kernel_rfl) rfl ?_
  simp [Try.f72, mStmt]
  refine ⟨by omega, .of (l03Row_ok s.fRow h2) ?_⟩
  simp [mRow]
  omega
theorem List.single_le_sum' {l : List Nat} {n : Nat} (h : n ∈ l) : n ≤ l.sum := by
  induction l with
  | nil => cases h
  | cons x r ih =>
    rcases List.mem_cons.1 h with rfl | h
    · simp
    · have := ih h; simp; omega
theorem stmtB {s : GStmt} (hs : ∀ n ∈ wStmt s, n ≤ 1048576) : bdStmt s :=
  ⟨hs _ (by simp [wStmt, wValS]), hs _ (by simp [wStmt, wRow, wValS]), hs _ (by simp [wStmt, wDdl, wColS]), hs _ (by simp [wStmt, wDdl, wStrS])⟩
theorem recsB {l : List GRec} (hs : ∀ n ∈ wRecS l, n ≤ 1048576) : ∀ r ∈ l, bdStmt r.fStmt := fun r hr => stmtB fun n hn => hs n (List.mem_cons_of_mem _ (List.mem_flatMap.2 ⟨r, hr, by simp [wRec, hn]⟩))
def bdRec (r : GRec) : Prop := bdStmt r.fStmt
def recTx (x : Int) (r : GRec) : Bool := decide (r.fKind = 2) && decide (r.fXid = x)
def stmtsOf (l : List GRec) (x : Int) : List GStmt := (l.filter (recTx x)).map (·.fStmt)
theorem stmtsOf_succ {l : List GRec} {x : Int} {i : Nat} (h : i < l.length) : stmtsOf (l.take (i + 1)) x = if recTx x (l[i]?.getD dRec) = true then stmtsOf (l.take i) x ++ [(l[i]?.getD dRec).fStmt] else stmtsOf (l.take i) x := by
  unfold stmtsOf
  rw [List.take_succ_eq_append_getElem h, List.filter_append, List.map_append, List.getElem?_eq_getElem h]
  simp only [Option.getD_some]
  split
  · rename_i h1; simp [List.filter, h1]
  · rename_i h1; simp [List.filter, h1]
theorem stmtsOf_len (l : List GRec) (x : Int) : (stmtsOf l x).length ≤ l.length := by
  unfold stmtsOf
  rw [List.length_map]
  exact List.length_filter_le _ _
set_option maxHeartbeats 8000000 in
set_option maxRecDepth 4000 in
theorem stmtsOfI_ok (l : List GRec) (x : Int) (hl : l.length ≤ 1048576) (hb : ∀ r ∈ l, bdRec r) : VC Try.prog 31 [vRecS l, int .i64 x] [(false, mStmtS (stmtsOf l x))] := by
  refine vc_of_ew good hm [0,1,4,5,9,10,11,12,7,23] Try.func31 rfl (by kernel_rfl) (by kernel_rfl) rfl ?_
  simp [Try.f31, mStmtS]
  refine ew_loop (fun E => ∃ i : Nat, i ≤ l.length ∧ E = { nt := 32, sl := [(1, int .i64 x), (5, .v false [.r [8]]), (9, vRecS l), (10, int .i64 l.length), (11, int .i64 i)], bx := [], rt := (mStmtS (stmtsOf (l.take i) x)).map fun y => (8, y) }) (fun E => l.length - (E.num 11).toNat) _ (Gh.kb _ [1,5,9,10,11] [] [8]) ⟨0, by omega, by simp [mStmtS, stmtsOf]⟩ ?_
  rintro E1 ⟨i, hi, rfl⟩
  have hsl := stmtsOf_len (l.take i) x
  rw [List.length_take] at hsl
  simp [mStmtS]
  refine ⟨fun h => ⟨h, ?_⟩, fun h => ?_⟩
  · have hr : recTx x (l[i]?.getD dRec) = (decide ((l[i]?.getD dRec).fKind = 2) && decide ((l[i]?.getD dRec).fXid = x)) := rfl
    have hs := stmtsOf_succ (x := x) h
    refine ⟨fun h1 h2 => .of (copyStmt_ok _ (hb _ (getD_mem dRec h))) ?_, fun h1 => ?_⟩
    · simp [mStmt]
      refine ⟨by omega, .of _ ((Gh.kb _ [1,5,9,10,11] [] [29]).trans (Gh.rn _ 29 8)) ⟨i + 1, by omega, ?_⟩ ?_⟩
      · rw [hs, if_pos (by rw [hr]; simp [h1, h2])]
        simp [wrapS (show i < 9223372036854775807 by omega), mStmtS]
      · simp [wrapS (show i < 9223372036854775807 by omega)]; omega
    · refine .of _ (Gh.kb _ [1,5,9,10,11] [] [8]) ⟨i + 1, by omega, ?_⟩ ?_
      · rw [hs, if_neg (by rw [hr]; simp; exact h1)]
        simp [wrapS (show i < 9223372036854775807 by omega), mStmtS]
      · simp [wrapS (show i < 9223372036854775807 by omega)]; omega
  · have : i = l.length := by omega
    subst this
    simp
set_option maxHeartbeats 8000000 in
set_option maxRecDepth 4000 in
theorem stmtsOfS_ok (l : List GRec) (x : Int) (hl : l.length ≤ 1048576) (hb : ∀ r ∈ l, bdRec r) : VC Try.prog 29 [vRecS l, int .i64 x] [(false, mStmtS (stmtsOf l x))] := by
  refine vc_of_ew good hm [0,1,4,5,9,10,11,12,7,23] Try.func29 rfl (by kernel_rfl) (by kernel_rfl) rfl ?_
  simp [Try.f29, mStmtS]
  refine ew_loop (fun E => ∃ i : Nat, i ≤ l.length ∧ E = { nt := 32, sl := [(1, int .i64 x), (5, .v false [.r [8]]), (9, vRecS l), (10, int .i64 l.length), (11, int .i64 i)], bx := [], rt := (mStmtS (stmtsOf (l.take i) x)).map fun y => (8, y) }) (fun E => l.length - (E.num 11).toNat) _ (Gh.kb _ [1,5,9,10,11] [] [8]) ⟨0, by omega, by simp [mStmtS, stmtsOf]⟩ ?_
  rintro E1 ⟨i, hi, rfl⟩
  have hsl := stmtsOf_len (l.take i) x
  rw [List.length_take] at hsl
  simp [mStmtS]
  refine ⟨fun h => ⟨h, ?_⟩, fun h => ?_⟩
  · have hr : recTx x (l[i]?.getD dRec) = (decide ((l[i]?.getD dRec).fKind = 2) && decide ((l[i]?.getD dRec).fXid = x)) := rfl
    have hs := stmtsOf_succ (x := x) h
    refine ⟨fun h1 h2 => .of (l07Stmt_ok _ (hb _ (getD_mem dRec h))) ?_, fun h1 => ?_⟩
    · simp [mStmt]
      refine ⟨by omega, .of _ ((Gh.kb _ [1,5,9,10,11] [] [29]).trans (Gh.rn _ 29 8)) ⟨i + 1, by omega, ?_⟩ ?_⟩
      · rw [hs, if_pos (by rw [hr]; simp [h1, h2])]
        simp [wrapS (show i < 9223372036854775807 by omega), mStmtS]
      · simp [wrapS (show i < 9223372036854775807 by omega)]; omega
    · refine .of _ (Gh.kb _ [1,5,9,10,11] [] [8]) ⟨i + 1, by omega, ?_⟩ ?_
      · rw [hs, if_neg (by rw [hr]; simp; exact h1)]
        simp [wrapS (show i < 9223372036854775807 by omega), mStmtS]
      · simp [wrapS (show i < 9223372036854775807 by omega)]; omega
  · have : i = l.length := by omega
    subst this
    simp
theorem S_StmtsOf_ok (l : List GRec) (x : Int) (o0 : okRecS l) (hs : ∀ n ∈ wRecS l, n ≤ 1048576) (_ : (wRecS l).sum ≤ 1048576) (o1 : okI x) : VC Try.prog 29 [vRecS l, int .i64 x] [(false, mStmtS (stmtsOf l x))] := stmtsOfS_ok l x (hs _ (by simp [wRecS])) (recsB hs)
theorem I_StmtsOf_ok (l : List GRec) (x : Int) (o0 : okRecS l) (hs : ∀ n ∈ wRecS l, n ≤ 1048576) (_ : (wRecS l).sum ≤ 1048576) (o1 : okI x) : VC Try.prog 31 [vRecS l, int .i64 x] [(false, mStmtS (stmtsOf l x))] := stmtsOfI_ok l x (hs _ (by simp [wRecS])) (recsB hs)
theorem StmtsOf_r0 (l : List GRec) (x : Int) (o0 : okRecS l) (hs : ∀ n ∈ wRecS l, n ≤ 1048576) (hz : (wRecS l).sum ≤ 1048576) (o1 : okI x) : (∀ n' ∈ wStmtS (stmtsOf l x), n' ≤ 1048576) ∧ (wStmtS (stmtsOf l x)).sum ≤ 1099511627776 := by
  have hlen : (stmtsOf l x).length ≤ l.length := stmtsOf_len l x
  have hsum : ((stmtsOf l x).flatMap wStmt).sum ≤ (l.flatMap wRec).sum := by
    clear hs hz hlen o0
    induction l with
    | nil => simp [stmtsOf]
    | cons r l ih =>
      simp only [stmtsOf, List.filter_cons] at ih ⊢
      have hw : (wStmt r.fStmt).sum ≤ (wRec r).sum := by simp [wRec]
      split
      · simp only [List.map_cons, List.flatMap_cons, List.sum_append]
        omega
      · simp only [List.flatMap_cons, List.sum_append]
        omega
  have hl : l.length ≤ 1048576 := hs _ (by simp [wRecS])
  have htot : l.length + (l.flatMap wRec).sum ≤ 1048576 := by simpa [wRecS] using hz
  refine ⟨fun n hn => ?_, ?_⟩
  · simp only [wStmtS, List.mem_cons] at hn
    rcases hn with rfl | hn
    · omega
    · have := List.single_le_sum' hn
      omega
  · simp only [wStmtS, List.sum_cons]
    omega
-- r0 StmtsOf (stmtsOf p0 p1)

end Go.Proofs.Ytkbknmcafiepgaa
