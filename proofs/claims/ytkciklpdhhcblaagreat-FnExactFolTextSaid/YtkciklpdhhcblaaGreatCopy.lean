import Derived.Test.YtkciklpdhhcblaaGreatStmt
namespace Go.Proofs.YtkciklpdhhcblaaGreat
open Go Go.Proofs Go.Sm
attribute [local simp] ti eStr eInt eByte eVal cVal vVal eCol cCol vCol eColS vColS eStrS vStrS eTable cTable vTable eTableS vTableS eCat cCat vCat eValS vValS eRow cRow vRow eRowS vRowS eRows cRows vRows eRowsS vRowsS eDb cDb vDb eDdl cDdl vDdl eFol cFol vFol eStmt cStmt vStmt eRec cRec vRec eSnap cSnap vSnap eRecS vRecS eTail cTail vTail
set_option linter.unusedVariables false
set_option linter.unusedSimpArgs false


theorem copyVals_ok (l : List GVal) (hl : l.length ≤ 1048576) : VC Tryz.prog 210 [vValS l] [(false, mValS l)] := by
  refine vc_of_ew good hm [0,2] Tryz.func210 rfl (by kernel_rfl) (by kernel_rfl) rfl ?_
  simp [Tryz.f210, mValS]
  omega
def bdDdl (d : GDdl) : Prop := d.fCols.length ≤ 1048576 ∧ d.fKeys.length ≤ 1048576
def bdStmt (s : GStmt) : Prop := s.fKey.length ≤ 1048576 ∧ s.fRow.fVals.length ≤ 1048576 ∧ bdDdl s.fDdl
set_option maxHeartbeats 4000000 in
theorem copyDdl_ok (d : GDdl) (h : bdDdl d) : VC Tryz.prog 211 [vDdl d] [(true, mDdl d)] := by
  refine vc_of_ew good hm [0,1,2] Tryz.func211 rfl (by kernel_rfl) (by kernel_rfl) rfl ?_
  simp [Tryz.f211, mDdl]
  refine ⟨by have := h.1; omega, .of (copyTexts_ok _ h.2) ?_⟩
  simp [mStrS]
set_option maxHeartbeats 4000000 in
theorem l03Row_ok (r : GRow) (h : r.fVals.length ≤ 1048576) : VC Tryz.prog 184 [vRow r] [(true, mRow r)] := by
  refine vc_of_ew good hm [0,1,2] Tryz.func184 rfl (by kernel_rfl) (by kernel_rfl) rfl ?_
  simp [Tryz.f184, mRow]
  omega
set_option maxHeartbeats 8000000 in
set_option maxRecDepth 4000 in
theorem copyStmt_ok (s : GStmt) (h : bdStmt s) : VC Tryz.prog 154 [vStmt s] [(true, mStmt s)] := by
  refine vc_of_ew good hm [0,1,2] Tryz.func154 rfl (by kernel_rfl) (by kernel_rfl) rfl ?_
  simp [Tryz.f154, mStmt]
  refine .of (copyVals_ok _ h.1) ?_
  simp [mValS]
  refine .of (copyVals_ok _ h.2.1) ?_
  simp [mValS]
  refine .of (copyDdl_ok s.fDdl h.2.2) ?_
  simp [mDdl]
set_option maxHeartbeats 8000000 in
set_option maxRecDepth 4000 in
theorem l07Stmt_ok (s : GStmt) (h : bdStmt s) : VC Tryz.prog 146 [vStmt s] [(true, mStmt s)] := by
  obtain ⟨h1, h2, h3, h4⟩ := h
  refine vc_of_ew good hm [0,1,2] Tryz.func146 rfl (by kernel_rfl) (by kernel_rfl) rfl ?_
  simp [Tryz.f146, mStmt]
  refine ⟨by omega, .of (l03Row_ok s.fRow h2) ?_⟩
  simp [mRow]
  omega
theorem List.single_le_sum' {l : List Nat} {n : Nat} (h : n ∈ l) : n ≤ l.sum := by
  induction l with
  | nil => cases h
  | cons x r ih =>
    rcases List.mem_cons.1 h with rfl | h
    · simp
    · have := ih h; simp; omega
theorem stmtB {s : GStmt} (hs : ∀ n ∈ wStmt s, n ≤ 1048576) : bdStmt s :=
  ⟨hs _ (by simp [wStmt, wValS]), hs _ (by simp [wStmt, wRow, wValS]), hs _ (by simp [wStmt, wDdl, wColS]), hs _ (by simp [wStmt, wDdl, wStrS])⟩
theorem recsB {l : List GRec} (hs : ∀ n ∈ wRecS l, n ≤ 1048576) : ∀ r ∈ l, bdStmt r.fStmt := fun r hr => stmtB fun n hn => hs n (List.mem_cons_of_mem _ (List.mem_flatMap.2 ⟨r, hr, by simp [wRec, hn]⟩))
def bdRec (r : GRec) : Prop := bdStmt r.fStmt
def recTx (x : Int) (r : GRec) : Bool := decide (r.fKind = 2) && decide (r.fXid = x)
def stmtsOf (l : List GRec) (x : Int) : List GStmt := (l.filter (recTx x)).map (·.fStmt)
theorem stmtsOf_succ {l : List GRec} {x : Int} {i : Nat} (h : i < l.length) : stmtsOf (l.take (i + 1)) x = if recTx x (l[i]?.getD dRec) = true then stmtsOf (l.take i) x ++ [(l[i]?.getD dRec).fStmt] else stmtsOf (l.take i) x := by
  unfold stmtsOf
  rw [List.take_succ_eq_append_getElem h, List.filter_append, List.map_append, List.getElem?_eq_getElem h]
  simp only [Option.getD_some]
  split
  · rename_i h1; simp [List.filter, h1]
  · rename_i h1; simp [List.filter, h1]
theorem stmtsOf_len (l : List GRec) (x : Int) : (stmtsOf l x).length ≤ l.length := by
  unfold stmtsOf
  rw [List.length_map]
  exact List.length_filter_le _ _
-- r0 StmtsOf (stmtsOf p0 p1)

end Go.Proofs.YtkciklpdhhcblaaGreat
