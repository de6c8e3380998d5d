import Derived.Test.YtkbknmcafiepgaaCopy
namespace Go.Proofs.Ytkbknmcafiepgaa
open Go Go.Proofs Go.Sm
attribute [local simp] ti eStr eInt eByte eVal cVal vVal eValS vValS eRow cRow vRow eCol cCol vCol eColS vColS eStrS vStrS eDdl cDdl vDdl eStmt cStmt vStmt ePart cPart vPart ePartS vPartS eBatch cBatch vBatch eTable cTable vTable eTableS vTableS eCat cCat vCat eRowS vRowS eRows cRows vRows eRowsS vRowsS eDb cDb vDb eRec cRec vRec eRecS vRecS eStmtS vStmtS
set_option linter.unusedVariables false
set_option linter.unusedSimpArgs false


def stmtsIn (l : List GPart) : List GStmt := l.map (·.fStmt)
theorem stmtsIn_succ {l : List GPart} {i : Nat} (h : i < l.length) : stmtsIn (l.take (i + 1)) = stmtsIn (l.take i) ++ [(l[i]?.getD dPart).fStmt] := by
  unfold stmtsIn
  rw [List.take_succ_eq_append_getElem h, List.map_append, List.getElem?_eq_getElem h]
  rfl
set_option maxHeartbeats 8000000 in
set_option maxRecDepth 4000 in
theorem stmtsInI_ok (b : GBatch) (hl : b.fParts.length ≤ 1048576) (hb : ∀ r ∈ b.fParts, bdStmt r.fStmt) : VC Try.prog 40 [vBatch b] [(false, mStmtS (stmtsIn b.fParts))] := by
  generalize hpl : b.fParts = l at hl hb
  refine vc_of_ew good hm [0,1,2,3,8,9,10,11,5] Try.func40 rfl (by kernel_rfl) (by kernel_rfl) rfl ?_
  simp [Try.f40, mStmtS, hpl]
  refine ew_loop (fun E => ∃ i : Nat, i ≤ l.length ∧ E = { nt := 22, sl := [(3, .v false [.r [6]]), (8, vPartS l), (9, int .i64 l.length), (10, int .i64 i)], bx := [], rt := (mStmtS (stmtsIn (l.take i))).map fun y => (6, y) }) (fun E => l.length - (E.num 10).toNat) _ (Gh.kb _ [3,8,9,10] [] [6]) ⟨0, by omega, by simp [mStmtS, stmtsIn]⟩ ?_
  rintro E1 ⟨i, hi, rfl⟩
  have hsl : (stmtsIn (l.take i)).length = i := by simp [stmtsIn]; omega
  simp [mStmtS]
  refine ⟨fun h => ⟨h, .of (copyStmt_ok _ (hb _ (getD_mem dPart h))) ?_⟩, fun h => ?_⟩
  · simp [mStmt]
    refine ⟨by omega, .of _ ((Gh.kb _ [3,8,9,10] [] [19]).trans (Gh.rn _ 19 6)) ⟨i + 1, by omega, ?_⟩ ?_⟩
    · rw [stmtsIn_succ h]
      simp [wrapS (show i < 9223372036854775807 by omega), mStmtS]
    · simp [wrapS (show i < 9223372036854775807 by omega)]; omega
  · have : i = l.length := by omega
    subst this
    simp
set_option maxHeartbeats 8000000 in
set_option maxRecDepth 4000 in
theorem stmtsInS_ok (b : GBatch) (hl : b.fParts.length ≤ 1048576) (hb : ∀ r ∈ b.fParts, bdStmt r.fStmt) : VC Try.prog 38 [vBatch b] [(false, mStmtS (stmtsIn b.fParts))] := by
  generalize hpl : b.fParts = l at hl hb
  refine vc_of_ew good hm [0,1,2,3,8,9,10,11,5] Try.func38 rfl (by kernel_rfl) (by kernel_rfl) rfl ?_
  simp [Try.f38, mStmtS, hpl]
  refine ew_loop (fun E => ∃ i : Nat, i ≤ l.length ∧ E = { nt := 22, sl := [(3, .v false [.r [6]]), (8, vPartS l), (9, int .i64 l.length), (10, int .i64 i)], bx := [], rt := (mStmtS (stmtsIn (l.take i))).map fun y => (6, y) }) (fun E => l.length - (E.num 10).toNat) _ (Gh.kb _ [3,8,9,10] [] [6]) ⟨0, by omega, by simp [mStmtS, stmtsIn]⟩ ?_
  rintro E1 ⟨i, hi, rfl⟩
  have hsl : (stmtsIn (l.take i)).length = i := by simp [stmtsIn]; omega
  simp [mStmtS]
  refine ⟨fun h => ⟨h, .of (l07Stmt_ok _ (hb _ (getD_mem dPart h))) ?_⟩, fun h => ?_⟩
  · simp [mStmt]
    refine ⟨by omega, .of _ ((Gh.kb _ [3,8,9,10] [] [19]).trans (Gh.rn _ 19 6)) ⟨i + 1, by omega, ?_⟩ ?_⟩
    · rw [stmtsIn_succ h]
      simp [wrapS (show i < 9223372036854775807 by omega), mStmtS]
    · simp [wrapS (show i < 9223372036854775807 by omega)]; omega
  · have : i = l.length := by omega
    subst this
    simp
theorem partsB {b : GBatch} (hs : ∀ n ∈ wBatch b, n ≤ 1048576) : ∀ r ∈ b.fParts, bdStmt r.fStmt := fun r hr => stmtB fun n hn => hs n (by
  simp only [wBatch, wPartS, List.append_nil]
  exact List.mem_cons_of_mem _ (List.mem_flatMap.2 ⟨r, hr, by simp [wPart, hn]⟩))
theorem S_StmtsIn_ok (b : GBatch) (o0 : okBatch b) (hs : ∀ n ∈ wBatch b, n ≤ 1048576) (_ : (wBatch b).sum ≤ 1048576) : VC Try.prog 38 [vBatch b] [(false, mStmtS (stmtsIn b.fParts))] := stmtsInS_ok b (hs _ (by simp [wBatch, wPartS])) (partsB hs)
theorem I_StmtsIn_ok (b : GBatch) (o0 : okBatch b) (hs : ∀ n ∈ wBatch b, n ≤ 1048576) (_ : (wBatch b).sum ≤ 1048576) : VC Try.prog 40 [vBatch b] [(false, mStmtS (stmtsIn b.fParts))] := stmtsInI_ok b (hs _ (by simp [wBatch, wPartS])) (partsB hs)
theorem StmtsIn_r0 (b : GBatch) (o0 : okBatch b) (hs : ∀ n ∈ wBatch b, n ≤ 1048576) (hz : (wBatch b).sum ≤ 1048576) : (∀ n' ∈ wStmtS (stmtsIn b.fParts), n' ≤ 1048576) ∧ (wStmtS (stmtsIn b.fParts)).sum ≤ 1099511627776 := by
  have hsum : ((stmtsIn b.fParts).flatMap wStmt).sum ≤ (b.fParts.flatMap wPart).sum := by
    generalize b.fParts = l
    induction l with
    | nil => simp [stmtsIn]
    | cons r l ih =>
      simp only [stmtsIn, List.map_cons, List.flatMap_cons, List.sum_append] at ih ⊢
      have hw : (wStmt r.fStmt).sum ≤ (wPart r).sum := by simp [wPart]
      omega
  have hlen : (stmtsIn b.fParts).length = b.fParts.length := by simp [stmtsIn]
  have htot : b.fParts.length + (b.fParts.flatMap wPart).sum ≤ 1048576 := by simpa [wBatch, wPartS] using hz
  refine ⟨fun n hn => ?_, ?_⟩
  · simp only [wStmtS, List.mem_cons] at hn
    rcases hn with rfl | hn
    · omega
    · have := List.single_le_sum' hn
      omega
  · simp only [wStmtS, List.sum_cons]
    omega
-- r0 StmtsIn (stmtsIn p0.fParts)

end Go.Proofs.Ytkbknmcafiepgaa
