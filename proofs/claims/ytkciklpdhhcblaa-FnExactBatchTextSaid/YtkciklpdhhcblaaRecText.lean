import Derived.Test.YtkciklpdhhcblaaBd
namespace Go.Proofs.Ytkciklpdhhcblaa
open Go Go.Proofs Go.Sm
attribute [local simp] ti eStr eInt eByte eVal cVal vVal eValS vValS eRow cRow vRow eCol cCol vCol eColS vColS eStrS vStrS eDdl cDdl vDdl eStmt cStmt vStmt ePart cPart vPart ePartS vPartS eBatch cBatch vBatch eTable cTable vTable eTableS vTableS eCat cCat vCat eRowS vRowS eRows cRows vRows eRowsS vRowsS eDb cDb vDb eFol cFol vFol eRec cRec vRec
set_option linter.unusedVariables false
set_option linter.unusedSimpArgs false


def recL : List ByteArray := [⟨#[]⟩, ⟨#[98, 101, 103, 105, 110]⟩, ⟨#[100, 111]⟩, ⟨#[99, 111, 109, 109, 105, 116]⟩, ⟨#[97, 98, 111, 114, 116]⟩]
def recT (r : GRec) : List UInt8 := if recOk r = true then tx (recL[r.fKind.toNat]?.getD ⟨#[]⟩) ++ 32 :: (numT r.fXid ++ (if r.fKind = 2 then 32 :: stmtT r.fStmt else [])) else []
theorem bdS_rec {r : GRec} (hs : ∀ n ∈ wRec r, n ≤ 1048576) : bdS r.fStmt := bdS_of fun n hn => hs n (by simp [wRec, hn])
theorem rec_kind {r : GRec} (h : recOk r = true) : r.fKind = 1 ∨ r.fKind = 2 ∨ r.fKind = 3 ∨ r.fKind = 4 := by
  simp only [recOk, Bool.and_eq_true] at h
  have h1 := h.1
  simp only [within, Bool.and_eq_true, decide_eq_true_eq] at h1
  omega
set_option maxHeartbeats 8000000 in
set_option maxRecDepth 4000 in
theorem S_RecText_ok (r : GRec) (o0 : okRec r) (hs : ∀ n ∈ wRec r, n ≤ 1048576) (_ : (wRec r).sum ≤ 1048576) : VC Try.prog 35 [vRec r] [(false, [(.s, .sc (.string (ofT (recT r))))])] := by
  have hb := bdS_rec hs
  have hl := stmtT_len2 hb
  have hn := numT_len r.fXid
  refine vc_of_ew good hm [0,1,2,6,3,19] Try.func35 rfl (by kernel_rfl) (by kernel_rfl) rfl ?_
  simp [Try.f35, szMk]
  refine .of (recOkS_ok _ o0) ?_
  by_cases h : recOk r = true
  · rcases rec_kind h with k | k | k | k
    · simp [szMk, h, k, md, lf, List.range']
      refine .of (numTextS_ok _) ?_
      simp [szMk, h, k]
      exact ⟨by omega, tx_ext (by simp [recT, h, k, recL])⟩
    · simp [szMk, h, k, md, lf, List.range']
      refine .of (numTextS_ok _) ?_
      simp [szMk, h, k]
      refine ⟨by omega, by omega, .of (stmtTextS_ok _ o0.2.2.1 hb) ?_⟩
      simp [szMk]
      exact ⟨by omega, tx_ext (by simp [recT, h, k, recL])⟩
    · simp [szMk, h, k, md, lf, List.range']
      refine .of (numTextS_ok _) ?_
      simp [szMk, h, k]
      exact ⟨by omega, tx_ext (by simp [recT, h, k, recL])⟩
    · simp [szMk, h, k, md, lf, List.range']
      refine .of (numTextS_ok _) ?_
      simp [szMk, h, k]
      exact ⟨by omega, tx_ext (by simp [recT, h, k, recL])⟩
  · simp [h, recT, ofT]
theorem wrapK1 : IntKind.i64.wrap 0 = 0 ∧ IntKind.i64.wrap 1 = 1 ∧ IntKind.i64.wrap 2 = 2 ∧ IntKind.i64.wrap 3 = 3 := by decide
set_option maxHeartbeats 8000000 in
set_option maxRecDepth 4000 in
theorem I_RecText_ok (r : GRec) (o0 : okRec r) (hs : ∀ n ∈ wRec r, n ≤ 1048576) (_ : (wRec r).sum ≤ 1048576) : VC Try.prog 36 [vRec r] [(false, [(.s, .sc (.string (ofT (recT r))))])] := by
  have hb := bdS_rec hs
  have hl := stmtT_len2 hb
  have hn := numT_len r.fXid
  refine vc_of_ew good hm [0,1,2,6,3,20] Try.func36 rfl (by kernel_rfl) (by kernel_rfl) rfl ?_
  simp [Try.f36, szMk]
  refine .of (recOkI_ok _ o0 hb.2.2.2.2.2.2 hb.2.2.2.2.1) ?_
  by_cases h : recOk r = true
  · rcases rec_kind h with k | k | k | k
    · simp [szMk, h, k, md, lf, List.range', wrapK1]
      refine .of (numTextI_ok _) ?_
      simp [szMk, h, k]
      exact ⟨by omega, tx_ext (by simp [recT, h, k, recL])⟩
    · simp [szMk, h, k, md, lf, List.range', wrapK1]
      refine .of (numTextI_ok _) ?_
      simp [szMk, h, k]
      refine ⟨by omega, by omega, .of (stmtTextI_ok _ o0.2.2.1 hb) ?_⟩
      simp [szMk]
      exact ⟨by omega, tx_ext (by simp [recT, h, k, recL])⟩
    · simp [szMk, h, k, md, lf, List.range', wrapK1]
      refine .of (numTextI_ok _) ?_
      simp [szMk, h, k]
      exact ⟨by omega, tx_ext (by simp [recT, h, k, recL])⟩
    · simp [szMk, h, k, md, lf, List.range', wrapK1]
      refine .of (numTextI_ok _) ?_
      simp [szMk, h, k]
      exact ⟨by omega, tx_ext (by simp [recT, h, k, recL])⟩
  · simp [h, recT, ofT]

end Go.Proofs.Ytkciklpdhhcblaa
