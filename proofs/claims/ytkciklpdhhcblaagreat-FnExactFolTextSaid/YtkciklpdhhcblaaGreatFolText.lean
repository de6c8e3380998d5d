import Derived.Test.YtkciklpdhhcblaaGreatDbTx
namespace Go.Proofs.YtkciklpdhhcblaaGreat
open Go Go.Proofs Go.Sm
attribute [local simp] ti eStr eInt eByte eVal cVal vVal eCol cCol vCol eColS vColS eStrS vStrS eTable cTable vTable eTableS vTableS eCat cCat vCat eValS vValS eRow cRow vRow eRowS vRowS eRows cRows vRows eRowsS vRowsS eDb cDb vDb eDdl cDdl vDdl eFol cFol vFol eStmt cStmt vStmt eRec cRec vRec eSnap cSnap vSnap eRecS vRecS eTail cTail vTail
set_option linter.unusedVariables false
set_option linter.unusedSimpArgs false


theorem toList_ofT (l : List UInt8) : (ofT l).toList = l := by
  rw [Lib.toList_data]
  rfl
def folT (f : GFol) : List UInt8 := if folOk f = false ∨ numT f.fHalt = [] then [] else [97, 116, 32] ++ (numT f.fAt ++ ([32, 104, 97, 108, 116, 32] ++ (numT f.fHalt ++ (10 :: dbT f.fDb))))
theorem dbT_len {d : GDb} (hs : ∀ t ∈ d.fCat.fTables, bdT t) : (dbT d).length ≤ 408000000000000 := by
  unfold dbT
  split
  · rename_i h
    have h1 := blksT_len h hs _ (Nat.le_refl _)
    have h2 := (db_len h).1
    omega
  · simp
theorem bdT_fol {f : GFol} (hs : ∀ n ∈ wFol f, n ≤ 1048576) : ∀ t ∈ f.fDb.fCat.fTables, bdT t := fun t ht n hn => hs n (by
  simp only [wFol, wDb, wCat, wTableS, List.mem_append, List.mem_cons, List.mem_flatMap]
  exact .inl (.inl (.inl (.inr ⟨t, ht, hn⟩))))
set_option maxHeartbeats 8000000 in
set_option maxRecDepth 4000 in
theorem S_FolText_ok (f : GFol) (o0 : okFol f) (hs : ∀ n ∈ wFol f, n ≤ 1048576) (_ : (wFol f).sum ≤ 1048576) : VC Tryz.prog 9 [vFol f] [(false, [(.s, .sc (.string (ofT (folT f))))])] := by
  have hb := bdT_fol hs
  have hl := dbT_len hb
  have hn1 := numT_len f.fHalt
  have hn2 := numT_len f.fAt
  refine vc_of_ew good hm [0,1,2,3,13] Tryz.func9 rfl (by kernel_rfl) (by kernel_rfl) rfl ?_
  simp [Tryz.f9, szMk]
  refine .of (numTextS_ok _) ?_
  simp [szMk, toList_ofT]
  refine .of (folOkS_ok f o0 (folB hs)) ?_
  simp [szMk, toList_ofT]
  refine ⟨fun h => by simp [folT, h, ofT], fun a1 a2 => .of (numTextS_ok _) ?_⟩
  simp [szMk]
  refine ⟨by omega, by omega, by omega, by omega, .of (dbTextS_ok f.fDb o0.1 hb (folB hs)) ?_⟩
  simp [szMk]
  exact ⟨by omega, tx_ext (by simp [folT, a1, a2])⟩
set_option maxHeartbeats 8000000 in
set_option maxRecDepth 4000 in
theorem I_FolText_ok (f : GFol) (o0 : okFol f) (hs : ∀ n ∈ wFol f, n ≤ 1048576) (_ : (wFol f).sum ≤ 1048576) : VC Tryz.prog 11 [vFol f] [(false, [(.s, .sc (.string (ofT (folT f))))])] := by
  have hb := bdT_fol hs
  have hl := dbT_len hb
  have hn1 := numT_len f.fHalt
  have hn2 := numT_len f.fAt
  refine vc_of_ew good hm [0,1,2,3,13] Tryz.func11 rfl (by kernel_rfl) (by kernel_rfl) rfl ?_
  simp [Tryz.f11, szMk]
  refine .of (numTextI_ok _) ?_
  simp [szMk, toList_ofT]
  refine .of (folOkI_ok f o0 (folB hs)) ?_
  simp [szMk, toList_ofT]
  refine ⟨fun h => by simp [folT, h, ofT], fun a1 a2 => .of (numTextI_ok _) ?_⟩
  simp [szMk]
  have ew4 : wsT [⟨#[97, 116]⟩, ofT (numT f.fAt), ⟨#[104, 97, 108, 116]⟩, ofT (numT f.fHalt)] = [97, 116, 32] ++ (numT f.fAt ++ ([32, 104, 97, 108, 116, 32] ++ numT f.fHalt)) := by simp [wsT, joinT]
  refine .of (gluedI_ok [⟨#[97, 116]⟩, ofT (numT f.fAt), ⟨#[104, 97, 108, 116]⟩, ofT (numT f.fHalt)] (by simp) (by rw [ew4]; simp; omega)) ?_
  simp [szMk, ew4]
  refine ⟨by omega, .of (dbTextI_ok f.fDb o0.1 hb (folB hs)) ?_⟩
  simp [szMk]
  exact ⟨by omega, tx_ext (by simp [folT, a1, a2])⟩

end Go.Proofs.YtkciklpdhhcblaaGreat
