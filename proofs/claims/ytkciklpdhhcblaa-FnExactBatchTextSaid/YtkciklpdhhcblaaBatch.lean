import Derived.Test.YtkciklpdhhcblaaRec
namespace Go.Proofs.Ytkciklpdhhcblaa
open Go Go.Proofs Go.Sm
attribute [local simp] ti eStr eInt eByte eVal cVal vVal eValS vValS eRow cRow vRow eCol cCol vCol eColS vColS eStrS vStrS eDdl cDdl vDdl eStmt cStmt vStmt ePart cPart vPart ePartS vPartS eBatch cBatch vBatch eTable cTable vTable eTableS vTableS eCat cCat vCat eRowS vRowS eRows cRows vRows eRowsS vRowsS eDb cDb vDb eFol cFol vFol eRec cRec vRec
set_option linter.unusedVariables false
set_option linter.unusedSimpArgs false


def wordsOk (l : List ByteArray) : Bool := decide ((l.length : Int) ≤ 8) && !l.any (fun s => !wordOk s)
theorem areWords1_ok (s : ByteArray) (hs : okM s.size) : VC Try.prog 112 [str s] [(false, [(.s, .sc (.bool (!wordOk s)))])] := by
  refine vc_of_ew good hm [0,2] Try.func112 rfl (by kernel_rfl) (by kernel_rfl) rfl ?_
  simp [Try.f112]
  refine .of (wordOkI_ok s hs) ?_
  simp
theorem areWords_ok (l : List ByteArray) (hl : okStrS l) : VC Try.prog 65 [vStrS l] [(false, [(.s, .sc (.bool (wordsOk l)))])] := by
  refine vc_of_ew good hm [0,2] Try.func65 rfl (by kernel_rfl) (by kernel_rfl) rfl ?_
  simp [Try.f65]
  refine .of (fun h => ⟨h, hasStr0_ok l _ (fun s => !wordOk s) hl.1 (fun x hx => areWords1_ok x (hl.2 x hx))⟩) ?_
  simp [wordsOk]
set_option maxHeartbeats 4000000 in
theorem l09Words_ok (l : List ByteArray) (hl : okStrS l) : VC Try.prog 63 [vStrS l] [(false, [(.s, .sc (.bool (wordsOk l)))])] := by
  have hll : l.length ≤ 9223372036854775807 := hl.1
  refine vc_of_ew good hm [0,2,5,6,7,8,4,13] Try.func63 rfl (by kernel_rfl) (by kernel_rfl) rfl ?_
  simp [Try.f63]
  refine ew_loop (fun E => ∃ i : Nat, i ≤ l.length ∧ anyT (fun s => !wordOk s) l i = false ∧ E = { nt := 18, sl := [(0, vStrS l), (5, vStrS l), (6, int .i64 l.length), (7, int .i64 i)], bx := [], rt := [] }) (fun E => l.length - (E.num 7).toNat) _ (Gh.kb _ [0,5,6,7] [] []) ⟨0, by omega, anyT_zero _ _, by simp⟩ ?_
  rintro E1 ⟨i, hi, hall, rfl⟩
  simp
  refine ⟨fun h => ⟨h, .of (wordOkS_ok _ (hl.2 _ (getD_mem ⟨#[]⟩ h))) ?_⟩, fun h => ?_⟩
  · simp
    refine ⟨fun hp => ?_, fun hp => .of _ (Gh.kb _ [0,5,6,7] [] []) ⟨i + 1, by omega, by rw [anyT_succ _ ⟨#[]⟩ h, hall, hp]; rfl, ?_⟩ ?_⟩
    · have : l.any (fun s => !wordOk s) = true := List.any_eq_true.2 ⟨_, getD_mem ⟨#[]⟩ h, by rw [hp]; rfl⟩
      simp only [wordsOk, this, Bool.not_true, Bool.and_false]
    · simp [wrapS (show i < 9223372036854775807 by omega)]
    · simp [wrapS (show i < 9223372036854775807 by omega)]; omega
  · have : i = l.length := by omega
    subst this
    rw [anyT_all] at hall
    simp only [wordsOk, hall, Bool.not_false, Bool.and_true]
def partBad (p : GPart) : Bool := !(stmtOk p.fStmt && (wordsOk p.fCols && wordsOk p.fKeys))
def batchOk (b : GBatch) : Bool := within b.fLsn 1 400 && (within b.fPrev 0 (b.fLsn - 1) && (decide ((b.fParts.length : Int) ≤ 60) && !b.fParts.any partBad))
set_option maxHeartbeats 8000000 in
set_option maxRecDepth 4000 in
theorem batchOkS_ok (b : GBatch) (hb : okBatch b) : VC Try.prog 24 [vBatch b] [(false, [(.s, .sc (.bool (batchOk b)))])] := by
  have hl : b.fParts.length ≤ 9223372036854775807 := hb.2.2.1.1
  refine vc_of_ew good hm [0,1,2,30,32,33,34,35,4,53] Try.func24 rfl (by kernel_rfl) (by kernel_rfl) rfl ?_
  simp [Try.f24, beqI]
  refine ⟨fun h => by grind [batchOk, within], fun a1 a2 a3 a4 a5 => ?_⟩
  refine ew_loop (fun E => ∃ i : Nat, i ≤ b.fParts.length ∧ anyT partBad b.fParts i = false ∧ E = { nt := 55, sl := [(32, vPartS b.fParts), (33, int .i64 b.fParts.length), (34, int .i64 i)], bx := [], rt := [] }) (fun E => b.fParts.length - (E.num 34).toNat) _ (Gh.kb _ [32,33,34] [] []) ⟨0, by omega, anyT_zero _ _, by simp⟩ ?_
  rintro E1 ⟨i, hi, hall, rfl⟩
  simp
  refine ⟨fun h => ⟨h, ?_⟩, fun h => ?_⟩
  · have hp := hb.2.2.1.2 _ (getD_mem dPart h)
    refine .of (stmtOkS_ok _ hp.1) ?_
    simp
    refine .of (fun h => ⟨h, l09Words_ok _ hp.2.1⟩) ?_
    simp
    refine .of (fun h => ⟨h, l09Words_ok _ hp.2.2.1⟩) ?_
    simp
    have hat : partBad (b.fParts[i]?.getD dPart) = !(stmtOk (b.fParts[i]?.getD dPart).fStmt && (wordsOk (b.fParts[i]?.getD dPart).fCols && wordsOk (b.fParts[i]?.getD dPart).fKeys)) := rfl
    refine ⟨fun hbad => ?_, fun h1 h2 h3 => .of _ (Gh.kb _ [32,33,34] [] []) ⟨i + 1, by omega, by rw [anyT_succ _ dPart h, hall, hat, h1, h2, h3]; rfl, ?_⟩ ?_⟩
    · have : b.fParts.any partBad = true := List.any_eq_true.2 ⟨_, getD_mem dPart h, by rw [hat]; grind⟩
      simp only [batchOk, this, Bool.not_true, Bool.and_false]
    · simp [wrapS (show i < 9223372036854775807 by omega)]
    · simp [wrapS (show i < 9223372036854775807 by omega)]; omega
  · have : i = b.fParts.length := by omega
    subst this
    rw [anyT_all] at hall
    grind [batchOk, within]
set_option maxHeartbeats 8000000 in
set_option maxRecDepth 4000 in
theorem batchOkI_ok (b : GBatch) (hb : okBatch b) (hs : ∀ n ∈ wBatch b, n ≤ 1048576) : VC Try.prog 26 [vBatch b] [(false, [(.s, .sc (.bool (batchOk b)))])] := by
  have hl : b.fParts.length ≤ 9223372036854775807 := hb.2.2.1.1
  have hlsn : okI b.fLsn := hb.1
  have hw : 1 ≤ b.fLsn → IntKind.i64.wrap (b.fLsn - 1) = b.fLsn - 1 := fun h => wrapI (by omega) (by unfold okI at hlsn; omega)
  refine vc_of_ew good hm [0,1,2,6,7,8,9,4,27] Try.func26 rfl (by kernel_rfl) (by kernel_rfl) rfl ?_
  simp [Try.f26, beqI]
  refine ew_loop (fun E => ∃ i : Nat, i ≤ b.fParts.length ∧ anyT partBad b.fParts i = false ∧ E = { nt := 46, sl := [(1, .p (.bx 1 0)), (6, vPartS b.fParts), (7, int .i64 b.fParts.length), (8, int .i64 i)], bx := [(1, cBatch b)], rt := [] }) (fun E => b.fParts.length - (E.num 8).toNat) _ (Gh.kb _ [1,6,7,8] [1] []) ⟨0, by omega, anyT_zero _ _, by simp⟩ ?_
  rintro E1 ⟨i, hi, hall, rfl⟩
  simp
  refine ⟨fun h => ⟨h, ?_⟩, fun h => ?_⟩
  · have hm := getD_mem dPart h
    have hp := hb.2.2.1.2 _ hm
    have hsp : ∀ n ∈ wPart (b.fParts[i]?.getD dPart), n ≤ 1048576 := fun n hn => hs n (by
      simp only [wBatch, wPartS, List.append_nil]
      exact List.mem_cons_of_mem _ (List.mem_flatMap.2 ⟨_, hm, hn⟩))
    refine .of (stmtOkI_ok _ hp.1 (hsp _ (by simp [wPart, wStmt, wDdl, wColS])) (hsp _ (by simp [wPart, wStmt, wDdl, wStrS]))) ?_
    simp
    refine .of (fun h => ⟨h, areWords_ok _ hp.2.1⟩) ?_
    simp
    refine .of (fun h => ⟨h, areWords_ok _ hp.2.2.1⟩) ?_
    simp
    have hat : partBad (b.fParts[i]?.getD dPart) = !(stmtOk (b.fParts[i]?.getD dPart).fStmt && (wordsOk (b.fParts[i]?.getD dPart).fCols && wordsOk (b.fParts[i]?.getD dPart).fKeys)) := rfl
    refine ⟨fun hbad => ?_, fun h1 h2 h3 => .of _ (Gh.kb _ [1,6,7,8] [1] []) ⟨i + 1, by omega, by rw [anyT_succ _ dPart h, hall, hat, h1, h2, h3]; rfl, ?_⟩ ?_⟩
    · have : b.fParts.any partBad = true := List.any_eq_true.2 ⟨_, getD_mem dPart h, by rw [hat]; grind⟩
      simp only [batchOk, this, Bool.not_true, Bool.and_false]
    · simp [wrapS (show i < 9223372036854775807 by omega)]
    · simp [wrapS (show i < 9223372036854775807 by omega)]; omega
  · have : i = b.fParts.length := by omega
    subst this
    rw [anyT_all] at hall
    refine .of (within_ok _ _ _) ?_
    simp
    refine .of (fun h => ⟨h, within_ok _ _ _⟩) ?_
    simp
    grind [batchOk, within]
theorem S_BatchOk_ok (b : GBatch) (o0 : okBatch b) (hs : ∀ n ∈ wBatch b, n ≤ 1048576) (_ : (wBatch b).sum ≤ 1048576) : VC Try.prog 24 [vBatch b] [(false, [(.s, .sc (.bool (batchOk b)))])] := batchOkS_ok b o0
theorem I_BatchOk_ok (b : GBatch) (o0 : okBatch b) (hs : ∀ n ∈ wBatch b, n ≤ 1048576) (_ : (wBatch b).sum ≤ 1048576) : VC Try.prog 26 [vBatch b] [(false, [(.s, .sc (.bool (batchOk b)))])] := batchOkI_ok b o0 hs

end Go.Proofs.Ytkciklpdhhcblaa
