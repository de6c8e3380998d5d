import Derived.Test.YtkciklpdhhcblaaGreatStmt
namespace Go.Proofs.YtkciklpdhhcblaaGreat
open Go Go.Proofs Go.Sm
attribute [local simp] ti eStr eInt eByte eVal cVal vVal eCol cCol vCol eColS vColS eStrS vStrS eTable cTable vTable eTableS vTableS eCat cCat vCat eValS vValS eRow cRow vRow eRowS vRowS eRows cRows vRows eRowsS vRowsS eDb cDb vDb eDdl cDdl vDdl eFol cFol vFol eStmt cStmt vStmt eRec cRec vRec eSnap cSnap vSnap eRecS vRecS eTail cTail vTail
set_option linter.unusedVariables false
set_option linter.unusedSimpArgs false


theorem ba_eq {a b : ByteArray} (h : a.toList = b.toList) : a = b := by
  have := beq_toListBytes a b
  rw [h] at this
  simp only [BEq.rfl] at this
  obtain ⟨x⟩ := a
  obtain ⟨y⟩ := b
  have h2 : (x == y) = true := this
  rw [eq_of_beq h2]
def valsOk (l : List GVal) : Bool := within l.length 1 8 && !l.any (fun v => !valOk v)
theorem areVals1_ok (v : GVal) : VC Tryz.prog 224 [vVal v] [(false, [(.s, .sc (.bool (!valOk v)))])] := by
  refine vc_of_ew good hm [0,1,2] Tryz.func224 rfl (by kernel_rfl) (by kernel_rfl) rfl ?_
  simp [Tryz.f224]
  refine .of (valOkI_ok v) ?_
  simp
theorem areVals_ok (l : List GVal) (hl : okM l.length) : VC Tryz.prog 181 [vValS l] [(false, [(.s, .sc (.bool (valsOk l)))])] := by
  refine vc_of_ew good hm [0,2] Tryz.func181 rfl (by kernel_rfl) (by kernel_rfl) rfl ?_
  simp [Tryz.f181]
  refine .of (within_ok _ _ _) ?_
  simp
  refine .of (fun h => ⟨h, hasVal0_ok l _ (fun v => !valOk v) hl (fun x _ => areVals1_ok x)⟩) ?_
  simp [valsOk]
set_option maxHeartbeats 4000000 in
theorem l04Vals_ok (l : List GVal) (hl : okM l.length) : VC Tryz.prog 171 [vValS l] [(false, [(.s, .sc (.bool (valsOk l)))])] := by
  unfold okM at hl
  refine vc_of_ew good hm [0,2,5,6,7,8,4,13] Tryz.func171 rfl (by kernel_rfl) (by kernel_rfl) rfl ?_
  simp [Tryz.f171]
  refine ew_loop (fun E => ∃ i : Nat, i ≤ l.length ∧ anyT (fun v => !valOk v) l i = false ∧ E = { nt := 23, sl := [(0, vValS l), (5, vValS l), (6, int .i64 l.length), (7, int .i64 i)], bx := [], rt := [] }) (fun E => l.length - (E.num 7).toNat) _ (Gh.kb _ [0,5,6,7] [] []) ⟨0, by omega, anyT_zero _ _, by simp⟩ ?_
  rintro E1 ⟨i, hi, hall, rfl⟩
  simp
  refine ⟨fun h => ⟨h, .of (valOkS_ok _) ?_⟩, fun h => ?_⟩
  · simp
    refine ⟨fun hp => ?_, fun hp => .of _ (Gh.kb _ [0,5,6,7] [] []) ⟨i + 1, by omega, by rw [anyT_succ _ dVal h, hall, hp]; rfl, ?_⟩ ?_⟩
    · have : l.any (fun v => !valOk v) = true := List.any_eq_true.2 ⟨_, getD_mem dVal h, by rw [hp]; rfl⟩
      simp only [valsOk, this, Bool.not_true, Bool.and_false]
    · simp [wrapS (show i < 9223372036854775807 by omega)]
    · simp [wrapS (show i < 9223372036854775807 by omega)]; omega
  · have : i = l.length := by omega
    subst this
    rw [anyT_all] at hall
    simp only [valsOk, hall, within]
    grind
def stmtOk (s : GStmt) : Bool := wordOk s.fTable && ((decide (s.fKind = 1) && (s.fKey.isEmpty && valsOk s.fRow.fVals && noDdl s.fDdl)) || (decide (s.fKind = 2) && (valsOk s.fKey && valsOk s.fRow.fVals && noDdl s.fDdl)) || (decide (s.fKind = 3) && (valsOk s.fKey && s.fRow.fVals.isEmpty && noDdl s.fDdl)) || (decide (s.fKind = 4) && (s.fKey.isEmpty && s.fRow.fVals.isEmpty && noDdl s.fDdl)) || (decide (s.fKind = 5) && (s.fKey.isEmpty && s.fRow.fVals.isEmpty && ddlOk s.fDdl && s.fDdl.fTable.toList == s.fTable.toList)))
theorem ddlOk_word {d : GDdl} (h : ddlOk d = true) : wordOk d.fTable = true := by
  unfold ddlOk at h
  cases hw : wordOk d.fTable with
  | true => rfl
  | false => rw [hw] at h; simp at h
set_option maxHeartbeats 8000000 in
set_option maxRecDepth 4000 in
theorem stmtOkS_ok (s : GStmt) (hs : okStmt s) : VC Tryz.prog 112 [vStmt s] [(false, [(.s, .sc (.bool (stmtOk s)))])] := by
  obtain ⟨_, hn, hk, hr, hd, _⟩ := hs
  refine vc_of_ew good hm [0,1,2,3,4,17,19,20,34,50,63,74] Tryz.func112 rfl (by kernel_rfl) (by kernel_rfl) rfl ?_
  simp [Tryz.f112]
  refine .of (wordOkS_ok _ hn) ?_
  simp [beqI]
  refine ⟨fun h => by grind [stmtOk], fun hw => ⟨fun k1 => .of (fun h => ⟨h, l04Vals_ok _ hr.1.1⟩) ?_, fun k1 => ⟨fun k2 => .of (l04Vals_ok _ hk.1) ?_, fun k2 => ⟨fun k3 => .of (l04Vals_ok _ hk.1) ?_, fun k3 => ⟨fun k4 => ?_, fun k4 => ⟨fun k5 => ?_, fun k5 => by grind [stmtOk]⟩⟩⟩⟩⟩⟩
  · simp
    refine .of (fun h => ⟨h, l04NoDdl_ok _⟩) ?_
    simp
    grind [stmtOk]
  · simp
    refine .of (fun h => ⟨h, l04Vals_ok _ hr.1.1⟩) ?_
    simp
    refine .of (fun h => ⟨h, l04NoDdl_ok _⟩) ?_
    simp
    grind [stmtOk]
  · simp
    refine .of (fun h => ⟨h, l04NoDdl_ok _⟩) ?_
    simp
    grind [stmtOk]
  · refine .of (fun h => ⟨h, l04NoDdl_ok _⟩) ?_
    simp
    grind [stmtOk]
  · refine .of (fun h => ⟨h, ddlOkS_ok _ hd⟩) ?_
    simp
    grind [stmtOk]
set_option maxHeartbeats 8000000 in
set_option maxRecDepth 4000 in
theorem stmtOkI_ok (s : GStmt) (hs : okStmt s) (h1 : s.fDdl.fCols.length ≤ 1048576) (h2 : s.fDdl.fKeys.length ≤ 1048576) : VC Tryz.prog 117 [vStmt s] [(false, [(.s, .sc (.bool (stmtOk s)))])] := by
  obtain ⟨_, hn, hk, hr, hd, _⟩ := hs
  refine vc_of_ew good hm [0,1,2,5,40,42,43,55,66,78] Tryz.func117 rfl (by kernel_rfl) (by kernel_rfl) rfl ?_
  simp [Tryz.f117, beqI]
  refine ⟨fun k5 => .of (ddlOkI_ok _ hd h1 h2) ?_, fun k5 => .of (wordOkI_ok _ hn) ?_⟩
  · simp
    have hw : s.fTable.toList = s.fDdl.fTable.toList → ddlOk s.fDdl = true → wordOk s.fTable = true := fun e h => by
      rw [ba_eq e]
      exact ddlOk_word h
    have he : (s.fRow.fVals.length : Int) = 0 ↔ s.fRow.fVals = [] := by simp
    grind [stmtOk]
  · simp [beqI]
    refine .of (fun h => ⟨h, equalDdl_ok s.fDdl dDdl hd⟩) ?_
    rw [eqDdl_nil]
    simp [beqI]
    refine ⟨fun h => by grind [stmtOk], fun hw hnd => ⟨fun k1 => .of (fun h => ⟨h, areVals_ok _ hr.1.1⟩) ?_, fun k1 => ⟨fun k2 => .of (areVals_ok _ hk.1) ?_, fun k2 => ⟨fun k3 => .of (areVals_ok _ hk.1) ?_, fun k3 => ⟨fun k4 => ?_, fun k4 => by grind [stmtOk]⟩⟩⟩⟩⟩
    · simp
      grind [stmtOk]
    · simp
      refine .of (fun h => ⟨h, areVals_ok _ hr.1.1⟩) ?_
      simp
      grind [stmtOk]
    · simp
      have he : (s.fRow.fVals.length : Int) = 0 ↔ s.fRow.fVals = [] := by simp
      grind [stmtOk]
    · have he : (s.fRow.fVals.length : Int) = 0 ↔ s.fRow.fVals = [] := by simp
      grind [stmtOk]
def noStmt (s : GStmt) : Bool := decide (s.fKind = 0) && (em s.fTable && (s.fKey.isEmpty && (s.fRow.fVals.isEmpty && noDdl s.fDdl)))
set_option maxHeartbeats 8000000 in
set_option maxRecDepth 4000 in
theorem l07NoStmt_ok (s : GStmt) : VC Tryz.prog 143 [vStmt s] [(false, [(.s, .sc (.bool (noStmt s)))])] := by
  refine vc_of_ew good hm [0,1,2] Tryz.func143 rfl (by kernel_rfl) (by kernel_rfl) rfl ?_
  simp [Tryz.f143, beqI]
  refine .of (fun h => ⟨h, l04NoDdl_ok _⟩) ?_
  simp [beqI]
  grind [noStmt, em]
set_option maxHeartbeats 8000000 in
set_option maxRecDepth 4000 in
theorem isNoStmt_ok (s : GStmt) (hs : okStmt s) : VC Tryz.prog 150 [vStmt s] [(false, [(.s, .sc (.bool (noStmt s)))])] := by
  refine vc_of_ew good hm [0,1,2] Tryz.func150 rfl (by kernel_rfl) (by kernel_rfl) rfl ?_
  simp [Tryz.f150, beqI]
  refine .of (fun h => ⟨h, equalDdl_ok s.fDdl dDdl hs.2.2.2.2.1⟩) ?_
  rw [eqDdl_nil]
  simp [beqI]
  grind [noStmt, em]
def recOk (r : GRec) : Bool := within r.fKind 1 4 && (within r.fXid 1 1000000 && (if r.fKind = 2 then stmtOk r.fStmt else noStmt r.fStmt))
theorem recB {r : GRec} (hs : ∀ n ∈ wRec r, n ≤ 1048576) : r.fStmt.fDdl.fCols.length ≤ 1048576 ∧ r.fStmt.fDdl.fKeys.length ≤ 1048576 :=
  ⟨hs _ (by simp [wRec, wStmt, wDdl, wColS]), hs _ (by simp [wRec, wStmt, wDdl, wStrS])⟩
set_option maxHeartbeats 8000000 in
theorem recOkS_ok (r : GRec) (hr : okRec r) : VC Tryz.prog 90 [vRec r] [(false, [(.s, .sc (.bool (recOk r)))])] := by
  refine vc_of_ew good hm [0,1,2,20,23] Tryz.func90 rfl (by kernel_rfl) (by kernel_rfl) rfl ?_
  simp [Tryz.f90, beqI]
  refine ⟨by grind [recOk, within], fun a1 a2 a3 a4 => ⟨fun k => .of (stmtOkS_ok _ hr.2.2.1) ?_, fun k => .of (l07NoStmt_ok _) ?_⟩⟩
  · simp
    grind [recOk, within]
  · simp
    grind [recOk, within]
set_option maxHeartbeats 8000000 in
theorem recOkI_ok (r : GRec) (hr : okRec r) (h1 : r.fStmt.fDdl.fCols.length ≤ 1048576) (h2 : r.fStmt.fDdl.fKeys.length ≤ 1048576) : VC Tryz.prog 97 [vRec r] [(false, [(.s, .sc (.bool (recOk r)))])] := by
  refine vc_of_ew good hm [0,1,2,12,15] Tryz.func97 rfl (by kernel_rfl) (by kernel_rfl) rfl ?_
  simp [Tryz.f97, beqI]
  refine .of (within_ok _ _ _) ?_
  simp
  refine .of (fun h => ⟨h, within_ok _ _ _⟩) ?_
  simp [beqI]
  refine ⟨by grind [recOk], fun a1 a2 => ⟨fun k => .of (stmtOkI_ok _ hr.2.2.1 h1 h2) ?_, fun k => .of (isNoStmt_ok _ hr.2.2.1) ?_⟩⟩
  · simp
    grind [recOk]
  · simp
    grind [recOk]
theorem S_RecOk_ok (r : GRec) (o0 : okRec r) (hs : ∀ n ∈ wRec r, n ≤ 1048576) (_ : (wRec r).sum ≤ 1048576) : VC Tryz.prog 90 [vRec r] [(false, [(.s, .sc (.bool (recOk r)))])] := recOkS_ok r o0
theorem I_RecOk_ok (r : GRec) (o0 : okRec r) (hs : ∀ n ∈ wRec r, n ≤ 1048576) (_ : (wRec r).sum ≤ 1048576) : VC Tryz.prog 97 [vRec r] [(false, [(.s, .sc (.bool (recOk r)))])] := recOkI_ok r o0 (recB hs).1 (recB hs).2

end Go.Proofs.YtkciklpdhhcblaaGreat
