import Derived.Test.YtanlbohhmoifcaaGreatG8
set_option maxHeartbeats 8000000
set_option maxRecDepth 8000
namespace Go.Proofs.YtanlbohhmoifcaaGreat
open Go Go.Proofs Go.Sm
attribute [local simp] ti eStr eInt eByte eVal vVal eCol vCol vColS vStrS eTable cTable vTable vTableS cCat vCat eValS vValS eRow cRow vRow vRowS eRows vRows vRowsS cDb vDb eDdl cDdl vDdl eStmt cStmt vStmt eRec vRec vSnap eRecS vRecS eTail vTail vIntS vStmtS
set_option linter.unusedVariables false
set_option linter.unusedSimpArgs false
theorem S_Commits_ok (l : List GRec) (o0 : okRecS l) (hs : ∀ n ∈ wRecS l, n ≤ 1048576) (_ : (wRecS l).sum ≤ 1048576) : VC Tryz.prog 20 [vRecS l] [(false, mInts (commits l))] := commitsS_ok l (hs _ (by simp [wRecS])) o0.2 (recsB hs)
theorem I_Commits_ok (l : List GRec) (o0 : okRecS l) (hs : ∀ n ∈ wRecS l, n ≤ 1048576) (_ : (wRecS l).sum ≤ 1048576) : VC Tryz.prog 21 [vRecS l] [(false, mInts (commits l))] := commitsI_ok l (hs _ (by simp [wRecS])) o0.2 (recsB hs)
theorem S_Restart_ok (l : List GRec) (o0 : okRecS l) (hs : ∀ n ∈ wRecS l, n ≤ 1048576) (_ : (wRecS l).sum ≤ 1048576) : VC Tryz.prog 31 [vRecS l] [(false, mRecS (restart l).1), (false, [(.s, .sc (.int .i64 (restart l).2))])] := restartS_ok l (hs _ (by simp [wRecS])) o0.2 (recsB hs)
theorem I_Restart_ok (l : List GRec) (o0 : okRecS l) (hs : ∀ n ∈ wRecS l, n ≤ 1048576) (_ : (wRecS l).sum ≤ 1048576) : VC Tryz.prog 32 [vRecS l] [(false, mRecS (restart l).1), (false, [(.s, .sc (.int .i64 (restart l).2))])] := restartI_ok l (hs _ (by simp [wRecS])) o0.2 (recsB hs)
theorem S_DbAt_ok (l : List GRec) (n : Int) (o0 : okRecS l) (hs : ∀ n ∈ wRecS l, n ≤ 1048576) (_ : (wRecS l).sum ≤ 1048576) (o1 : okI n) : VC Tryz.prog 46 [vRecS l, int .i64 n] [(true, fDb (dbAtM l n).1), (false, [(.s, .sc (.bool (dbAtM l n).2))])] := dbAtFS_ok l n (hs _ (by simp [wRecS])) o0.2 (recsB hs)
theorem I_DbAt_ok (l : List GRec) (n : Int) (o0 : okRecS l) (hs : ∀ n ∈ wRecS l, n ≤ 1048576) (_ : (wRecS l).sum ≤ 1048576) (o1 : okI n) : VC Tryz.prog 47 [vRecS l, int .i64 n] [(true, mDb (dbAtM l n).1), (false, [(.s, .sc (.bool (dbAtM l n).2))])] := dbAtFI_ok l n (hs _ (by simp [wRecS])) o0.2 (recsB hs)
def snapOf (l : List GRec) (n : Int) : GSnap × Bool := if (n = 0 ∧ logOk l = true) ∨ hasI (commits l) n = true then (⟨n, logDb (l.take n.toNat)⟩, true) else (dSnap, false)
def fSnap (s : GSnap) : ML := [(.s, .sc (.int .i64 s.fLsn)), (.s, .ls [Lf.sc (Value.string ⟨#[]⟩), Lf.ls [Lf.sc (Value.string ⟨#[]⟩), Lf.sc (Value.int IntKind.i64 0), Lf.sc (Value.bool false), Lf.sc (Value.bool false), Lf.sc (Value.int IntKind.i64 0), Lf.sc (Value.int IntKind.i64 0), Lf.sc (Value.string ⟨#[]⟩)] [], Lf.ls [Lf.sc (Value.string ⟨#[]⟩)] []] (s.fDb.fCat.fTables.map eTable)), (.s, .ls [Lf.ls [Lf.ls [Lf.sc (Value.int IntKind.i64 0), Lf.sc (Value.int IntKind.i64 0), Lf.sc (Value.string ⟨#[]⟩)] []] []] (s.fDb.fData.map eRows))]
theorem hasI_mem {l : List Int} {x : Int} : hasI l x = true ↔ x ∈ l := by
 simp [hasI]
theorem S_SnapOf_ok (l : List GRec) (n : Int) (o0 : okRecS l) (hs : ∀ n ∈ wRecS l, n ≤ 1048576) (_ : (wRecS l).sum ≤ 1048576) (o1 : okI n) : VC Tryz.prog 51 [vRecS l, int .i64 n] [(true, fSnap (snapOf l n).1), (false, [(.s, .sc (.bool (snapOf l n).2))])] := by
 have hl : l.length ≤ 1048576 := hs _ (by simp [wRecS])
 have hb := recsB hs
 have hcl := commits_len l
 have hE : snapOf l n = if (n = 0 ∧ logOk l = true) ∨ hasI (commits l) n = true then (⟨n, logDb (l.take n.toNat)⟩, true) else (dSnap, false) := rfl
 have hd := dbAtFS_ok l n hl o0.2 hb
 have hdE : dbAtM l n = if logOk l = true ∧ 0 ≤ n ∧ n ≤ l.length then (logDb (l.take n.toNat), true) else (dDb, false) := rfl
 refine vc_of_ewF good hm [0,1,4,5,16,6,7,25] Tryz.func51 rfl (by kernel_rfl) (by kernel_rfl) rfl ?_
 simp [Tryz.f51, fSnap]
 refine .of (fun g => ⟨g, commitsS_ok l hl o0.2 hb⟩) ?_
 simp [mInts, FullRs, FullML]
 refine .of (fun g => ⟨g, l07Has_ok (commits l) n (by unfold okM; omega)⟩) ?_
 simp
 refine ⟨fun h1 h2 => ?_, fun h1 => .of hd ?_⟩
 ·rw [hE, if_neg (by simp [h1, h2])]
  simp [dSnap]
 simp [fDb]
 by_cases hA : (n = 0 ∧ logOk l = true) ∨ hasI (commits l) n = true
 ·have hB : logOk l = true ∧ 0 ≤ n ∧ n ≤ l.length := by
   rcases hA with ⟨rfl, h⟩ | h
   ·exact ⟨h, by omega, by omega⟩
   ·have := commits_mem (hasI_mem.1 h)
    exact ⟨this.1, by omega, by omega⟩
  rw [if_pos hA] at hE
  rw [if_pos hB] at hdE
  simp [hE, hdE]
 ·have hB : ¬ (logOk l = true ∧ 0 ≤ n ∧ n ≤ l.length) := fun h => by
   by_cases h0 : n = 0
   ·exact hA (.inl ⟨h0, h.1⟩)
   ·exact hA (.inr (h1 h0))
  rw [if_neg hA] at hE
  rw [if_neg hB] at hdE
  simp [hE, hdE, dSnap]
def seenTo (b : Bool) (C : List Int) (n : Int) (i : Nat) : Bool := b || anyT (fun y => n == y) C i
theorem I_SnapOf_ok (l : List GRec) (n : Int) (o0 : okRecS l) (hs : ∀ n ∈ wRecS l, n ≤ 1048576) (_ : (wRecS l).sum ≤ 1048576) (o1 : okI n) : VC Tryz.prog 52 [vRecS l, int .i64 n] [(true, mSnap (snapOf l n).1), (false, [(.s, .sc (.bool (snapOf l n).2))])] := by
 have hl : l.length ≤ 1048576 := hs _ (by simp [wRecS])
 have hb := recsB hs
 have hcl := commits_len l
 have hE : snapOf l n = if (n = 0 ∧ logOk l = true) ∨ hasI (commits l) n = true then (⟨n, logDb (l.take n.toNat)⟩, true) else (dSnap, false) := rfl
 have hlg : logOk l = (decide (l.length ≤ 400) && (play dDb l).isSome) := rfl
 have hcm := fun h => commits_mem (l := l) (x := n) (hasI_mem.1 h)
 refine vc_of_ew good hm [0,1,4,5,6,16,17,18,19,8,30] Tryz.func52 rfl (by kernel_rfl) (by kernel_rfl) rfl ?_
 simp [Tryz.f52, mSnap]
 have hlo := logOkI_ok l hl o0.2 hb
 rw [← hlg] at hlo
 refine .of (fun g => ⟨g, hlo⟩) ?_
 simp
 refine .of (commitsI_ok l hl o0.2 hb) ?_
 simp [mInts]
 generalize commits l = C at *
 refine ew_loop (fun E => ∃ i : Nat, i ≤ C.length ∧ E = { nt := 38, sl := [(0, vRecS l), (1, int .i64 n), (4, .p (.bx 4 0)), (6, bool (seenTo (decide (n = 0) && logOk l) C n i)), (16, .v false [.r [16]]), (17, int .i64 C.length), (18, int .i64 i)], bx := [(4, [.s (.sc (.int .i64 0)), .n [Lf.sc (Value.string ⟨#[]⟩), Lf.ls [Lf.sc (Value.string ⟨#[]⟩), Lf.sc (Value.int IntKind.i64 0), Lf.sc (Value.bool false), Lf.sc (Value.bool false), Lf.sc (Value.int IntKind.i64 0), Lf.sc (Value.int IntKind.i64 0), Lf.sc (Value.string ⟨#[]⟩)] [], Lf.ls [Lf.sc (Value.string ⟨#[]⟩)] []], .n [Lf.ls [Lf.ls [Lf.sc (Value.int IntKind.i64 0), Lf.sc (Value.int IntKind.i64 0), Lf.sc (Value.string ⟨#[]⟩)] []] []]])], rt := (mInts C).map fun y => (16, y) }) (fun E => C.length - (E.num 18).toNat) _ (Gh.kb _ [0,1,4,6,16,17,18] [4] [16]) ⟨0, by omega, by simp [mInts, seenTo, anyT_zero]⟩ ?_
 rintro E1 ⟨i, hi, rfl⟩
 have hsu := fun h => anyT_succ (fun y => n == y) (0 : Int) (l := C) (i := i) h
 simp [mInts]
 refine ⟨fun h => ?_, fun h => ?_⟩
 ·replace hsu := hsu h
  simp [md, lf, eInt, h]
  refine .of _ (Gh.kb _ [0,1,4,6,16,17,18] [4] [16]) ⟨i + 1, by omega, ?_⟩ ?_
  ·have e : (C[i] == n) = (n == C[i]) := by
    rw [Bool.eq_iff_iff, beq_iff_eq, beq_iff_eq]
    exact eq_comm
   unfold seenTo
   rw [hsu, e]
   simp [wrapS (show i < 9223372036854775807 by omega), mInts, h, Bool.or_assoc]
  ·simp [wrapS (show i < 9223372036854775807 by omega)]; omega
 ·have : i = C.length := by omega
  subst this
  have hsE : seenTo (decide (n = 0) && logOk l) C n C.length = decide ((n = 0 ∧ logOk l = true) ∨ hasI C n = true) := by
   unfold seenTo
   rw [anyT_all, show C.any (fun y => n == y) = hasI C n from rfl]
   by_cases h0 : n = 0 <;> cases hasI C n <;> simp [h0]
  rw [hsE]
  simp
  refine ⟨fun a1 a2 => ?_, fun hA => ?_⟩
  ·rw [hE, if_neg (by
    rintro (⟨h0, h1⟩ | h1)
    ·rw [a1 h0] at h1; cases h1
    ·rw [a2] at h1; cases h1)]
   simp [dSnap]
  have hB : logOk l = true ∧ 0 ≤ n ∧ n ≤ l.length := by
   rcases hA with ⟨rfl, h⟩ | h
   ·exact ⟨h, by omega, by omega⟩
   ·have := hcm h
    exact ⟨this.1, by omega, by omega⟩
  have hd := dbAtI_ok l n.toNat (by omega) hl o0.2 hb
  rw [Int.toNat_of_nonneg (by omega)] at hd
  refine .of hd ?_
  simp [fDb]
  refine .of (copyDb_ok (logDb (l.take n.toNat)) (dbOk_bd (logDb_ok _))) ?_
  rw [hE, if_pos hA]
  simp [mDb]
def tailOf (l : List GRec) (n : Int) : GTail × Bool := if logOk l = true ∧ 0 ≤ n ∧ n ≤ l.length ∧ openL (l.take n.toNat) = [] then (⟨n, logDb (l.take n.toNat), l.drop n.toNat⟩, true) else (dTail, false)
def fTail (s : GTail) : ML := [(.s, .sc (.int .i64 s.fBase)), (.s, .ls [Lf.sc (Value.string ⟨#[]⟩), Lf.ls [Lf.sc (Value.string ⟨#[]⟩), Lf.sc (Value.int IntKind.i64 0), Lf.sc (Value.bool false), Lf.sc (Value.bool false), Lf.sc (Value.int IntKind.i64 0), Lf.sc (Value.int IntKind.i64 0), Lf.sc (Value.string ⟨#[]⟩)] [], Lf.ls [Lf.sc (Value.string ⟨#[]⟩)] []] (s.fDb.fCat.fTables.map eTable)), (.s, .ls [Lf.ls [Lf.ls [Lf.sc (Value.int IntKind.i64 0), Lf.sc (Value.int IntKind.i64 0), Lf.sc (Value.string ⟨#[]⟩)] []] []] (s.fDb.fData.map eRows)), (.s, .ls [Lf.sc (Value.int IntKind.i64 0), Lf.sc (Value.int IntKind.i64 0), Lf.sc (Value.int IntKind.i64 0), Lf.sc (Value.string ⟨#[]⟩), Lf.ls [Lf.sc (Value.int IntKind.i64 0), Lf.sc (Value.int IntKind.i64 0), Lf.sc (Value.string ⟨#[]⟩)] [], Lf.ls [Lf.sc (Value.int IntKind.i64 0), Lf.sc (Value.int IntKind.i64 0), Lf.sc (Value.string ⟨#[]⟩)] [], Lf.sc (Value.int IntKind.i64 0), Lf.sc (Value.string ⟨#[]⟩), Lf.ls [Lf.sc (Value.string ⟨#[]⟩), Lf.sc (Value.int IntKind.i64 0), Lf.sc (Value.bool false), Lf.sc (Value.bool false), Lf.sc (Value.int IntKind.i64 0), Lf.sc (Value.int IntKind.i64 0), Lf.sc (Value.string ⟨#[]⟩)] [], Lf.ls [Lf.sc (Value.string ⟨#[]⟩)] [], Lf.sc (Value.string ⟨#[]⟩), Lf.sc (Value.string ⟨#[]⟩)] (s.fRecs.map eRec))]
theorem drop_mem {l : List GRec} {P : GRec → Prop} (h : ∀ r ∈ l, P r) (n : Nat) : ∀ r ∈ l.drop n, P r := fun r hr => h r (List.mem_of_mem_drop hr)
theorem S_TailOf_ok (l : List GRec) (n : Int) (o0 : okRecS l) (hs : ∀ n ∈ wRecS l, n ≤ 1048576) (_ : (wRecS l).sum ≤ 1048576) (o1 : okI n) : VC Tryz.prog 56 [vRecS l, int .i64 n] [(true, fTail (tailOf l n).1), (false, [(.s, .sc (.bool (tailOf l n).2))])] := by
 have hl : l.length ≤ 1048576 := hs _ (by simp [wRecS])
 have hb := recsB hs
 have hE : tailOf l n = if logOk l = true ∧ 0 ≤ n ∧ n ≤ l.length ∧ openL (l.take n.toNat) = [] then (⟨n, logDb (l.take n.toNat), l.drop n.toNat⟩, true) else (dTail, false) := rfl
 have hd := dbAtFS_ok l n hl o0.2 hb
 have hdE : dbAtM l n = if logOk l = true ∧ 0 ≤ n ∧ n ≤ l.length then (logDb (l.take n.toNat), true) else (dDb, false) := rfl
 have hm1 : (l.take n.toNat).map eRec = (l.map eRec).take n.toNat := List.map_take ..
 have hm2 : (l.drop n.toNat).map eRec = ((l.map eRec).take l.length).drop n.toNat := by rw [List.take_of_length_le (by simp), List.map_drop]
 have hop := open_ok (l.take n.toNat) (by simp; omega)
 have hcp := l07Copy_ok (l.drop n.toNat) (by simp; omega) (drop_mem hb _)
 unfold vRecS at hop hcp
 rw [hm1] at hop
 rw [hm2] at hcp
 refine vc_of_ewF good hm [0,1,4,5,6,7,23] Tryz.func56 rfl (by kernel_rfl) (by kernel_rfl) rfl ?_
 simp [Tryz.f56, fTail]
 refine .of hd ?_
 simp [fDb]
 have hq : (dbAtM l n).2 = true ↔ logOk l = true ∧ 0 ≤ n ∧ n ≤ l.length := by
  rw [hdE]
  split <;> simp_all
 refine ⟨fun h => by have := hq.1 h; exact ⟨h, this.2⟩, .of (fun g => ⟨g, hop⟩) ?_⟩
 simp [mInts, FullRs, FullML]
 refine ⟨fun h => ?_, fun h1 h2 => ?_⟩
 ·have : ¬ (logOk l = true ∧ 0 ≤ n ∧ n ≤ l.length ∧ openL (l.take n.toNat) = []) := by
   rintro ⟨g1, g2, g3, g4⟩
   rcases h with h | h
   ·rw [hq.2 ⟨g1, g2, g3⟩] at h; cases h
   ·rw [g4] at h; simp at h
  rw [hE, if_neg this]
  simp [dTail]
 ·have h3 := hq.1 h1
  have h4 : openL (l.take n.toNat) = [] := by simpa using h2
  rw [hE, if_pos ⟨h3.1, h3.2.1, h3.2.2, h4⟩]
  rw [hdE, if_pos h3]
  refine ⟨⟨h3.2.1, h3.2.2⟩, .of hcp ?_⟩
  simp [mRecS]
  have hfu := full_RecS (l.drop n.toNat)
  rw [List.map_drop] at hfu
  exact of_eq_true hfu
theorem I_TailOf_ok (l : List GRec) (n : Int) (o0 : okRecS l) (hs : ∀ n ∈ wRecS l, n ≤ 1048576) (_ : (wRecS l).sum ≤ 1048576) (o1 : okI n) : VC Tryz.prog 57 [vRecS l, int .i64 n] [(true, mTail (tailOf l n).1), (false, [(.s, .sc (.bool (tailOf l n).2))])] := by
 have hl : l.length ≤ 1048576 := hs _ (by simp [wRecS])
 have hb := recsB hs
 have hE : tailOf l n = if logOk l = true ∧ 0 ≤ n ∧ n ≤ l.length ∧ openL (l.take n.toNat) = [] then (⟨n, logDb (l.take n.toNat), l.drop n.toNat⟩, true) else (dTail, false) := rfl
 have hlg : logOk l = (decide (l.length ≤ 400) && (play dDb l).isSome) := rfl
 have hm1 : (l.take n.toNat).map eRec = (l.map eRec).take n.toNat := List.map_take ..
 have hm2 : (l.drop n.toNat).map eRec = ((l.map eRec).take l.length).drop n.toNat := by rw [List.take_of_length_le (by simp), List.map_drop]
 have hop := openI_ok (l.take n.toNat) (by simp; omega)
 have hcp := copyRecs_ok (l.drop n.toNat) (by simp; omega) (drop_mem hb _)
 unfold vRecS at hop hcp
 rw [hm1] at hop
 rw [hm2] at hcp
 have hlo := logOkI_ok l hl o0.2 hb
 rw [← hlg] at hlo
 refine vc_of_ew good hm [0,1,4,5,23] Tryz.func57 rfl (by kernel_rfl) (by kernel_rfl) rfl ?_
 simp [Tryz.f57, mTail]
 refine .of hlo ?_
 simp
 refine .of (fun h => ⟨h, within_ok _ _ _⟩) ?_
 simp
 have hw : within n 0 l.length = true ↔ 0 ≤ n ∧ n ≤ l.length := by simp [within]
 refine ⟨fun h1 h2 => ⟨⟨h1, h2⟩, hw.1 h2⟩, .of (fun g => ⟨g, hop⟩) ?_⟩
 simp [mInts, FullRs, FullML]
 refine ⟨fun h => ?_, fun h1 h2 h3 => ?_⟩
 ·have : ¬ (logOk l = true ∧ 0 ≤ n ∧ n ≤ l.length ∧ openL (l.take n.toNat) = []) := by
   rintro ⟨g1, g2, g3, g4⟩
   rcases h with (h | h) | h
   ·rw [g1] at h; cases h
   ·rw [hw.2 ⟨g2, g3⟩] at h; cases h
   ·rw [g4] at h; simp at h
  rw [hE, if_neg this]
  simp [dTail]
 ·have h4 : openL (l.take n.toNat) = [] := by simpa using h3
  have h5 := hw.1 h2
  rw [hE, if_pos ⟨h1, h5.1, h5.2, h4⟩]
  have hd := dbAtI_ok l n.toNat (by omega) hl o0.2 hb
  rw [Int.toNat_of_nonneg (by omega)] at hd
  refine .of hd ?_
  simp [fDb]
  refine .of (copyDb_ok (logDb (l.take n.toNat)) (dbOk_bd (logDb_ok _))) ?_
  simp [mDb]
  refine ⟨h5, .of hcp ?_⟩
  simp [mRecS]
def tailAt (t : GTail) (n : Int) : GDb × Bool := if tailOk t = true ∧ t.fBase ≤ n ∧ n ≤ t.fBase + t.fRecs.length then ((play t.fDb (t.fRecs.take (n - t.fBase).toNat)).getD dDb, true) else (dDb, false)
theorem tail_dbOk {t : GTail} (h : tailOk t = true) : dbOk t.fDb = true := by
 simp only [tailOk, Bool.and_eq_true] at h
 exact h.2.1
theorem tailAt1_ok (n : Int) (D : GDb) : VC Tryz.prog 118 [int .i64 n, vDb D] [] := by
 refine vc_of_ew good hm [1] Tryz.func118 rfl (by kernel_rfl) (by kernel_rfl) rfl ?_
 simp [Tryz.f118]
theorem tail_play {t : GTail} {k : Nat} (h : tailOk t = true) (hk : k ≤ t.fRecs.length) : ∃ D, play t.fDb (t.fRecs.take k) = some D ∧ dbOk D = true := by
 simp only [tailOk, Bool.and_eq_true] at h
 have h1 : (playTo t.fDb t.fRecs t.fRecs.length).isSome = true := h.2.2.2
 have h2 := playTo_some h1 hk
 rw [← play_take hk] at h2
 obtain ⟨D, hD⟩ := Option.isSome_iff_exists.1 h2
 exact ⟨D, hD, play_ok h.2.1 hD⟩
theorem S_TailAt_ok (t : GTail) (n : Int) (o0 : okTail t) (hs : ∀ n ∈ wTail t, n ≤ 1048576) (_ : (wTail t).sum ≤ 1048576) (o1 : okI n) : VC Tryz.prog 62 [vTail t, int .i64 n] [(true, fDb (tailAt t n).1), (false, [(.s, .sc (.bool (tailAt t n).2))])] := by
 have hE : tailAt t n = if tailOk t = true ∧ t.fBase ≤ n ∧ n ≤ t.fBase + t.fRecs.length then ((play t.fDb (t.fRecs.take (n - t.fBase).toNat)).getD dDb, true) else (dDb, false) := rfl
 obtain ⟨b1, b2, b3⟩ := tailB hs
 have hbd := fun (h : tailOk t = true) => tail_bd (t := t) (by simp only [tailOk, Bool.and_eq_true] at h; exact h.1)
 refine vc_of_ewF good hm [0,1,2,4,5,24] Tryz.func62 rfl (by kernel_rfl) (by kernel_rfl) rfl ?_
 simp [Tryz.f62, fDb]
 refine .of (tailOkS_ok t o0.2.1 b1 b2 o0.2.2.1.2 b3) ?_
 simp
 refine ⟨fun h => ?_, fun h1 h2 h3 => ?_⟩
 ·rw [hE, if_neg (by
   rintro ⟨g1, g2, g3⟩
   have := hbd g1
   rw [wrapI (by omega) (by omega)] at h
   rcases h with (h | h) | h
   ·rw [g1] at h; cases h
   ·omega
   ·omega)]
  simp [dDb, dCat]
 ·have h4 := hbd h1
  rw [wrapI (by omega) (by omega)] at h3
  rw [wrapI (i := n - t.fBase) (by omega) (by omega)]
  have h5 := tail_dbOk h1
  have hm1 : (t.fRecs.take (n - t.fBase).toNat).map eRec = (t.fRecs.map eRec).take (n - t.fBase).toNat := List.map_take ..
  have hp := l13Play_ok t.fDb (t.fRecs.take (n - t.fBase).toNat) h5 (by simp; omega) (fun r hr => o0.2.2.1.2 r (List.mem_of_mem_take hr)) (fun r hr => b3 r (List.mem_of_mem_take hr))
  unfold vRecS at hp
  rw [hm1] at hp
  obtain ⟨D, hD, hDo⟩ := tail_play h1 (k := (n - t.fBase).toNat) (by omega)
  rw [hE, if_pos ⟨h1, h2, h3⟩]
  rw [hD] at hp ⊢
  refine ⟨by omega, .of hp ?_⟩
  simp [fDb]
theorem I_TailAt_ok (t : GTail) (n : Int) (o0 : okTail t) (hs : ∀ n ∈ wTail t, n ≤ 1048576) (_ : (wTail t).sum ≤ 1048576) (o1 : okI n) : VC Tryz.prog 64 [vTail t, int .i64 n] [(true, mDb (tailAt t n).1), (false, [(.s, .sc (.bool (tailAt t n).2))])] := by
 have hE : tailAt t n = if tailOk t = true ∧ t.fBase ≤ n ∧ n ≤ t.fBase + t.fRecs.length then ((play t.fDb (t.fRecs.take (n - t.fBase).toNat)).getD dDb, true) else (dDb, false) := rfl
 obtain ⟨b1, b2, b3⟩ := tailB hs
 have hbd := fun (h : tailOk t = true) => tail_bd (t := t) (by simp only [tailOk, Bool.and_eq_true] at h; exact h.1)
 refine vc_of_ew good hm [0,1,2,4,5,23,6] Tryz.func64 rfl (by kernel_rfl) (by kernel_rfl) rfl ?_
 simp [Tryz.f64, mDb]
 refine .of (tailOkI_ok t o0.2.1 b1 b2 o0.2.2.1.2 b3) ?_
 simp
 refine .of (fun h => ⟨h, within_ok _ _ _⟩) ?_
 simp
 refine ⟨fun h => ?_, fun h1 h3 => ?_⟩
 ·rw [hE, if_neg (by
   rintro ⟨g1, g2, g3⟩
   have := hbd g1
   rw [wrapI (by omega) (by omega)] at h
   rcases h with h | h
   ·rw [g1] at h; cases h
   ·simp only [within, Bool.and_eq_false_iff, decide_eq_false_iff_not] at h; omega)]
  simp [dDb, dCat]
 ·have h4 := hbd h1
  rw [wrapI (by omega) (by omega)] at h3
  simp only [within, Bool.and_eq_true, decide_eq_true_eq] at h3
  rw [wrapI (i := n - t.fBase) (by omega) (by omega)]
  have h5 := tail_dbOk h1
  have hm1 : (t.fRecs.take (n - t.fBase).toNat).map eRec = (t.fRecs.map eRec).take (n - t.fBase).toNat := List.map_take ..
  have hp := walk_ok t.fDb (t.fRecs.take (n - t.fBase).toNat) _ (fun n D => tailAt1_ok n D) h5 (by simp; omega) (fun r hr => o0.2.2.1.2 r (List.mem_of_mem_take hr)) (fun r hr => b3 r (List.mem_of_mem_take hr))
  unfold vRecS at hp
  rw [hm1] at hp
  obtain ⟨D, hD, hDo⟩ := tail_play h1 (k := (n - t.fBase).toNat) (by omega)
  rw [hE, if_pos ⟨h1, by omega, by omega⟩]
  rw [hD] at hp ⊢
  refine ⟨by omega, .of hp ?_⟩
  simp [fDb, md, lf, List.range']
  refine .of (copyDb_ok D (dbOk_bd hDo)) ?_
  simp [mDb]
end Go.Proofs.YtanlbohhmoifcaaGreat
namespace Go.Proofs.YtanlbohhmoifcaaGreat
open Go Go.Proofs Go.Sm
attribute [local simp] ti eStr eInt eByte eVal vVal eCol vCol vColS vStrS eTable cTable vTable vTableS cCat vCat eValS vValS eRow cRow vRow vRowS eRows vRows vRowsS cDb vDb eDdl cDdl vDdl eStmt cStmt vStmt eRec vRec vSnap eRecS vRecS eTail vTail vIntS vStmtS
set_option linter.unusedVariables false
set_option linter.unusedSimpArgs false
@[simp 10000] theorem OwML_c (m : Md) (l : Lf) (r : ML) : OwML ((m, l) :: r) = (Ow m l ∧ OwML r) := by simp [OwML]
@[simp 10000] theorem OwML_n : OwML [] = True := by simp [OwML]
@[simp 10000] theorem OwRs_c (q : Bool × ML) (r : List (Bool × ML)) : OwRs (q :: r) = (OwML q.2 ∧ OwRs r) := by simp [OwRs]
@[simp 10000] theorem OwRs_n : OwRs [] = True := by simp [OwRs]
theorem memS {l : List Nat} {n : Nat} (h : n ∈ l) : n ≤ l.sum := by
 induction l with
 | nil => cases h
 | cons x r ih =>
  rcases List.mem_cons.1 h with rfl | h
  ·simp
  ·have := ih h; simp; omega
theorem sumF {α : Type} {w : α → List Nat} {l : List α} {B k : Nat} (hk : l.length ≤ k) (h : ∀ v ∈ l, (w v).sum ≤ B) : (l.flatMap w).sum ≤ k * B := by
 refine Nat.le_trans ?_ (Nat.mul_le_mul_right B hk)
 clear hk
 induction l with
 | nil => simp
 | cons x r ih =>
  simp only [List.flatMap_cons, List.sum_append, List.length_cons, Nat.add_mul]
  have h1 := h x (by simp)
  have h2 := ih fun v hv => h v (by simp [hv])
  omega
theorem val_w {v : GVal} (h : valOk v = true) : (wVal v).sum ≤ 30 := by
 simp only [wVal, List.sum_cons, List.sum_nil]
 simp only [valOk, Bool.or_eq_true, Bool.and_eq_true, decide_eq_true_eq] at h
 rcases h with ((⟨_, _, h⟩ | ⟨_, _, h⟩) | ⟨_, _, h⟩) | ⟨_, _, h⟩
 ·rw [em_size h]; omega
 ·rw [em_size h]; omega
 ·rw [em_size h]; omega
 ·omega
theorem null_w {v : GVal} (h : nullV v = true) : (wVal v).sum ≤ 30 := by
 simp only [wVal, List.sum_cons, List.sum_nil]
 simp only [nullV, Bool.and_eq_true, decide_eq_true_eq] at h
 rw [em_size h.2.2]; omega
theorem word_w {s : ByteArray} (h : wordOk s = true) : s.size ≤ 8 := by
 simp only [wordOk, within, Bool.and_eq_true, decide_eq_true_eq] at h
 omega
theorem col_w {c : GCol} (h : colOk c = true) : (wCol c).sum ≤ 38 := by
 simp only [colOk, Bool.and_eq_true] at h
 have h1 := word_w h.1.1
 have h2 : (wVal c.fDef).sum ≤ 30 := by
  have := h.2
  split at this
  ·simp only [Bool.and_eq_true] at this
   exact val_w this.1
  ·exact null_w this
 simp only [wCol, List.sum_cons, List.sum_append, List.sum_nil]
 omega
theorem table_w {t : GTable} (h : tableOk t = true) : (wTable t).sum ≤ 400 := by
 obtain ⟨h1, h2, h3, h4, h5, h6, h7, h8⟩ := (tableOk_iff t).1 h
 have hkl := h7.length_le
 simp only [cnm, List.length_map] at hkl
 have a1 := sumF (w := wCol) h3 fun c hc => col_w (h5 c hc)
 have a2 := sumF (w := wStr) (k := 8) (B := 8) (l := t.fKeys) (by omega) fun s hs => by
  obtain ⟨c, hc, rfl⟩ := List.mem_map.1 (h7.mem hs)
  have := h5 c hc
  simp only [colOk, Bool.and_eq_true] at this
  simpa [wStr] using word_w this.1.1
 have := word_w h1
 simp only [wTable, wColS, wStrS, List.sum_cons, List.sum_append, List.sum_nil]
 omega
theorem row_w {t : GTable} (ht : tableOk t = true) {r : GRow} (h : rowFit t r = true) : (wRow r).sum ≤ 248 := by
 have hl := (rowFit_ok ht h).2
 simp only [rowFit, rowTo, Bool.and_eq_true, List.all_eq_true, List.mem_range] at h
 have a := sumF (w := wVal) hl fun v hv => by
  obtain ⟨i, hi, rfl⟩ := List.getElem_of_mem hv
  have := h.2 i hi
  simp only [rowAt, stands, Bool.and_eq_true, List.getElem?_eq_getElem hi, Option.getD_some] at this
  exact val_w this.1
 simp only [wRow, wValS, List.sum_cons, List.sum_append, List.sum_nil]
 omega
theorem rows_w {t : GTable} {x : GRows} (h : rowsOk t x.fRows = true) : (wRows x).sum ≤ 15000 := by
 obtain ⟨h1, h2, h3, _⟩ := (rowsOk_iff _ _).1 h
 have a := sumF (w := wRow) h2 fun r hr => row_w h1 (h3 r hr)
 simp only [wRows, wRowS, List.sum_cons, List.sum_append, List.sum_nil]
 omega
theorem db_w {d : GDb} (h : dbOk d = true) : (wDb d).sum ≤ 100000 := by
 have h1 := catOk_ok (dbOk_cat h)
 have h2 := dbOk_len h
 have a1 := sumF (w := wTable) h1.2.1 fun t ht => table_w (h1.2.2 t ht).1
 have a2 := sumF (w := wRows) (k := 6) (B := 15000) (l := d.fData) (by omega) fun x hx => by
  obtain ⟨t, _, ht⟩ := dbOk_rows h x hx
  exact rows_w ht
 simp only [wDb, wCat, wTableS, wRowsS, List.sum_cons, List.sum_append, List.sum_nil]
 omega
theorem of_sum {l : List Nat} (h : l.sum ≤ 1048576) : (∀ n ∈ l, n ≤ 1048576) ∧ l.sum ≤ 1099511627776 := ⟨fun n hn => by have := memS hn; omega, by omega⟩
theorem db_r0 {d : GDb} (h : dbOk d = true) : (∀ n ∈ wDb d, n ≤ 1048576) ∧ (wDb d).sum ≤ 1099511627776 := of_sum (by have := db_w h; omega)
theorem Commits_r0 (l : List GRec) (o0 : okRecS l) (hs : ∀ n ∈ wRecS l, n ≤ 1048576) (_ : (wRecS l).sum ≤ 1048576) : (∀ n ∈ wIntS (commits l), n ≤ 1048576) ∧ (wIntS (commits l)).sum ≤ 1099511627776 := by
 have := commits_len l
 have hl : l.length ≤ 1048576 := hs _ (by simp [wRecS])
 exact of_sum (by simp [wIntS]; omega)
theorem Restart_r0 (l : List GRec) (o0 : okRecS l) (hs : ∀ n ∈ wRecS l, n ≤ 1048576) (hz : (wRecS l).sum ≤ 1048576) : (∀ n ∈ wRecS (restart l).1, n ≤ 1048576) ∧ (wRecS (restart l).1).sum ≤ 1099511627776 := by
 have hE : restart l = if logOk l = true ∧ l.length + (openL l).length ≤ 400 then (abTo l (openL l) (openL l).length, ((openL l).length : Int)) else ([], -1) := rfl
 rw [hE]
 split
 ·rename_i h
  have ha : ∀ x, wRec (abRec x) = [0, 0, 0, 0, 0, 0, 0, 0] := fun x => rfl
  have hw : wRecS (abTo l (openL l) (openL l).length) = (l.length + (openL l).length) :: (l.flatMap wRec ++ ((openL l).map abRec).flatMap wRec) := by simp [wRecS, abTo]
  have h0 : ∀ n ∈ ((openL l).map abRec).flatMap wRec, n = 0 := by
   intro n hn
   obtain ⟨r, hr, hn⟩ := List.mem_flatMap.1 hn
   obtain ⟨x, _, rfl⟩ := List.mem_map.1 hr
   rw [ha] at hn
   simpa using hn
  have hz0 : (((openL l).map abRec).flatMap wRec).sum ≤ (openL l).length * 0 := sumF (by simp) fun r hr => by
   obtain ⟨x, _, rfl⟩ := List.mem_map.1 hr
   rw [ha]; simp
  rw [hw]
  refine ⟨fun n hn => ?_, ?_⟩
  ·rcases List.mem_cons.1 hn with rfl | hn
   ·omega
   ·rcases List.mem_append.1 hn with hn | hn
    ·exact hs n (by simp [wRecS, -List.mem_flatMap, hn])
    ·rw [h0 n hn]; omega
  ·simp only [wRecS, List.sum_cons] at hz
   simp only [List.sum_cons, List.sum_append]
   omega
 ·exact of_sum (by simp [wRecS])
theorem DbAt_r0 (l : List GRec) (n : Int) (o0 : okRecS l) (hs : ∀ n ∈ wRecS l, n ≤ 1048576) (_ : (wRecS l).sum ≤ 1048576) (o1 : okI n) : (∀ k ∈ wDb (dbAtM l n).1, k ≤ 1048576) ∧ (wDb (dbAtM l n).1).sum ≤ 1099511627776 := by
 unfold dbAtM
 split
 ·exact db_r0 (logDb_ok _)
 ·exact of_sum (by simp [wDb, wCat, wTableS, wRowsS, dDb, dCat])
theorem SnapOf_r0 (l : List GRec) (n : Int) (o0 : okRecS l) (hs : ∀ n ∈ wRecS l, n ≤ 1048576) (_ : (wRecS l).sum ≤ 1048576) (o1 : okI n) : (∀ k ∈ wSnap (snapOf l n).1, k ≤ 1048576) ∧ (wSnap (snapOf l n).1).sum ≤ 1099511627776 := by
 unfold snapOf
 split
 ·simpa [wSnap] using db_r0 (logDb_ok (l.take n.toNat))
 ·exact of_sum (by simp [wSnap, wDb, wCat, wTableS, wRowsS, dSnap, dDb, dCat])
theorem drop_w (l : List GRec) (n : Nat) : (wRecS (l.drop n)).sum ≤ (wRecS l).sum := by
 have h : ((l.drop n).flatMap wRec).sum ≤ (l.flatMap wRec).sum := by
  conv => rhs; rw [← List.take_append_drop n l]
  simp only [List.flatMap_append, List.sum_append]
  omega
 simp only [wRecS, List.sum_cons, List.length_drop]
 omega
theorem TailOf_r0 (l : List GRec) (n : Int) (o0 : okRecS l) (hs : ∀ n ∈ wRecS l, n ≤ 1048576) (hz : (wRecS l).sum ≤ 1048576) (o1 : okI n) : (∀ k ∈ wTail (tailOf l n).1, k ≤ 1048576) ∧ (wTail (tailOf l n).1).sum ≤ 1099511627776 := by
 unfold tailOf
 split
 ·have h1 := db_w (logDb_ok (l.take n.toNat))
  have h2 := drop_w l n.toNat
  refine ⟨fun k hk => ?_, ?_⟩
  ·rcases List.mem_append.1 hk with hk | hk
   ·have := memS hk
    simp only at this
    omega
   ·have := memS hk
    simp only [List.append_nil] at this
    omega
  ·simp only [wTail, List.sum_append, List.sum_nil]
   omega
 ·exact of_sum (by simp [wTail, wDb, wCat, wTableS, wRowsS, wRecS, dTail, dDb, dCat])
theorem TailAt_r0 (t : GTail) (n : Int) (o0 : okTail t) (hs : ∀ n ∈ wTail t, n ≤ 1048576) (_ : (wTail t).sum ≤ 1048576) (o1 : okI n) : (∀ k ∈ wDb (tailAt t n).1, k ≤ 1048576) ∧ (wDb (tailAt t n).1).sum ≤ 1099511627776 := by
 unfold tailAt
 split
 ·rename_i h
  obtain ⟨D, hD, hDo⟩ := tail_play h.1 (k := (n - t.fBase).toNat) (by omega)
  rw [hD]
  exact db_r0 hDo
 ·exact of_sum (by simp [wDb, wCat, wTableS, wRowsS, dDb, dCat])
end Go.Proofs.YtanlbohhmoifcaaGreat
