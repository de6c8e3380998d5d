import Derived.Test.YtanlbohhmoifcaaGreatG7
import Derived.Test.YtanlbohhmoifcaaGreatG5
/-! YtanlbohhmoifcaaGreatLgP -/
namespace Go.Proofs.YtanlbohhmoifcaaGreat
open Go Go.Proofs Go.Sm
attribute [local simp] ti eStr eInt eByte eVal vVal eCol vCol vColS vStrS eTable cTable vTable vTableS cCat vCat eValS vValS eRow cRow vRow vRowS eRows vRowsS cDb vDb eDdl cDdl vDdl eStmt cStmt vStmt eRec vRec eRecS vRecS vStmtS
set_option linter.unusedVariables false
set_option linter.unusedSimpArgs false


def logOk (l : List GRec) : Bool := decide (l.length ≤ 400) && (play dDb l).isSome
/-- The store that a right log makes. -/
def logDb (l : List GRec) : GDb := (play dDb l).getD dDb
/-- A log with a record behind it. -/
def addR (l : List GRec) (r : GRec) : List GRec × Int :=
  if logOk l = false ∨ recOk r = false then ([], 1) else if r.fKind = 1 ∧ usedX l r.fXid = true then ([], 2) else if r.fKind ≠ 1 ∧ hasI (openL l) r.fXid = false then ([], 3) else
  if l.length = 400 then ([], 4) else if r.fKind = 3 ∧ (execAll (logDb l) (stmtsOf l r.fXid)).2.1 ≠ 0 then ([], 5) else (l ++ [r], 0)
def comTo (l : List GRec) (n : Nat) : List Int := ((List.range n).filter fun i => decide ((l[i]?.getD dRec).fKind = 3)).map fun i => ((i + 1 : Nat) : Int)
theorem comTo_succ (l : List GRec) (n : Nat) : comTo l (n + 1) = if (l[n]?.getD dRec).fKind = 3 then comTo l n ++ [((n + 1 : Nat) : Int)] else comTo l n := by
  unfold comTo
  rw [List.range_succ, List.filter_append, List.map_append]
  by_cases k : (l[n]?.getD dRec).fKind = 3 <;> simp [k]
theorem comTo_len (l : List GRec) (n : Nat) : (comTo l n).length ≤ n := by
  unfold comTo
  rw [List.length_map]
  have := List.length_filter_le (fun i => decide ((l[i]?.getD dRec).fKind = 3)) (List.range n)
  simpa using this
def commits (l : List GRec) : List Int := if logOk l = true then comTo l l.length else []
theorem commits_len (l : List GRec) : (commits l).length ≤ l.length := by
  unfold commits
  split
  · exact comTo_len _ _
  · simp
end Go.Proofs.YtanlbohhmoifcaaGreat

/-! YtanlbohhmoifcaaGreatWkT -/
namespace Go.Proofs.YtanlbohhmoifcaaGreat
open Go Go.Proofs Go.Sm
attribute [local simp] ti eStr eInt eByte eVal vVal eCol vCol vColS vStrS eTable cTable vTable vTableS cCat vCat eValS vValS eRow cRow vRow vRowS eRows vRowsS cDb vDb eDdl cDdl vDdl eStmt cStmt vStmt eRec vRec eRecS vRecS vStmtS
set_option linter.unusedVariables false
set_option linter.unusedSimpArgs false


def tailOk (t : GTail) : Bool := within t.fBase 0 400 && (dbOk t.fDb && (decide (t.fBase + t.fRecs.length ≤ 400) && (play t.fDb t.fRecs).isSome))
end Go.Proofs.YtanlbohhmoifcaaGreat

/-! YtanlbohhmoifcaaGreatLgO -/
namespace Go.Proofs.YtanlbohhmoifcaaGreat
open Go Go.Proofs Go.Sm
attribute [local simp] ti eStr eInt eByte eVal vVal eCol vCol vColS vStrS eTable cTable vTable vTableS cCat vCat eValS vValS eRow cRow vRow vRowS eRows vRowsS cDb vDb eDdl cDdl vDdl eStmt cStmt vStmt eRec vRec eRecS vRecS vStmtS
set_option linter.unusedVariables false
set_option linter.unusedSimpArgs false


end Go.Proofs.YtanlbohhmoifcaaGreat

/-! YtanlbohhmoifcaaGreatLgC -/
namespace Go.Proofs.YtanlbohhmoifcaaGreat
open Go Go.Proofs Go.Sm
attribute [local simp] ti eStr eInt eByte eVal vVal eCol vCol vColS vStrS eTable cTable vTable vTableS cCat vCat eValS vValS eRow cRow vRow vRowS eRows vRowsS cDb vDb eDdl cDdl vDdl eStmt cStmt vStmt eRec vRec eRecS vRecS vStmtS
set_option linter.unusedVariables false
set_option linter.unusedSimpArgs false


set_option maxHeartbeats 4000000 in
theorem commitsI_ok (l : List GRec) (hl : l.length ≤ 1048576) (ho : ∀ r ∈ l, okRec r) (hb : ∀ r ∈ l, bdRec r) : VC Tryz.prog 21 [vRecS l] [(false, mInts (commits l))] := by
  have hlg : logOk l = (decide (l.length ≤ 400) && (play dDb l).isSome) := rfl
  refine vc_of_ew good hm [0,2,3,9,11,12,13,14,5,4,20] Tryz.func21 rfl (by kernel_rfl) (by kernel_rfl) rfl ?_
  simp [Tryz.f21, mInts]
  refine .of (logOkI_ok l hl ho hb) ?_
  rw [← hlg]
  simp
  refine ⟨fun h => by simp [commits, h], fun h => ?_⟩
  have hc : commits l = comTo l l.length := by simp [commits, h]
  rw [hc]
  refine ew_loop (fun E => ∃ i : Nat, i ≤ l.length ∧ E = { nt := 28, sl := [(3, .v false [.r [6]]), (11, vRecS l), (12, int .i64 l.length), (13, int .i64 i)], bx := [], rt := (mInts (comTo l i)).map fun y => (6, y) }) (fun E => l.length - (E.num 13).toNat) _ (Gh.kb _ [3,11,12,13] [] [6]) ⟨0, by omega, by simp [mInts, comTo]⟩ ?_
  rintro E1 ⟨i, hi, rfl⟩
  have hlen := comTo_len l i
  have hsu := comTo_succ l i
  simp [mInts]
  refine ⟨fun h => ⟨h, fun k => ⟨by omega, .of _ ((Gh.kb _ [3,11,12,13] [] [25]).trans (Gh.rn _ 25 6)) ⟨i + 1, by omega, ?_⟩ ?_⟩, fun k => .of _ (Gh.kb _ [3,11,12,13] [] [6]) ⟨i + 1, by omega, ?_⟩ ?_⟩, fun h => ?_⟩
  · rw [hsu, if_pos k]
    simp [wrapS (show i < 9223372036854775807 by omega), mInts]
  · simp [wrapS (show i < 9223372036854775807 by omega)]; omega
  · rw [hsu, if_neg k]
    simp [wrapS (show i < 9223372036854775807 by omega), mInts]
  · simp [wrapS (show i < 9223372036854775807 by omega)]; omega
  · have : i = l.length := by omega
    subst this
    simp
set_option maxHeartbeats 4000000 in
theorem commitsS_ok (l : List GRec) (hl : l.length ≤ 1048576) (ho : ∀ r ∈ l, okRec r) (hb : ∀ r ∈ l, bdRec r) : VC Tryz.prog 20 [vRecS l] [(false, mInts (commits l))] := by
  have hlg : logOk l = (decide (l.length ≤ 400) && (play dDb l).isSome) := rfl
  refine vc_of_ew good hm [0,2,3,9,11,12,13,14,5,4,20] Tryz.func20 rfl (by kernel_rfl) (by kernel_rfl) rfl ?_
  simp [Tryz.f20, mInts]
  refine .of (logOkS_ok l hl ho hb) ?_
  rw [← hlg]
  simp
  refine ⟨fun h => by simp [commits, h], fun h => ?_⟩
  have hc : commits l = comTo l l.length := by simp [commits, h]
  rw [hc]
  refine ew_loop (fun E => ∃ i : Nat, i ≤ l.length ∧ E = { nt := 28, sl := [(3, .v false [.r [6]]), (11, vRecS l), (12, int .i64 l.length), (13, int .i64 i)], bx := [], rt := (mInts (comTo l i)).map fun y => (6, y) }) (fun E => l.length - (E.num 13).toNat) _ (Gh.kb _ [3,11,12,13] [] [6]) ⟨0, by omega, by simp [mInts, comTo]⟩ ?_
  rintro E1 ⟨i, hi, rfl⟩
  have hlen := comTo_len l i
  have hsu := comTo_succ l i
  simp [mInts]
  refine ⟨fun h => ⟨h, fun k => ⟨by omega, .of _ ((Gh.kb _ [3,11,12,13] [] [25]).trans (Gh.rn _ 25 6)) ⟨i + 1, by omega, ?_⟩ ?_⟩, fun k => .of _ (Gh.kb _ [3,11,12,13] [] [6]) ⟨i + 1, by omega, ?_⟩ ?_⟩, fun h => ?_⟩
  · rw [hsu, if_pos k]
    simp [wrapS (show i < 9223372036854775807 by omega), mInts]
  · simp [wrapS (show i < 9223372036854775807 by omega)]; omega
  · rw [hsu, if_neg k]
    simp [wrapS (show i < 9223372036854775807 by omega), mInts]
  · simp [wrapS (show i < 9223372036854775807 by omega)]; omega
  · have : i = l.length := by omega
    subst this
    simp
def lastOf (l : List GRec) : Int := (commits l)[(commits l).length - 1]?.getD 0
set_option maxHeartbeats 4000000 in
theorem lastI_ok (l : List GRec) (hl : l.length ≤ 1048576) (ho : ∀ r ∈ l, okRec r) (hb : ∀ r ∈ l, bdRec r) : VC Tryz.prog 18 [vRecS l] [(false, [(.s, .sc (.int .i64 (lastOf l)))])] := by
  have hcl := commits_len l
  refine vc_of_ew good hm [0,2,3,8] Tryz.func18 rfl (by kernel_rfl) (by kernel_rfl) rfl ?_
  simp [Tryz.f18]
  refine .of (commitsI_ok l hl ho hb) ?_
  simp [mInts]
  refine ⟨fun h => by simp [lastOf, h], fun h => ?_⟩
  have hp : 0 < (commits l).length := List.length_pos_iff.2 h
  rw [wrapP hp (by omega)]
  refine ⟨by omega, by omega, ?_⟩
  simp [md, lf, lastOf, show (commits l).length - 1 < (commits l).length by omega, eInt]
def lastTo (l : List Int) : Nat → Int
  | 0 => 0
  | i + 1 => l[i]?.getD 0
set_option maxHeartbeats 4000000 in
theorem lastS_ok (l : List GRec) (hl : l.length ≤ 1048576) (ho : ∀ r ∈ l, okRec r) (hb : ∀ r ∈ l, bdRec r) : VC Tryz.prog 16 [vRecS l] [(false, [(.s, .sc (.int .i64 (lastOf l)))])] := by
  have hcl := commits_len l
  have hE : lastOf l = lastTo (commits l) (commits l).length := by
    unfold lastOf
    cases h : (commits l).length with
    | zero => rw [List.length_eq_zero_iff.1 h]; rfl
    | succ n => rfl
  refine vc_of_ew good hm [0,2,3,7,8,9,10,5] Tryz.func16 rfl (by kernel_rfl) (by kernel_rfl) rfl ?_
  simp [Tryz.f16]
  refine .of (commitsS_ok l hl ho hb) ?_
  rw [hE]
  generalize commits l = C at *
  simp [mInts]
  refine ew_loop (fun E => ∃ i : Nat, i ≤ C.length ∧ E = { nt := 16, sl := [(3, int .i64 (lastTo C i)), (7, .v false [.r [7]]), (8, int .i64 C.length), (9, int .i64 i)], bx := [], rt := (mInts C).map fun y => (7, y) }) (fun E => C.length - (E.num 9).toNat) _ (Gh.kb _ [3,7,8,9] [] [7]) ⟨0, by omega, by simp [mInts, lastTo]⟩ ?_
  rintro E1 ⟨i, hi, rfl⟩
  simp [mInts]
  refine ⟨fun h => ?_, fun h => ?_⟩
  · simp [md, lf, eInt, h]
    refine .of _ (Gh.kb _ [3,7,8,9] [] [7]) ⟨i + 1, by omega, ?_⟩ ?_
    · simp [wrapS (show i < 9223372036854775807 by omega), mInts, lastTo, h]
    · simp [wrapS (show i < 9223372036854775807 by omega)]; omega
  · have : i = C.length := by omega
    subst this
    simp
end Go.Proofs.YtanlbohhmoifcaaGreat

/-! YtanlbohhmoifcaaGreatSlots -/
namespace Go.Proofs.YtanlbohhmoifcaaGreat
open Go Go.Proofs Go.Sm
attribute [local simp] ti eStr eInt eByte eVal vVal eCol vCol vColS vStrS eTable cTable vTable vTableS cCat vCat eValS vValS eRow cRow vRow vRowS eRows vRowsS cDb vDb eDdl cDdl vDdl eStmt cStmt vStmt eRec vRec eRecS vRecS vStmtS
set_option linter.unusedVariables false
set_option linter.unusedSimpArgs false


end Go.Proofs.YtanlbohhmoifcaaGreat

/-! YtanlbohhmoifcaaGreatSlotLeast -/
namespace Go.Proofs.YtanlbohhmoifcaaGreat
open Go Go.Proofs Go.Sm
attribute [local simp] ti eStr eInt eByte eVal vVal eCol vCol vColS vStrS eTable cTable vTable vTableS cCat vCat eValS vValS eRow cRow vRow vRowS eRows vRowsS cDb vDb eDdl cDdl vDdl eStmt cStmt vStmt eRec vRec eRecS vRecS vStmtS
set_option linter.unusedVariables false
set_option linter.unusedSimpArgs false


end Go.Proofs.YtanlbohhmoifcaaGreat

/-! YtanlbohhmoifcaaGreatLgF -/
namespace Go.Proofs.YtanlbohhmoifcaaGreat
open Go Go.Proofs Go.Sm
attribute [local simp] ti eStr eInt eByte eVal vVal eCol vCol vColS vStrS eTable cTable vTable vTableS cCat vCat eValS vValS eRow cRow vRow vRowS eRows vRowsS cDb vDb eDdl cDdl vDdl eStmt cStmt vStmt eRec vRec eRecS vRecS vStmtS
set_option linter.unusedVariables false
set_option linter.unusedSimpArgs false


theorem S_Last_ok (l : List GRec) (o0 : okRecS l) (hs : ∀ n ∈ wRecS l, n ≤ 1048576) (_ : (wRecS l).sum ≤ 1048576) : VC Tryz.prog 16 [vRecS l] [(false, [(.s, .sc (.int .i64 (lastOf l)))])] := lastS_ok l (hs _ (by simp [wRecS])) o0.2 (recsB hs)
theorem I_Last_ok (l : List GRec) (o0 : okRecS l) (hs : ∀ n ∈ wRecS l, n ≤ 1048576) (_ : (wRecS l).sum ≤ 1048576) : VC Tryz.prog 18 [vRecS l] [(false, [(.s, .sc (.int .i64 (lastOf l)))])] := lastI_ok l (hs _ (by simp [wRecS])) o0.2 (recsB hs)
end Go.Proofs.YtanlbohhmoifcaaGreat

