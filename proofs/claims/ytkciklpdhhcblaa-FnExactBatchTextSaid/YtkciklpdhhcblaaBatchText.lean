import Derived.Test.YtkciklpdhhcblaaRecText
import Derived.Test.YtkciklpdhhcblaaBatch
namespace Go.Proofs.Ytkciklpdhhcblaa
open Go Go.Proofs Go.Sm
attribute [local simp] ti eStr eInt eByte eVal cVal vVal eValS vValS eRow cRow vRow eCol cCol vCol eColS vColS eStrS vStrS eDdl cDdl vDdl eStmt cStmt vStmt ePart cPart vPart ePartS vPartS eBatch cBatch vBatch eTable cTable vTable eTableS vTableS eCat cCat vCat eRowS vRowS eRows cRows vRows eRowsS vRowsS eDb cDb vDb eFol cFol vFol eRec cRec vRec
set_option linter.unusedVariables false
set_option linter.unusedSimpArgs false


theorem toList_ofT (l : List UInt8) : (ofT l).toList = l := by
  rw [Lib.toList_data]
  rfl
def partT (p : GPart) : List UInt8 := stmtT p.fStmt ++ ((if 0 < p.fCols.length then [32, 124, 32] ++ wsT p.fCols else []) ++ [10])
def noTx (p : GPart) : Bool := decide (stmtT p.fStmt = [])
def headT (b : GBatch) : List UInt8 := [98, 97, 116, 99, 104, 32] ++ (numT b.fLsn ++ 32 :: (numT b.fPrev ++ [10]))
def partsT (l : List GPart) : List UInt8 := l.flatMap partT
def batchT (b : GBatch) : List UInt8 := if numT b.fLsn = [] ∨ numT b.fPrev = [] then [] else if b.fParts.any noTx = true then [] else headT b ++ partsT b.fParts
theorem partsT_take {l : List GPart} {i : Nat} (h : i < l.length) : partsT (l.take (i + 1)) = partsT (l.take i) ++ partT (l[i]?.getD dPart) := by
  unfold partsT
  rw [List.take_succ_eq_append_getElem h, List.getElem?_eq_getElem h, List.flatMap_append]
  simp
theorem bdS_part {b : GBatch} (hs : ∀ n ∈ wBatch b, n ≤ 1048576) : b.fParts.length ≤ 1048576 ∧ ∀ p ∈ b.fParts, bdS p.fStmt ∧ p.fCols.length ≤ 1048576 ∧ ∀ c ∈ p.fCols, c.size ≤ 1048576 := by
  have hs' : ∀ n, n = b.fParts.length ∨ (∃ p ∈ b.fParts, n ∈ wPart p) → n ≤ 1048576 := fun n hn => hs n (by
    simp only [wBatch, wPartS, List.mem_append, List.mem_cons, List.mem_flatMap]
    exact .inl hn)
  refine ⟨hs' _ (.inl rfl), fun p hp => ⟨bdS_of fun n hn => hs' n (.inr ⟨p, hp, by simp [wPart, hn]⟩), hs' _ (.inr ⟨p, hp, by simp [wPart, wStrS]⟩), fun c hc => hs' _ (.inr ⟨p, hp, ?_⟩)⟩⟩
  simp only [wPart, wStrS, List.mem_append, List.mem_cons, List.mem_flatMap]
  exact .inr (.inl (.inr ⟨c, hc, by simp [wStr]⟩))
theorem cols_len {l : List ByteArray} (h1 : l.length ≤ 1048576) (h2 : ∀ c ∈ l, c.size ≤ 1048576) : (wsT l).length ≤ 1099512676352 := by
  have h3 := wsT_le h2
  have h4 : l.length * (1048576 + 1) ≤ 1048576 * (1048576 + 1) := Nat.mul_le_mul_right _ h1
  omega
theorem partT_len {p : GPart} (h : bdS p.fStmt ∧ p.fCols.length ≤ 1048576 ∧ ∀ c ∈ p.fCols, c.size ≤ 1048576) : (partT p).length ≤ 2199200000000 := by
  have h1 := stmtT_len2 h.1
  have h2 := cols_len h.2.1 h.2.2
  unfold partT
  split <;> simp <;> omega
theorem partsT_len {l : List GPart} (h : ∀ p ∈ l, (partT p).length ≤ 2199200000000) : (partsT l).length ≤ l.length * 2199200000000 := by
  induction l with
  | nil => simp [partsT]
  | cons p l ih =>
    have h1 := h p (by simp)
    have h2 := ih fun q hq => h q (by simp [hq])
    simp only [partsT, List.flatMap_cons, List.length_append, List.length_cons, Nat.add_mul, Nat.one_mul] at h2 ⊢
    omega
set_option maxHeartbeats 8000000 in
set_option maxRecDepth 4000 in
theorem S_BatchText_ok (b : GBatch) (o0 : okBatch b) (hs : ∀ n ∈ wBatch b, n ≤ 1048576) (_ : (wBatch b).sum ≤ 1048576) : VC Try.prog 37 [vBatch b] [(false, [(.s, .sc (.string (ofT (batchT b))))])] := by
  have hb := bdS_part hs
  have hn1 := numT_len b.fLsn
  have hn2 := numT_len b.fPrev
  refine vc_of_ew good hm [0,1,2,3,4,20,5,28,29,30,31,7,8,38,42] Try.func37 rfl (by kernel_rfl) (by kernel_rfl) rfl ?_
  simp [Try.f37, szMk]
  refine .of (numTextS_ok _) ?_
  simp [szMk, toList_ofT]
  refine .of (numTextS_ok _) ?_
  simp [szMk, toList_ofT]
  refine ⟨fun h => by simp [batchT, h, ofT], fun a1 a2 => ⟨by omega, by omega, by omega, by omega, ?_⟩⟩
  refine ew_loop (fun E => ∃ i : Nat, i ≤ b.fParts.length ∧ anyT noTx b.fParts i = false ∧ E = { nt := 55, sl := [(5, str (ofT (headT b ++ partsT (b.fParts.take i)))), (28, vPartS b.fParts), (29, int .i64 b.fParts.length), (30, int .i64 i)], bx := [], rt := [] }) (fun E => b.fParts.length - (E.num 30).toNat) _ (Gh.kb _ [5,28,29,30] [] []) ⟨0, by omega, anyT_zero _ _, ?_⟩ ?_
  · simp [headT, partsT]
    exact tx_ext (by simp)
  rintro E1 ⟨i, hi, hall, rfl⟩
  have hpl := partsT_len (l := b.fParts.take i) fun p hp => partT_len (hb.2 p (List.mem_of_mem_take hp))
  rw [List.length_take] at hpl
  have hpl2 : min i b.fParts.length * 2199200000000 ≤ 1048576 * 2199200000000 := Nat.mul_le_mul_right _ (by omega)
  have hhl : (headT b).length ≤ 40 := by simp [headT]; omega
  simp [szMk]
  refine ⟨fun h => ⟨h, ?_⟩, fun h => ?_⟩
  · have hm := getD_mem dPart h
    have hp := hb.2 _ hm
    have hst := stmtT_len2 hp.1
    have hcl := cols_len hp.2.1 hp.2.2
    refine .of (stmtTextS_ok _ (o0.2.2.1.2 _ hm).1 hp.1) ?_
    simp [szMk, toList_ofT]
    have hta : ∀ _ : ¬ stmtT (b.fParts[i]?.getD dPart).fStmt = [], anyT noTx b.fParts (i + 1) = false := fun he => by rw [anyT_succ _ dPart h, hall]; simp [noTx, he]
    refine ⟨fun he => ?_, fun he => ⟨fun hc => ⟨by omega, .of (joinS_ok _ (by omega) (by omega)) ?_⟩, fun hc => ?_⟩⟩
    · have : b.fParts.any noTx = true := List.any_eq_true.2 ⟨_, hm, by simp [noTx, he]⟩
      simp [batchT, this, ofT]
    · simp [szMk]
      refine ⟨by omega, by omega, by omega, .of _ (Gh.kb _ [5,28,29,30] [] []) ⟨i + 1, by omega, hta he, ?_⟩ ?_⟩
      · rw [partsT_take h, partT, if_pos (by omega)]
        simp [wrapS (show i < 9223372036854775807 by omega)]
        exact tx_ext (by simp)
      · simp [wrapS (show i < 9223372036854775807 by omega)]; omega
    · refine ⟨by omega, by omega, .of _ (Gh.kb _ [5,28,29,30] [] []) ⟨i + 1, by omega, hta he, ?_⟩ ?_⟩
      · rw [partsT_take h, partT, if_neg (fun h9 => by first | omega | exact absurd (List.length_eq_zero_iff.2 hc) (by omega))]
        simp [wrapS (show i < 9223372036854775807 by omega)]
        exact tx_ext (by simp)
      · simp [wrapS (show i < 9223372036854775807 by omega)]; omega
  · have hi' : i = b.fParts.length := by omega
    subst hi'
    rw [anyT_all] at hall
    rw [List.take_length]
    simp [batchT, a1, a2, hall]
def bBatch : ByteArray := ⟨#[98, 97, 116, 99, 104]⟩
set_option maxHeartbeats 8000000 in
set_option maxRecDepth 4000 in
theorem I_BatchText_ok (b : GBatch) (o0 : okBatch b) (hs : ∀ n ∈ wBatch b, n ≤ 1048576) (_ : (wBatch b).sum ≤ 1048576) : VC Try.prog 38 [vBatch b] [(false, [(.s, .sc (.string (ofT (batchT b))))])] := by
  have hb := bdS_part hs
  have hn1 := numT_len b.fLsn
  have hn2 := numT_len b.fPrev
  refine vc_of_ew good hm [0,1,2,3,4,20,5,27,28,29,30,7,8,37,41] Try.func38 rfl (by kernel_rfl) (by kernel_rfl) rfl ?_
  simp [Try.f38, szMk]
  refine .of (numTextI_ok _) ?_
  simp [szMk, toList_ofT]
  refine .of (numTextI_ok _) ?_
  simp [szMk, toList_ofT]
  refine ⟨fun h => by simp [batchT, h, ofT], fun a1 a2 => ?_⟩
  have ew3 : wsT [bBatch, ofT (numT b.fLsn), ofT (numT b.fPrev)] = [98, 97, 116, 99, 104] ++ 32 :: (numT b.fLsn ++ 32 :: numT b.fPrev) := by simp [wsT, joinT, bBatch]
  refine .of (gluedI_ok [bBatch, ofT (numT b.fLsn), ofT (numT b.fPrev)] (by simp) (by rw [ew3]; simp; omega)) ?_
  simp [szMk, ew3]
  refine ⟨by omega, ?_⟩
  refine ew_loop (fun E => ∃ i : Nat, i ≤ b.fParts.length ∧ anyT noTx b.fParts i = false ∧ E = { nt := 54, sl := [(5, str (ofT (headT b ++ partsT (b.fParts.take i)))), (27, vPartS b.fParts), (28, int .i64 b.fParts.length), (29, int .i64 i)], bx := [], rt := [] }) (fun E => b.fParts.length - (E.num 29).toNat) _ (Gh.kb _ [5,27,28,29] [] []) ⟨0, by omega, anyT_zero _ _, ?_⟩ ?_
  · simp [headT, partsT]
    exact tx_ext (by simp)
  rintro E1 ⟨i, hi, hall, rfl⟩
  have hpl := partsT_len (l := b.fParts.take i) fun p hp => partT_len (hb.2 p (List.mem_of_mem_take hp))
  rw [List.length_take] at hpl
  have hpl2 : min i b.fParts.length * 2199200000000 ≤ 1048576 * 2199200000000 := Nat.mul_le_mul_right _ (by omega)
  have hhl : (headT b).length ≤ 40 := by simp [headT]; omega
  simp [szMk]
  refine ⟨fun h => ⟨h, ?_⟩, fun h => ?_⟩
  · have hm := getD_mem dPart h
    have hp := hb.2 _ hm
    have hst := stmtT_len2 hp.1
    have hcl := cols_len hp.2.1 hp.2.2
    refine .of (stmtTextI_ok _ (o0.2.2.1.2 _ hm).1 hp.1) ?_
    simp [szMk, toList_ofT]
    have hta : ∀ _ : ¬ stmtT (b.fParts[i]?.getD dPart).fStmt = [], anyT noTx b.fParts (i + 1) = false := fun he => by rw [anyT_succ _ dPart h, hall]; simp [noTx, he]
    refine ⟨fun he => ?_, fun he => ⟨fun hc => ⟨by omega, .of (gluedI_ok _ (by omega) (by omega)) ?_⟩, fun hc => ?_⟩⟩
    · have : b.fParts.any noTx = true := List.any_eq_true.2 ⟨_, hm, by simp [noTx, he]⟩
      simp [batchT, this, ofT]
    · simp [szMk]
      refine ⟨by omega, by omega, by omega, .of _ (Gh.kb _ [5,27,28,29] [] []) ⟨i + 1, by omega, hta he, ?_⟩ ?_⟩
      · rw [partsT_take h, partT, if_pos (by omega)]
        simp [wrapS (show i < 9223372036854775807 by omega)]
        exact tx_ext (by simp)
      · simp [wrapS (show i < 9223372036854775807 by omega)]; omega
    · refine ⟨by omega, by omega, .of _ (Gh.kb _ [5,27,28,29] [] []) ⟨i + 1, by omega, hta he, ?_⟩ ?_⟩
      · rw [partsT_take h, partT, if_neg (fun h9 => by first | omega | exact absurd (List.length_eq_zero_iff.2 hc) (by omega))]
        simp [wrapS (show i < 9223372036854775807 by omega)]
        exact tx_ext (by simp)
      · simp [wrapS (show i < 9223372036854775807 by omega)]; omega
  · have hi' : i = b.fParts.length := by omega
    subst hi'
    rw [anyT_all] at hall
    rw [List.take_length]
    simp [batchT, a1, a2, hall]

end Go.Proofs.Ytkciklpdhhcblaa
