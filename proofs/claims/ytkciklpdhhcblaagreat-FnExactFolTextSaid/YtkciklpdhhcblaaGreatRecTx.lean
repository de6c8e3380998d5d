import Derived.Test.YtkciklpdhhcblaaGreatStmtTx
namespace Go.Proofs.YtkciklpdhhcblaaGreat
open Go Go.Proofs Go.Sm
attribute [local simp] ti eStr eInt eByte eVal cVal vVal eCol cCol vCol eColS vColS eStrS vStrS eTable cTable vTable eTableS vTableS eCat cCat vCat eValS vValS eRow cRow vRow eRowS vRowS eRows cRows vRows eRowsS vRowsS eDb cDb vDb eDdl cDdl vDdl eFol cFol vFol eStmt cStmt vStmt eRec cRec vRec eSnap cSnap vSnap eRecS vRecS eTail cTail vTail
set_option linter.unusedVariables false
set_option linter.unusedSimpArgs false


def bInsert : ByteArray := ⟨#[105, 110, 115, 101, 114, 116]⟩
def bUpdate : ByteArray := ⟨#[117, 112, 100, 97, 116, 101]⟩
def bDelete : ByteArray := ⟨#[100, 101, 108, 101, 116, 101]⟩
def bClear : ByteArray := ⟨#[99, 108, 101, 97, 114]⟩
def bTo : ByteArray := ⟨#[116, 111]⟩
def stmtW (s : GStmt) : List ByteArray := if s.fKind = 1 then [bInsert, s.fTable] ++ valW s.fRow.fVals else if s.fKind = 2 then [bUpdate, s.fTable] ++ (valW s.fKey ++ bTo :: valW s.fRow.fVals) else if s.fKind = 3 then [bDelete, s.fTable] ++ valW s.fKey else if s.fKind = 4 then [bClear, s.fTable] else ddlW s.fDdl
def stmtT (s : GStmt) : List UInt8 := if stmtOk s = true then wsT (stmtW s) else []
def bdS (s : GStmt) : Prop := s.fTable.size ≤ 1048576 ∧ bdD s.fDdl
theorem vals_ok {l : List GVal} (h : valsOk l = true) : 1 ≤ l.length ∧ l.length ≤ 8 := by
  simp only [valsOk, Bool.and_eq_true] at h
  have h1 := h.1
  simp only [within, Bool.and_eq_true, decide_eq_true_eq] at h1
  omega
theorem valW_ne {l : List GVal} (h : valsOk l = true) : valW l ≠ [] := by
  have := (vals_ok h).1
  rw [← valW_len] at this
  exact List.ne_nil_of_length_pos this
theorem stmt_kind {s : GStmt} (h : stmtOk s = true) : (s.fKind = 1 ∧ valsOk s.fRow.fVals = true) ∨ (s.fKind = 2 ∧ valsOk s.fKey = true ∧ valsOk s.fRow.fVals = true) ∨ (s.fKind = 3 ∧ valsOk s.fKey = true) ∨ s.fKind = 4 ∨ (s.fKind = 5 ∧ ddlOk s.fDdl = true) := by
  simp only [stmtOk, Bool.and_eq_true, Bool.or_eq_true, decide_eq_true_eq] at h
  rcases h.2 with (((h1 | h1) | h1) | h1) | h1
  · exact .inl ⟨h1.1, h1.2.1.2⟩
  · exact .inr (.inl ⟨h1.1, h1.2.1.1, h1.2.1.2⟩)
  · exact .inr (.inr (.inl ⟨h1.1, h1.2.1.1⟩))
  · exact .inr (.inr (.inr (.inl h1.1)))
  · exact .inr (.inr (.inr (.inr ⟨h1.1, h1.2.1.2⟩)))
theorem ws_small {l : List ByteArray} (h : ∀ w ∈ l, w.size ≤ 1048576) (hl : l.length ≤ 32) : (wsT l).length ≤ 1000000000 := by
  have h1 := wsT_le h
  have h2 : l.length * (1048576 + 1) ≤ 32 * (1048576 + 1) := Nat.mul_le_mul_right _ hl
  omega
theorem stmtT_len {s : GStmt} (h : stmtOk s = true) (hb : bdS s) : (wsT (stmtW s)).length ≤ 1099619000000 := by
  have hv : ∀ (l : List GVal), ∀ w ∈ valW l, w.size ≤ 1048576 := fun l w hw => by have := valW_size l w hw; omega
  unfold stmtW
  rcases stmt_kind h with ⟨k, v⟩ | ⟨k, v, v'⟩ | ⟨k, v⟩ | k | ⟨k, v⟩
  · rw [if_pos k]
    have := ws_small (l := [bInsert, s.fTable] ++ valW s.fRow.fVals) (fun w hw => by
      rcases List.mem_append.1 hw with hw | hw
      · simp only [List.mem_cons, List.not_mem_nil, or_false] at hw
        rcases hw with rfl | rfl
        · decide
        · exact hb.1
      · exact hv _ w hw) (by have := vals_ok v; simp [valW_len]; omega)
    omega
  · rw [if_neg (by omega), if_pos k]
    have := ws_small (l := [bUpdate, s.fTable] ++ (valW s.fKey ++ bTo :: valW s.fRow.fVals)) (fun w hw => by
      rcases List.mem_append.1 hw with hw | hw
      · simp only [List.mem_cons, List.not_mem_nil, or_false] at hw
        rcases hw with rfl | rfl
        · decide
        · exact hb.1
      · rcases List.mem_append.1 hw with hw | hw
        · exact hv _ w hw
        · rcases List.mem_cons.1 hw with rfl | hw
          · decide
          · exact hv _ w hw) (by have := vals_ok v; have := vals_ok v'; simp [valW_len]; omega)
    omega
  · rw [if_neg (by omega), if_neg (by omega), if_pos k]
    have := ws_small (l := [bDelete, s.fTable] ++ valW s.fKey) (fun w hw => by
      rcases List.mem_append.1 hw with hw | hw
      · simp only [List.mem_cons, List.not_mem_nil, or_false] at hw
        rcases hw with rfl | rfl
        · decide
        · exact hb.1
      · exact hv _ w hw) (by have := vals_ok v; simp [valW_len]; omega)
    omega
  · rw [if_neg (by omega), if_neg (by omega), if_neg (by omega), if_pos k]
    have := ws_small (l := [bClear, s.fTable]) (fun w hw => by
      simp only [List.mem_cons, List.not_mem_nil, or_false] at hw
      rcases hw with rfl | rfl
      · decide
      · exact hb.1) (by simp)
    omega
  · rw [if_neg (by omega), if_neg (by omega), if_neg (by omega), if_neg (by omega)]
    exact ddlT_len v hb.2
set_option maxHeartbeats 8000000 in
set_option maxRecDepth 4000 in
theorem stmtTextI_ok (s : GStmt) (hs : okStmt s) (hb : bdS s) : VC Tryz.prog 71 [vStmt s] [(false, [(.s, .sc (.string (ofT (stmtT s))))])] := by
  obtain ⟨_, ht, hk, hr, hd, _⟩ := id hs
  refine vc_of_ew good hm [0,1,2,5,7,8,18,31,40] Tryz.func71 rfl (by kernel_rfl) (by kernel_rfl) rfl ?_
  simp [Tryz.f71, szMk]
  refine .of (stmtOkI_ok _ hs hb.2.2.2.2.2.2 hb.2.2.2.2.1) ?_
  simp [szMk]
  refine ⟨fun h => by simp [stmtT, h, ofT], fun h => ?_⟩
  have hT := stmtT_len h hb
  have hkd := stmt_kind h
  have v1 : s.fKind = 1 → valsOk s.fRow.fVals = true := fun k => by
    rcases hkd with h5 | h5 | h5 | h5 | h5 <;> first | exact h5.2 | (exfalso; omega)
  have v2 : s.fKind = 2 → valsOk s.fKey = true ∧ valsOk s.fRow.fVals = true := fun k => by
    rcases hkd with h5 | h5 | h5 | h5 | h5 <;> first | exact h5.2 | (exfalso; omega)
  have v3 : s.fKind = 3 → valsOk s.fKey = true := fun k => by
    rcases hkd with h5 | h5 | h5 | h5 | h5 <;> first | exact h5.2 | (exfalso; omega)
  have v5 : ¬ s.fKind = 1 → ¬ s.fKind = 2 → ¬ s.fKind = 3 → ¬ s.fKind = 4 → ddlOk s.fDdl = true := fun k1 k2 k3 k4 => by
    rcases hkd with h5 | h5 | h5 | h5 | h5 <;> first | exact h5.2 | (exfalso; omega)
  have htb := hb.1
  refine ⟨fun k => ?_, fun k1 => ⟨fun k => ?_, fun k2 => ⟨fun k => ?_, fun k3 => ⟨fun k => ?_, fun k4 => ?_⟩⟩⟩⟩
  · have e1 : wsT [bInsert, s.fTable, ofT (wsT (valW s.fRow.fVals))] = wsT (stmtW s) := by
      have := wsT_nest (A := [bInsert, s.fTable]) (by simp) (valW_ne (v1 k))
      simpa [stmtW, k] using this
    refine .of (valsI_ok _ (by have := vals_ok (v1 k); omega)) ?_
    simp
    refine .of (gluedI_ok [bInsert, s.fTable, ofT (wsT (valW s.fRow.fVals))] (by simp) (by rw [e1]; omega)) ?_
    simp [stmtT, h, e1]
  · have e2 : wsT [bUpdate, s.fTable, ofT (wsT (valW s.fKey)), bTo, ofT (wsT (valW s.fRow.fVals))] = wsT (stmtW s) := by
      cases hK : valW s.fKey with
      | nil => exact absurd hK (valW_ne (v2 k).1)
      | cons a r =>
        cases hR : valW s.fRow.fVals with
        | nil => exact absurd hR (valW_ne (v2 k).2)
        | cons b q => simp [stmtW, k, hK, hR, wsT, joinT]
    refine .of (valsI_ok _ (by have := vals_ok (v2 k).1; omega)) ?_
    simp
    refine .of (valsI_ok _ (by have := vals_ok (v2 k).2; omega)) ?_
    simp
    refine .of (gluedI_ok [bUpdate, s.fTable, ofT (wsT (valW s.fKey)), bTo, ofT (wsT (valW s.fRow.fVals))] (by simp) (by rw [e2]; omega)) ?_
    simp [stmtT, h, e2]
  · have e3 : wsT [bDelete, s.fTable, ofT (wsT (valW s.fKey))] = wsT (stmtW s) := by
      have := wsT_nest (A := [bDelete, s.fTable]) (by simp) (valW_ne (v3 k))
      simpa [stmtW, k] using this
    refine .of (valsI_ok _ (by have := vals_ok (v3 k); omega)) ?_
    simp
    refine .of (gluedI_ok [bDelete, s.fTable, ofT (wsT (valW s.fKey))] (by simp) (by rw [e3]; omega)) ?_
    simp [stmtT, h, e3]
  · exact ⟨by omega, tx_ext (by simp [stmtT, h, stmtW, k, bClear, wsT, joinT])⟩
  · refine .of (ddlTextI_ok _ hd hb.2) ?_
    simp [stmtT, h, stmtW, k1, k2, k3, k4, ddlT, v5 k1 k2 k3 k4]
set_option maxHeartbeats 8000000 in
set_option maxRecDepth 4000 in
theorem stmtTextS_ok (s : GStmt) (hs : okStmt s) (hb : bdS s) : VC Tryz.prog 68 [vStmt s] [(false, [(.s, .sc (.string (ofT (stmtT s))))])] := by
  obtain ⟨_, ht, hk, hr, hd, _⟩ := id hs
  refine vc_of_ew good hm [0,1,2,6,8,9,20,3,38,48] Tryz.func68 rfl (by kernel_rfl) (by kernel_rfl) rfl ?_
  simp [Tryz.f68, szMk]
  refine .of (stmtOkS_ok _ hs) ?_
  simp [szMk]
  refine ⟨fun h => by simp [stmtT, h, ofT], fun h => ?_⟩
  have hT := stmtT_len h hb
  have hkd := stmt_kind h
  have v1 : s.fKind = 1 → valsOk s.fRow.fVals = true := fun k => by
    rcases hkd with h5 | h5 | h5 | h5 | h5 <;> first | exact h5.2 | (exfalso; omega)
  have v2 : s.fKind = 2 → valsOk s.fKey = true ∧ valsOk s.fRow.fVals = true := fun k => by
    rcases hkd with h5 | h5 | h5 | h5 | h5 <;> first | exact h5.2 | (exfalso; omega)
  have v3 : s.fKind = 3 → valsOk s.fKey = true := fun k => by
    rcases hkd with h5 | h5 | h5 | h5 | h5 <;> first | exact h5.2 | (exfalso; omega)
  have v5 : ¬ s.fKind = 1 → ¬ s.fKind = 2 → ¬ s.fKind = 3 → ¬ s.fKind = 4 → ddlOk s.fDdl = true := fun k1 k2 k3 k4 => by
    rcases hkd with h5 | h5 | h5 | h5 | h5 <;> first | exact h5.2 | (exfalso; omega)
  have htb := hb.1
  refine ⟨fun k => ?_, fun k1 => ⟨fun k => ?_, fun k2 => ⟨fun k => ?_, fun k3 => ⟨fun k => ?_, fun k4 => ?_⟩⟩⟩⟩
  · have e1 : stmtW s = [bInsert, s.fTable] ++ valW s.fRow.fVals := by simp [stmtW, k]
    have hv := vals_ok (v1 k)
    have hvl := valW_len s.fRow.fVals
    refine .of (valsS_ok _ (by omega)) ?_
    simp [mStrS]
    refine ⟨by omega, .of (joinS_ok ([bInsert, s.fTable] ++ valW s.fRow.fVals) (by simp; omega) (by rw [← e1]; omega)) ?_⟩
    simp [stmtT, h, e1]
  · have e2 : stmtW s = ([bUpdate, s.fTable] ++ valW s.fKey) ++ bTo :: valW s.fRow.fVals := by simp [stmtW, k]
    have hv := vals_ok (v2 k).1
    have hv' := vals_ok (v2 k).2
    have hvl := valW_len s.fRow.fVals
    have hkl := valW_len s.fKey
    refine .of (valsS_ok _ (by omega)) ?_
    simp [mStrS]
    refine ⟨by omega, by omega, .of (valsS_ok _ (by omega)) ?_⟩
    simp [mStrS]
    have e2' : stmtW s = [bUpdate, s.fTable] ++ (valW s.fKey ++ bTo :: valW s.fRow.fVals) := by simp [stmtW, k]
    have hj := joinS_ok ([bUpdate, s.fTable] ++ (valW s.fKey ++ bTo :: valW s.fRow.fVals)) (by simp; omega) (by rw [← e2']; omega)
    simp only [vStrS, List.map_append, List.map_cons, List.cons_append, List.nil_append, List.map_nil] at hj
    refine ⟨by omega, .of hj ?_⟩
    simp [stmtT, h, e2']
  · have e3 : stmtW s = [bDelete, s.fTable] ++ valW s.fKey := by simp [stmtW, k]
    have hv := vals_ok (v3 k)
    have hvl := valW_len s.fKey
    refine .of (valsS_ok _ (by omega)) ?_
    simp [mStrS]
    refine ⟨by omega, .of (joinS_ok ([bDelete, s.fTable] ++ valW s.fKey) (by simp; omega) (by rw [← e3]; omega)) ?_⟩
    simp [stmtT, h, e3]
  · exact ⟨by omega, tx_ext (by simp [stmtT, h, stmtW, k, bClear, wsT, joinT])⟩
  · refine .of (ddlTextS_ok _ hd hb.2) ?_
    simp [stmtT, h, stmtW, k1, k2, k3, k4, ddlT, v5 k1 k2 k3 k4]

end Go.Proofs.YtkciklpdhhcblaaGreat
