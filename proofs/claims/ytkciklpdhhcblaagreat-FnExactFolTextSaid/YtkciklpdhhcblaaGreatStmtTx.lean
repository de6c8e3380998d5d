import Derived.Test.YtkciklpdhhcblaaGreatWords
import Derived.Test.YtkciklpdhhcblaaGreatRec
namespace Go.Proofs.YtkciklpdhhcblaaGreat
open Go Go.Proofs Go.Sm
attribute [local simp] ti eStr eInt eByte eVal cVal vVal eCol cCol vCol eColS vColS eStrS vStrS eTable cTable vTable eTableS vTableS eCat cCat vCat eValS vValS eRow cRow vRow eRowS vRowS eRows cRows vRows eRowsS vRowsS eDb cDb vDb eDdl cDdl vDdl eFol cFol vFol eStmt cStmt vStmt eRec cRec vRec eSnap cSnap vSnap eRecS vRecS eTail cTail vTail
set_option linter.unusedVariables false
set_option linter.unusedSimpArgs false


theorem wsT_app {A B : List ByteArray} (hA : A ≠ []) (hB : B ≠ []) : wsT (A ++ B) = wsT A ++ 32 :: wsT B := by
  cases A with
  | nil => exact absurd rfl hA
  | cons a A =>
    cases B with
    | nil => exact absurd rfl hB
    | cons b B => simp [wsT, joinT]
def bCreate : ByteArray := ⟨#[99, 114, 101, 97, 116, 101]⟩
def bDrop : ByteArray := ⟨#[100, 114, 111, 112]⟩
def bAdd : ByteArray := ⟨#[97, 100, 100]⟩
def bOut : ByteArray := ⟨#[111, 117, 116]⟩
def bName : ByteArray := ⟨#[110, 97, 109, 101]⟩
def bKey : ByteArray := ⟨#[107, 101, 121]⟩
def b40 : ByteArray := ⟨#[40]⟩
def b41 : ByteArray := ⟨#[41]⟩
def ddlL : List ByteArray := [⟨#[]⟩, bCreate, bDrop, bAdd, bOut, bName]
def colsW (l : List GCol) : List ByteArray := l.flatMap fun c => b40 :: (colW c ++ [b41])
theorem colsW_take {l : List GCol} {i : Nat} (h : i < l.length) : colsW (l.take (i + 1)) = colsW (l.take i) ++ b40 :: (colW (l[i]?.getD dCol) ++ [b41]) := by
  unfold colsW
  rw [List.take_succ_eq_append_getElem h, List.getElem?_eq_getElem h, List.flatMap_append]
  simp
theorem colsW_len (l : List GCol) : (colsW l).length ≤ l.length * 6 := by
  induction l with
  | nil => simp [colsW]
  | cons c l ih =>
    have := colW_len c
    simp only [colsW, List.flatMap_cons, List.length_append, List.length_cons, List.length_nil] at ih ⊢
    omega
def ddlW (d : GDdl) : List ByteArray := [ddlL[d.fKind.toNat]?.getD ⟨#[]⟩, d.fTable] ++ (if d.fKind = 1 then colsW d.fCols ++ bKey :: d.fKeys else if d.fKind = 3 then colW (d.fCols[0]?.getD dCol) else if d.fKind = 4 then [d.fName] else if d.fKind = 5 then [d.fName, d.fTo] else [])
def ddlT (d : GDdl) : List UInt8 := if ddlOk d = true then wsT (ddlW d) else []
theorem ddl_kind {d : GDdl} (h : ddlOk d = true) : d.fKind = 1 ∨ d.fKind = 2 ∨ d.fKind = 3 ∨ d.fKind = 4 ∨ d.fKind = 5 := by
  simp [ddlOk] at h
  omega
theorem ddl_cols {d : GDdl} (h : ddlOk d = true) (k : d.fKind = 1) : d.fCols.length ≤ 8 ∧ ∀ i, i < d.fCols.length → colOk (d.fCols[i]?.getD dCol) = true := by
  have ht : tableOk (madeT d) = true := by
    simp [ddlOk, k] at h
    exact h.2.1
  simp only [tableOk, Bool.and_eq_true, colsTo, List.all_eq_true, List.mem_range] at ht
  have h8 := ht.1.2.1
  simp [within, madeT] at h8
  have h9 := of_decide_eq_true h8.2
  refine ⟨by omega, fun i hi => ?_⟩
  have := ht.2.1 i hi
  simp only [colsOkAt, Bool.and_eq_true] at this
  exact this.1
theorem ddl_add {d : GDdl} (h : ddlOk d = true) (k : d.fKind = 3) : d.fCols.length = 1 ∧ colOk (d.fCols[0]?.getD dCol) = true := by
  simp [ddlOk, k, addOk] at h
  exact ⟨by omega, h.2.1.2.1⟩
set_option maxHeartbeats 8000000 in
set_option maxRecDepth 4000 in
theorem ddlWS_ok (d : GDdl) (hd : okDdl d) (h : ddlOk d = true) (hk : d.fKeys.length ≤ 1048576) : VC Tryz.prog 111 [vDdl d] [(false, mStrS (ddlW d))] := by
  have hkd := ddl_kind h
  have hl6 : ddlL.length = 6 := rfl
  refine vc_of_ew good hm [0,1,2,3,15,16,19,20,21,22,5,40,49,56] Tryz.func111 rfl (by kernel_rfl) (by kernel_rfl) rfl ?_
  rcases hkd with k | k | k | k | k
  · simp [Tryz.f111, md, lf, List.range', k]
    have hc := ddl_cols h k
    refine ew_loop (fun E => ∃ i : Nat, i ≤ d.fCols.length ∧ E = { nt := 66, sl := [(1, .p (.bx 1 0)), (3, .v false [.r [13]]), (19, vColS d.fCols), (20, int .i64 d.fCols.length), (21, int .i64 i)], bx := [(1, cDdl d)], rt := (mStrS ([bCreate, d.fTable] ++ colsW (d.fCols.take i))).map fun y => (13, y) }) (fun E => d.fCols.length - (E.num 21).toNat) _ (Gh.kb _ [1,3,19,20,21] [1] [13]) ⟨0, by omega, by simp [k, mStrS, bCreate, colsW]⟩ ?_
    rintro E1 ⟨i, hi, rfl⟩
    have hcl := colsW_len (d.fCols.take i)
    rw [List.length_take] at hcl
    simp [mStrS]
    refine ⟨fun hil => ⟨hil, ?_⟩, fun hil => ?_⟩
    · refine ⟨by omega, .of (colWS_ok _ (hd.2.2.1.2 _ (getD_mem dCol hil)) (hc.2 i hil)) ?_⟩
      have hw4 := colW_len (d.fCols[i]?.getD dCol)
      simp [mStrS]
      refine ⟨by omega, by omega, .of _ ((Gh.kb _ [1,3,19,20,21] [1] [32]).trans (Gh.rn _ 32 13)) ⟨i + 1, by omega, ?_⟩ ?_⟩
      · rw [colsW_take hil]
        simp [wrapS (show i < 9223372036854775807 by omega), mStrS, b40, b41]
      · simp [wrapS (show i < 9223372036854775807 by omega)]; omega
    · have hi' : i = d.fCols.length := by omega
      subst hi'
      refine ⟨by omega, by omega, ?_⟩
      simp [ddlW, ddlL, k, bKey]
  · simp [Tryz.f111, md, lf, List.range', k, mStrS, ddlW, ddlL, bDrop]
  · have ha := ddl_add h k
    simp [Tryz.f111, md, lf, List.range', k]
    refine ⟨by omega, .of (colWS_ok _ (hd.2.2.1.2 _ (getD_mem dCol (by omega))) ha.2) ?_⟩
    have hc4 := colW_len (d.fCols[0]?.getD dCol)
    simp [mStrS, ddlW, ddlL, bAdd, k]
    omega
  · simp [Tryz.f111, md, lf, List.range', k, mStrS, ddlW, ddlL, bOut]
  · simp [Tryz.f111, md, lf, List.range', k, mStrS, ddlW, ddlL, bName]
def bdD (d : GDdl) : Prop := d.fTable.size ≤ 1048576 ∧ d.fName.size ≤ 1048576 ∧ d.fTo.size ≤ 1048576 ∧ d.fKeys.length ≤ 1048576 ∧ (∀ k ∈ d.fKeys, k.size ≤ 1048576) ∧ d.fCols.length ≤ 1048576
theorem colsW_size {l : List GCol} (h : ∀ i, i < l.length → colOk (l[i]?.getD dCol) = true) : ∀ w ∈ colsW l, w.size ≤ 93 := by
  intro w hw
  obtain ⟨c, hc, hw⟩ := List.mem_flatMap.1 hw
  obtain ⟨i, hi, rfl⟩ := List.getElem_of_mem hc
  have hok := h i hi
  rw [List.getElem?_eq_getElem hi, Option.getD_some] at hok
  rcases List.mem_cons.1 hw with rfl | hw
  · decide
  · rcases List.mem_append.1 hw with hw | hw
    · exact colW_size hok w hw
    · rw [List.mem_singleton] at hw; subst hw; decide
theorem ddlL_size (k : Nat) : (ddlL[k]?.getD ⟨#[]⟩).size ≤ 6 := by
  rcases k with _ | _ | _ | _ | _ | _ | k <;> simp [ddlL] <;> decide
theorem ddlW_bd {d : GDdl} (h : ddlOk d = true) (hb : bdD d) : (ddlW d).length ≤ 1048676 ∧ ∀ w ∈ ddlW d, w.size ≤ 1048576 := by
  obtain ⟨b1, b2, b3, b4, b5, b6⟩ := hb
  have hkd := ddl_kind h
  have hL := ddlL_size d.fKind.toNat
  unfold ddlW
  rcases hkd with k | k | k | k | k
  · have hc := ddl_cols h k
    have hcl := colsW_len d.fCols
    rw [if_pos k]
    refine ⟨by simp; omega, fun w hw => ?_⟩
    rcases List.mem_append.1 hw with hw | hw
    · simp only [List.mem_cons, List.not_mem_nil, or_false] at hw
      rcases hw with rfl | rfl <;> omega
    · rcases List.mem_append.1 hw with hw | hw
      · have := colsW_size hc.2 w hw; omega
      · rcases List.mem_cons.1 hw with rfl | hw
        · decide
        · exact b5 w hw
  · rw [if_neg (by omega), if_neg (by omega), if_neg (by omega), if_neg (by omega)]
    refine ⟨by simp, fun w hw => ?_⟩
    simp only [List.append_nil, List.mem_cons, List.not_mem_nil, or_false] at hw
    rcases hw with rfl | rfl <;> omega
  · rw [if_neg (by omega), if_pos k]
    have hc4 := colW_len (d.fCols[0]?.getD dCol)
    refine ⟨by simp; omega, fun w hw => ?_⟩
    rcases List.mem_append.1 hw with hw | hw
    · simp only [List.mem_cons, List.not_mem_nil, or_false] at hw
      rcases hw with rfl | rfl <;> omega
    · have := colW_size (ddl_add h k).2 w hw; omega
  · rw [if_neg (by omega), if_neg (by omega), if_pos k]
    refine ⟨by simp, fun w hw => ?_⟩
    simp only [List.mem_append, List.mem_cons, List.not_mem_nil, or_false] at hw
    rcases hw with (rfl | rfl) | rfl <;> omega
  · rw [if_neg (by omega), if_neg (by omega), if_neg (by omega), if_pos k]
    refine ⟨by simp, fun w hw => ?_⟩
    simp only [List.mem_append, List.mem_cons, List.not_mem_nil, or_false] at hw
    rcases hw with (rfl | rfl) | rfl | rfl <;> omega
theorem ddlT_len {d : GDdl} (h : ddlOk d = true) (hb : bdD d) : (wsT (ddlW d)).length ≤ 1099619000000 := by
  obtain ⟨h1, h2⟩ := ddlW_bd h hb
  have h3 := wsT_le h2
  have h4 : (ddlW d).length * (1048576 + 1) ≤ 1048676 * (1048576 + 1) := Nat.mul_le_mul_right _ h1
  omega
set_option maxHeartbeats 4000000 in
theorem ddlTextS_ok (d : GDdl) (hd : okDdl d) (hb : bdD d) : VC Tryz.prog 67 [vDdl d] [(false, [(.s, .sc (.string (ofT (ddlT d))))])] := by
  refine vc_of_ew good hm [0,1,2,5] Tryz.func67 rfl (by kernel_rfl) (by kernel_rfl) rfl ?_
  simp [Tryz.f67]
  refine .of (ddlOkS_ok _ hd) ?_
  simp
  refine ⟨fun h => by simp [ddlT, h, ofT], fun h => .of (ddlWS_ok d hd h hb.2.2.2.1) ?_⟩
  simp [mStrS]
  have h1 := ddlT_len h hb
  refine .of (joinS_ok (ddlW d) (by have := (ddlW_bd h hb).1; omega) (by omega)) ?_
  simp [ddlT, h]
theorem wsT1 (a : ByteArray) : wsT [a] = tx a := by simp [wsT, joinT]
theorem wsT_cons (a : ByteArray) {B : List ByteArray} (hB : B ≠ []) : wsT (a :: B) = tx a ++ 32 :: wsT B := by
  rw [← wsT1 a, ← wsT_app (by simp) hB]; rfl
theorem colW_ne (c : GCol) : colW c ≠ [] := by simp [colW]
theorem ddl_keys {d : GDdl} (h : ddlOk d = true) (k : d.fKind = 1) : d.fKeys ≠ [] := by
  have ht : tableOk (madeT d) = true := by
    simp [ddlOk, k] at h
    exact h.2.1
  simp only [tableOk, Bool.and_eq_true] at ht
  have h9 := of_decide_eq_true ht.1.2.2
  exact List.ne_nil_of_length_pos h9
theorem wsT_nest {A B : List ByteArray} (hA : A ≠ []) (hB : B ≠ []) : wsT (A ++ [ofT (wsT B)]) = wsT (A ++ B) := by
  rw [wsT_app hA (by simp), wsT_app hA hB, wsT1, tx_ofT]
theorem colT_len (c : GCol) : (colT c).length ≤ 376 := by
  unfold colT
  split
  · rename_i h
    have h1 := wsT_le (colW_size h)
    have h3 : (colW c).length * (93 + 1) ≤ 4 * (93 + 1) := Nat.mul_le_mul_right _ (colW_len c)
    omega
  · simp
def crW (d : GDdl) (i : Nat) : List ByteArray := [bCreate, d.fTable] ++ colsW (d.fCols.take i)
theorem crW_ne (d : GDdl) (i : Nat) : crW d i ≠ [] := by simp [crW]
theorem crW_len {d : GDdl} (h : ddlOk d = true) (k : d.fKind = 1) (hb : d.fTable.size ≤ 1048576) (i : Nat) : (wsT (crW d i)).length ≤ 1000000000 := by
  have hc := ddl_cols h k
  have h1 : ∀ w ∈ crW d i, w.size ≤ 1048576 := fun w hw => by
    rcases List.mem_append.1 hw with hw | hw
    · simp only [List.mem_cons, List.not_mem_nil, or_false] at hw
      rcases hw with rfl | rfl
      · decide
      · exact hb
    · obtain ⟨c, hcm, hw⟩ := List.mem_flatMap.1 hw
      have := colsW_size hc.2 w (List.mem_flatMap.2 ⟨c, List.mem_of_mem_take hcm, hw⟩)
      omega
  have h2 := wsT_le h1
  have h3 := colsW_len (d.fCols.take i)
  rw [List.length_take] at h3
  have h4 : (crW d i).length ≤ 50 := by simp only [crW, List.length_append, List.length_cons, List.length_nil]; omega
  have h5 : (crW d i).length * (1048576 + 1) ≤ 50 * (1048576 + 1) := Nat.mul_le_mul_right _ h4
  omega
theorem crW_succ {d : GDdl} {i : Nat} (hi : i < d.fCols.length) (hok : colOk (d.fCols[i]?.getD dCol) = true) : wsT (crW d (i + 1)) = wsT (crW d i) ++ [32, 40, 32] ++ colT (d.fCols[i]?.getD dCol) ++ [32, 41] := by
  have e : crW d (i + 1) = crW d i ++ b40 :: (colW (d.fCols[i]?.getD dCol) ++ [b41]) := by
    unfold crW
    rw [colsW_take hi, List.append_assoc]
  rw [e, wsT_app (crW_ne d i) (by simp), wsT_cons b40 (by simp), wsT_app (colW_ne _) (by simp), wsT1]
  simp [colT, hok, b40, b41]
theorem ddlW_cr {d : GDdl} (h : ddlOk d = true) (k : d.fKind = 1) : wsT (ddlW d) = wsT (crW d d.fCols.length) ++ [32, 107, 101, 121, 32] ++ wsT d.fKeys := by
  have e : ddlW d = crW d d.fCols.length ++ bKey :: d.fKeys := by
    simp [ddlW, crW, k, ddlL]
  rw [e, wsT_app (crW_ne d _) (by simp), wsT_cons bKey (ddl_keys h k)]
  simp [bKey]
set_option maxHeartbeats 8000000 in
set_option maxRecDepth 4000 in
theorem ddlTextI_ok (d : GDdl) (hd : okDdl d) (hb : bdD d) : VC Tryz.prog 69 [vDdl d] [(false, [(.s, .sc (.string (ofT (ddlT d))))])] := by
  refine vc_of_ew good hm [0,1,2,8,10,11,3,17,18,19,20,5,36,41,52] Tryz.func69 rfl (by kernel_rfl) (by kernel_rfl) rfl ?_
  simp [Tryz.f69, szMk]
  refine .of (ddlOkI_ok _ hd hb.2.2.2.2.2 hb.2.2.2.1) ?_
  simp [szMk]
  refine ⟨fun h => by simp [ddlT, h, ofT], fun h => ?_⟩
  have hT := ddlT_len h hb
  have hkd := ddl_kind h
  obtain ⟨b1, b2, b3, b4, b5, b6⟩ := hb
  refine ⟨fun k => ⟨by omega, ?_⟩, fun k1 => ⟨fun k => ⟨by omega, ?_⟩, fun k2 => ⟨fun k => ⟨by have := (ddl_add h k).1; omega, .of (colTextI_ok _ (hd.2.2.1.2 _ (getD_mem dCol (by have := (ddl_add h k).1; omega)))) ?_⟩, fun k3 => ⟨fun k => ?_, fun k4 => ?_⟩⟩⟩⟩
  · have hc := ddl_cols h k
    refine ew_loop (fun E => ∃ i : Nat, i ≤ d.fCols.length ∧ E = { nt := 68, sl := [(1, .p (.bx 1 0)), (3, str (ofT (wsT (crW d i)))), (17, vColS d.fCols), (18, int .i64 d.fCols.length), (19, int .i64 i)], bx := [(1, cDdl d)], rt := [] }) (fun E => d.fCols.length - (E.num 19).toNat) _ (Gh.kb _ [1,3,17,18,19] [1] []) ⟨0, by omega, ?_⟩ ?_
    · simp [crW, colsW, wsT, joinT, bCreate]
      exact tx_ext (by simp)
    rintro E1 ⟨i, hi, rfl⟩
    have hp := crW_len h k b1 i
    simp [szMk]
    refine ⟨fun hil => ⟨hil, ?_⟩, fun hil => ?_⟩
    · refine ⟨by omega, .of (colTextI_ok _ (hd.2.2.1.2 _ (getD_mem dCol hil))) ?_⟩
      have hct := colT_len (d.fCols[i]?.getD dCol)
      simp [szMk]
      refine ⟨by omega, by omega, .of _ (Gh.kb _ [1,3,17,18,19] [1] []) ⟨i + 1, by omega, ?_⟩ ?_⟩
      · rw [crW_succ hil (hc.2 i hil)]
        simp [wrapS (show i < 9223372036854775807 by omega)]
        exact tx_ext (by simp)
      · simp [wrapS (show i < 9223372036854775807 by omega)]; omega
    · have hi' : i = d.fCols.length := by omega
      subst hi'
      have hkl := wsT_le b5
      have h9 : d.fKeys.length * (1048576 + 1) ≤ 1048576 * (1048576 + 1) := Nat.mul_le_mul_right _ b4
      refine ⟨by omega, .of (gluedI_ok d.fKeys (by omega) (by omega)) ?_⟩
      simp [szMk]
      exact ⟨by omega, tx_ext (by simp [ddlT, h, ddlW_cr h k])⟩
  · exact tx_ext (by simp [ddlT, h, ddlW, k, ddlL, bDrop, wsT, joinT])
  · simp
    have e3 : wsT [bAdd, d.fTable, ofT (colT (d.fCols[0]?.getD dCol))] = wsT (ddlW d) := by
      have := wsT_nest (A := [bAdd, d.fTable]) (by simp) (colW_ne (d.fCols[0]?.getD dCol))
      simp only [colT, (ddl_add h k).2, if_true]
      simpa [ddlW, k, ddlL] using this
    refine .of (gluedI_ok [bAdd, d.fTable, ofT (colT (d.fCols[0]?.getD dCol))] (by simp) (by rw [e3]; omega)) ?_
    simp [ddlT, h, e3]
  · have e4 : wsT [bOut, d.fTable, d.fName] = wsT (ddlW d) := by simp [ddlW, k, ddlL]
    refine .of (gluedI_ok [bOut, d.fTable, d.fName] (by simp) (by rw [e4]; omega)) ?_
    simp [ddlT, h, e4]
  · have k : d.fKind = 5 := by omega
    have e5 : wsT [bName, d.fTable, d.fName, d.fTo] = wsT (ddlW d) := by simp [ddlW, k, ddlL]
    refine .of (gluedI_ok [bName, d.fTable, d.fName, d.fTo] (by simp) (by rw [e5]; omega)) ?_
    simp [ddlT, h, e5]

end Go.Proofs.YtkciklpdhhcblaaGreat
