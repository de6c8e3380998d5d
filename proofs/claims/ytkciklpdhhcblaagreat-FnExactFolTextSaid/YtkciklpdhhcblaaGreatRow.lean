import Derived.Test.YtkciklpdhhcblaaGreatTable
namespace Go.Proofs.YtkciklpdhhcblaaGreat
open Go Go.Proofs Go.Sm
attribute [local simp] ti eStr eInt eByte eVal cVal vVal eCol cCol vCol eColS vColS eStrS vStrS eTable cTable vTable eTableS vTableS eCat cCat vCat eValS vValS eRow cRow vRow eRowS vRowS eRows cRows vRows eRowsS vRowsS eDb cDb vDb eDdl cDdl vDdl eFol cFol vFol eStmt cStmt vStmt eRec cRec vRec eSnap cSnap vSnap eRecS vRecS eTail cTail vTail
set_option linter.unusedVariables false
set_option linter.unusedSimpArgs false


def keyOf (t : GTable) (r : GRow) : List GVal := t.fKeys.map fun k => r.fVals[(colAt t k).toNat]?.getD dVal
def keysIn (t : GTable) (r : GRow) : Prop := ∀ k ∈ t.fKeys, 0 ≤ colAt t k ∧ colAt t k < r.fVals.length
def keyTo (t : GTable) (r : GRow) (i : Nat) : List GVal := (t.fKeys.take i).map fun k => r.fVals[(colAt t k).toNat]?.getD dVal
theorem keyTo_zero (t : GTable) (r : GRow) : keyTo t r 0 = [] := rfl
theorem keyTo_all (t : GTable) (r : GRow) : keyTo t r t.fKeys.length = keyOf t r := by simp [keyTo, keyOf]
theorem keyTo_len (t : GTable) (r : GRow) {i : Nat} (h : i ≤ t.fKeys.length) : (keyTo t r i).length = i := by simp [keyTo]; omega
theorem keyTo_succ (t : GTable) (r : GRow) {i : Nat} (h : i < t.fKeys.length) : keyTo t r (i + 1) = keyTo t r i ++ [r.fVals[(colAt t (t.fKeys[i]?.getD ⟨#[]⟩)).toNat]?.getD dVal] := by
  unfold keyTo
  rw [List.take_succ_eq_append_getElem h, List.map_append, List.getElem?_eq_getElem h]
  rfl
set_option maxHeartbeats 4000000 in
theorem keyS_ok (t : GTable) (r : GRow) (ht : okTable t) (hk : t.fKeys.length ≤ 1048576) (hin : keysIn t r) : VC Tryz.prog 161 [vTable t, vRow r] [(false, mValS (keyOf t r))] := by
  refine vc_of_ew good hm [0,1,2,3,4,5,10,11,12,13,7] Tryz.func161 rfl (by kernel_rfl) (by kernel_rfl) rfl ?_
  simp [Tryz.f161, mValS]
  refine ew_loop (fun E => ∃ i : Nat, i ≤ t.fKeys.length ∧ E = { nt := 28, sl := [(2, .p (.bx 2 0)), (3, .p (.bx 3 0)), (5, .v false [.r [8]]), (10, vStrS t.fKeys), (11, int .i64 t.fKeys.length), (12, int .i64 i)], bx := [(2, cTable t), (3, cRow r)], rt := [(8, .o 134 (fun _ => [.s, .s, .s]), .ls [.sc (.int .i64 0), .sc (.int .i64 0), .sc (.string ⟨#[]⟩)] ((keyTo t r i).map eVal))] }) (fun E => t.fKeys.length - (E.num 12).toNat) _ (Gh.kb _ [2,3,5,10,11,12] [2, 3] [8]) ⟨0, by omega, by simp [keyTo_zero]⟩ ?_
  rintro E1 ⟨i, hi, rfl⟩
  have hl := keyTo_len t r hi
  simp
  refine ⟨fun h => ⟨h, .of (colAtS_ok t _ ht.2.1.1) ?_⟩, fun h => ?_⟩
  · simp
    have hb := hin _ (getD_mem (⟨#[]⟩ : ByteArray) h)
    refine ⟨hb, by rw [hl]; omega, .of _ ((Gh.kb _ [2,3,5,10,11,12] [2, 3] [25]).trans (Gh.rn _ 25 8)) ⟨i + 1, by omega, ?_⟩ ?_⟩
    · simp [wrapS (show i < 9223372036854775807 by omega), keyTo_succ t r h]
    · simp [wrapS (show i < 9223372036854775807 by omega)]; omega
  · have : i = t.fKeys.length := by omega
    subst this
    rw [keyTo_all]
set_option maxHeartbeats 4000000 in
theorem keyI_ok (t : GTable) (r : GRow) (ht : okTable t) (hk : t.fKeys.length ≤ 1048576) (hin : keysIn t r) : VC Tryz.prog 167 [vTable t, vRow r] [(false, mValS (keyOf t r))] := by
  refine vc_of_ew good hm [0,1,2,3,4,5,10,11,12,13,7] Tryz.func167 rfl (by kernel_rfl) (by kernel_rfl) rfl ?_
  simp [Tryz.f167, mValS]
  refine ew_loop (fun E => ∃ i : Nat, i ≤ t.fKeys.length ∧ E = { nt := 28, sl := [(2, .p (.bx 2 0)), (3, .p (.bx 3 0)), (5, .v false [.r [8]]), (10, vStrS t.fKeys), (11, int .i64 t.fKeys.length), (12, int .i64 i)], bx := [(2, cTable t), (3, cRow r)], rt := [(8, .o 134 (fun _ => [.s, .s, .s]), .ls [.sc (.int .i64 0), .sc (.int .i64 0), .sc (.string ⟨#[]⟩)] ((keyTo t r i).map eVal))] }) (fun E => t.fKeys.length - (E.num 12).toNat) _ (Gh.kb _ [2,3,5,10,11,12] [2, 3] [8]) ⟨0, by omega, by simp [keyTo_zero]⟩ ?_
  rintro E1 ⟨i, hi, rfl⟩
  have hl := keyTo_len t r hi
  simp
  refine ⟨fun h => ⟨h, .of (colAtI_ok t _ ht.2.1.1) ?_⟩, fun h => ?_⟩
  · simp
    have hb := hin _ (getD_mem (⟨#[]⟩ : ByteArray) h)
    refine ⟨hb, by rw [hl]; omega, .of _ ((Gh.kb _ [2,3,5,10,11,12] [2, 3] [25]).trans (Gh.rn _ 25 8)) ⟨i + 1, by omega, ?_⟩ ?_⟩
    · simp [wrapS (show i < 9223372036854775807 by omega), keyTo_succ t r h]
    · simp [wrapS (show i < 9223372036854775807 by omega)]; omega
  · have : i = t.fKeys.length := by omega
    subst this
    rw [keyTo_all]
def veq (x y : GVal) : Bool := x.fTy == y.fTy && (x.fN == y.fN && x.fS.toList == y.fS.toList)
def keyLess : List GVal → List GVal → Bool
  | [], b => !b.isEmpty
  | _ :: _, [] => false
  | x :: a, y :: b => if veq x y = true then keyLess a b else valLess x y
theorem keyLess_at {a b : List GVal} {i : Nat} (h1 : i < a.length) (h2 : i < b.length) : keyLess (a.drop i) (b.drop i) = if veq (a[i]?.getD dVal) (b[i]?.getD dVal) = true then keyLess (a.drop (i + 1)) (b.drop (i + 1)) else valLess (a[i]?.getD dVal) (b[i]?.getD dVal) := by
  rw [List.drop_eq_getElem_cons h1, List.drop_eq_getElem_cons h2, List.getElem?_eq_getElem h1, List.getElem?_eq_getElem h2]
  rfl
theorem keyLess_end {a b : List GVal} {i : Nat} (h1 : i ≤ a.length) (h2 : i ≤ b.length) (h : ¬ (i < a.length ∧ i < b.length)) : keyLess (a.drop i) (b.drop i) = decide (a.length < b.length) := by
  by_cases h3 : i < a.length
  · have : b.length = i := by omega
    rw [List.drop_eq_getElem_cons h3, List.drop_eq_nil_of_le (by omega : b.length ≤ i)]
    simp [keyLess]
    omega
  · rw [List.drop_eq_nil_of_le (by omega : a.length ≤ i)]
    simp only [keyLess]
    rw [Bool.eq_iff_iff]
    simp
    omega
set_option maxHeartbeats 4000000 in
theorem keyLessS_ok (a b : List GVal) (ha : okM a.length) (hb : okM b.length) : VC Tryz.prog 160 [vValS a, vValS b] [(false, [(.s, .sc (.bool (keyLess a b)))])] := by
  unfold okM at ha hb
  refine vc_of_ew good hm [0,1,4,5,15,26] Tryz.func160 rfl (by kernel_rfl) (by kernel_rfl) rfl ?_
  simp [Tryz.f160]
  refine ew_loop (fun E => ∃ i : Nat, i ≤ a.length ∧ i ≤ b.length ∧ keyLess (a.drop i) (b.drop i) = keyLess a b ∧ E = { nt := 41, sl := [(0, vValS a), (1, vValS b), (5, int .i64 i)], bx := [], rt := [] }) (fun E => a.length - (E.num 5).toNat) _ (Gh.kb _ [0,1,5] [] []) ⟨0, by omega, by omega, rfl, by simp⟩ ?_
  rintro E1 ⟨i, hi, hj, hall, rfl⟩
  simp
  have hE : ¬ (i < a.length ∧ i < b.length) → (decide (a.length < b.length)) = keyLess a b := fun h => by
    rw [← hall, keyLess_end hi hj h]
  refine ⟨fun h1 h2 => ⟨h1, h2, fun hne => ⟨h1, h2, .of (valLessS_ok _ _) ?_⟩, fun e1 e2 e3 => .of _ (Gh.kb _ [0,1,5] [] []) ⟨i + 1, by omega, by omega, ?_, ?_⟩ ?_⟩, fun h => ?_⟩
  · simp
    rw [← hall, keyLess_at h1 h2, if_neg]
    simp only [veq, Bool.and_eq_true, beq_iff_eq]
    grind
  · rw [← hall, keyLess_at h1 h2, if_pos]
    simp [veq, e1, e2, e3]
  · simp [wrapS (show i < 9223372036854775807 by omega)]
  · simp [wrapS (show i < 9223372036854775807 by omega)]; omega
  · exact hE (by omega)
set_option maxHeartbeats 4000000 in
theorem keyLessI_ok (a b : List GVal) (ha : okM a.length) (hb : okM b.length) : VC Tryz.prog 166 [vValS a, vValS b] [(false, [(.s, .sc (.bool (keyLess a b)))])] := by
  unfold okM at ha hb
  refine vc_of_ew good hm [0,1,4,5,15,26] Tryz.func166 rfl (by kernel_rfl) (by kernel_rfl) rfl ?_
  simp [Tryz.f166]
  refine ew_loop (fun E => ∃ i : Nat, i ≤ a.length ∧ i ≤ b.length ∧ keyLess (a.drop i) (b.drop i) = keyLess a b ∧ E = { nt := 41, sl := [(0, vValS a), (1, vValS b), (5, int .i64 i)], bx := [], rt := [] }) (fun E => a.length - (E.num 5).toNat) _ (Gh.kb _ [0,1,5] [] []) ⟨0, by omega, by omega, rfl, by simp⟩ ?_
  rintro E1 ⟨i, hi, hj, hall, rfl⟩
  simp
  have hE : ¬ (i < a.length ∧ i < b.length) → (decide (a.length < b.length)) = keyLess a b := fun h => by
    rw [← hall, keyLess_end hi hj h]
  refine ⟨fun h1 h2 => ⟨h1, h2, fun hne => ⟨h1, h2, .of (valLessI_ok _ _) ?_⟩, fun e1 e2 e3 => .of _ (Gh.kb _ [0,1,5] [] []) ⟨i + 1, by omega, by omega, ?_, ?_⟩ ?_⟩, fun h => ?_⟩
  · simp
    rw [← hall, keyLess_at h1 h2, if_neg]
    simp only [veq, Bool.and_eq_true, beq_iff_eq]
    grind
  · rw [← hall, keyLess_at h1 h2, if_pos]
    simp [veq, e1, e2, e3]
  · simp [wrapS (show i < 9223372036854775807 by omega)]
  · simp [wrapS (show i < 9223372036854775807 by omega)]; omega
  · exact hE (by omega)
def stands (c : GCol) (v : GVal) : Bool := valOk v && (decide (v.fTy = c.fTy) || (decide (v.fTy = 0) && !c.fNot))
def fits (c : GCol) (v : GVal) : Bool := if v.fTy = 0 then valOk v && !c.fNot else valOk v && decide (v.fTy = c.fTy)
theorem fits_eq {c : GCol} (h : colOk c = true) (v : GVal) : fits c v = stands c v := by
  have : 1 ≤ c.fTy := by
    simp only [colOk, within, Bool.and_eq_true, decide_eq_true_eq] at h
    exact h.1.2.1
  unfold fits stands
  grind
set_option maxHeartbeats 4000000 in
theorem fits_ok (c : GCol) (v : GVal) : VC Tryz.prog 213 [vCol c, vVal v] [(false, [(.s, .sc (.bool (fits c v)))])] := by
  refine vc_of_ew good hm [0,1,2,3,4,7] Tryz.func213 rfl (by kernel_rfl) (by kernel_rfl) rfl ?_
  simp [Tryz.f213, beqI]
  refine ⟨fun h => .of (valOkS_ok v) ?_, fun h => .of (valOkS_ok v) ?_⟩
  · simp
    grind [fits]
  · simp [beqI]
    grind [fits]
set_option maxHeartbeats 4000000 in
theorem stands_ok (c : GCol) (v : GVal) : VC Tryz.prog 215 [vCol c, vVal v] [(false, [(.s, .sc (.bool (stands c v)))])] := by
  refine vc_of_ew good hm [0,1,2,3,4] Tryz.func215 rfl (by kernel_rfl) (by kernel_rfl) rfl ?_
  simp [Tryz.f215, beqI]
  refine .of (valOkI_ok v) ?_
  simp [beqI]
  grind [stands]
def rowAt (t : GTable) (r : GRow) (i : Nat) : Bool := stands (t.fCols[i]?.getD dCol) (r.fVals[i]?.getD dVal)
def rowTo (t : GTable) (r : GRow) (n : Nat) : Bool := (List.range n).all (rowAt t r)
def rowFit (t : GTable) (r : GRow) : Bool := decide (r.fVals.length = t.fCols.length) && rowTo t r r.fVals.length
theorem tableOk_col {t : GTable} (h : tableOk t = true) {i : Nat} (hi : i < t.fCols.length) : colOk (t.fCols[i]?.getD dCol) = true := by
  simp only [tableOk, colsTo, Bool.and_eq_true, List.all_eq_true, List.mem_range] at h
  have := h.2.1 i hi
  simp only [colsOkAt, Bool.and_eq_true] at this
  exact this.1
theorem tableOk_keys {t : GTable} (h : tableOk t = true) {r : GRow} (hr : rowFit t r = true) : keysIn t r := by
  intro k hk
  simp only [tableOk, keysTo, Bool.and_eq_true, List.all_eq_true, List.mem_range] at h
  obtain ⟨j, hj, rfl⟩ := List.getElem_of_mem hk
  have h1 := h.2.2 j hj
  have h2 := lastK_ge t j
  have hb := idxF_bd (fun c : GCol => c.fName.toList == (t.fKeys[j]).toList) t.fCols
  rw [show idxF (fun c : GCol => c.fName.toList == (t.fKeys[j]).toList) t.fCols = colAt t (t.fKeys[j]) from rfl] at hb
  simp only [keyOkAt, Bool.and_eq_true, decide_eq_true_eq, List.getElem?_eq_getElem hj, Option.getD_some] at h1
  simp only [rowFit, Bool.and_eq_true, decide_eq_true_eq] at hr
  omega
theorem rowFit_no {t : GTable} {r : GRow} {i : Nat} (hi : i < r.fVals.length) (h : rowAt t r i = false) : rowFit t r = false := by
  simp [rowFit, rowTo, rangeAll_no hi h]
set_option maxHeartbeats 8000000 in
theorem rowOkS_ok (t : GTable) (r : GRow) (ht : okTable t) (hr : okM r.fVals.length) : VC Tryz.prog 159 [vTable t, vRow r] [(false, [(.s, .sc (.bool (tableOk t && rowFit t r)))])] := by
  have hcl : t.fCols.length ≤ 9223372036854775807 := ht.2.1.1
  refine vc_of_ew good hm [0,1,2,3,4,18,20,21,22,23,6,5,34] Tryz.func159 rfl (by kernel_rfl) (by kernel_rfl) rfl ?_
  simp [Tryz.f159]
  refine .of (tableOkS_ok t ht) ?_
  simp
  refine ⟨fun h h1 => by grind [rowFit], fun h1 h2 => ?_⟩
  have h2' : r.fVals.length = t.fCols.length := by omega
  refine ew_loop (fun E => ∃ i : Nat, i ≤ t.fCols.length ∧ rowTo t r i = true ∧ E = { nt := 36, sl := [(3, .p (.bx 3 0)), (20, vColS t.fCols), (21, int .i64 t.fCols.length), (22, int .i64 i)], bx := [(3, cRow r)], rt := [] }) (fun E => t.fCols.length - (E.num 22).toNat) _ (Gh.kb _ [3,20,21,22] [3] []) ⟨0, by omega, by simp [rowTo], by simp⟩ ?_
  rintro E1 ⟨i, hi, hall, rfl⟩
  simp
  refine ⟨fun h => ⟨h, by omega, .of (fits_ok _ _) ?_⟩, fun h => ?_⟩
  · simp
    rw [fits_eq (tableOk_col h1 h)]
    have hat : rowAt t r i = stands (t.fCols[i]?.getD dCol) (r.fVals[i]?.getD dVal) := rfl
    refine ⟨fun hb => by rw [rowFit_no (by omega) (hat.trans hb)]; simp, fun hb => .of _ (Gh.kb _ [3,20,21,22] [3] []) ⟨i + 1, by omega, ?_, ?_⟩ ?_⟩
    · rw [rowTo, rangeAll_succ]; unfold rowTo at hall; grind
    · simp [wrapS (show i < 9223372036854775807 by omega)]
    · simp [wrapS (show i < 9223372036854775807 by omega)]; omega
  · have : i = t.fCols.length := by omega
    subst this
    rw [← h2'] at hall
    simp [rowFit, h1, h2', hall]
    rwa [h2'] at hall
set_option maxHeartbeats 8000000 in
theorem rowOkI_ok (t : GTable) (r : GRow) (ht : okTable t) (hr : okM r.fVals.length) : VC Tryz.prog 165 [vTable t, vRow r] [(false, [(.s, .sc (.bool (rowFit t r)))])] := by
  have hcl : r.fVals.length ≤ 9223372036854775807 := hr
  refine vc_of_ew good hm [0,1,2,3,4,13,15,16,17,18,6,5,29] Tryz.func165 rfl (by kernel_rfl) (by kernel_rfl) rfl ?_
  simp [Tryz.f165]
  refine ⟨fun h => by grind [rowFit], fun h2 => ?_⟩
  have h2' : r.fVals.length = t.fCols.length := by omega
  refine ew_loop (fun E => ∃ i : Nat, i ≤ r.fVals.length ∧ rowTo t r i = true ∧ E = { nt := 31, sl := [(2, .p (.bx 2 0)), (15, vValS r.fVals), (16, int .i64 r.fVals.length), (17, int .i64 i)], bx := [(2, cTable t)], rt := [] }) (fun E => r.fVals.length - (E.num 17).toNat) _ (Gh.kb _ [2,15,16,17] [2] []) ⟨0, by omega, by simp [rowTo], by simp⟩ ?_
  rintro E1 ⟨i, hi, hall, rfl⟩
  simp
  refine ⟨fun h => ⟨h, by omega, .of (stands_ok _ _) ?_⟩, fun h => ?_⟩
  · simp
    have hat : rowAt t r i = stands (t.fCols[i]?.getD dCol) (r.fVals[i]?.getD dVal) := rfl
    refine ⟨fun hb => by rw [rowFit_no h (hat.trans hb)], fun hb => .of _ (Gh.kb _ [2,15,16,17] [2] []) ⟨i + 1, by omega, ?_, ?_⟩ ?_⟩
    · rw [rowTo, rangeAll_succ]; unfold rowTo at hall; grind
    · simp [wrapS (show i < 9223372036854775807 by omega)]
    · simp [wrapS (show i < 9223372036854775807 by omega)]; omega
  · have : i = r.fVals.length := by omega
    subst this
    simp [rowFit, h2']
    rwa [h2'] at hall
def rowsAt (t : GTable) (l : List GRow) (i : Nat) : Bool := rowFit t (l[i]?.getD dRow) && !(decide (0 < i) && !keyLess (keyOf t (l[i-1]?.getD dRow)) (keyOf t (l[i]?.getD dRow)))
def rowsTo (t : GTable) (l : List GRow) (n : Nat) : Bool := (List.range n).all (rowsAt t l)
def rowsOk (t : GTable) (l : List GRow) : Bool := tableOk t && (decide ((l.length : Int) ≤ 60) && rowsTo t l l.length)
theorem rowsTo_at {t : GTable} {l : List GRow} {n i : Nat} (h : rowsTo t l n = true) (hi : i < n) : rowFit t (l[i]?.getD dRow) = true := by
  simp only [rowsTo, List.all_eq_true, List.mem_range] at h
  have := h i hi
  simp only [rowsAt, Bool.and_eq_true] at this
  exact this.1
theorem rowsOk_no {t : GTable} {l : List GRow} {i : Nat} (hi : i < l.length) (h : rowsAt t l i = false) : rowsOk t l = false := by
  simp [rowsOk, rowsTo, rangeAll_no hi h]
theorem keyOf_len (t : GTable) (r : GRow) : (keyOf t r).length = t.fKeys.length := by simp [keyOf]
set_option maxHeartbeats 8000000 in
set_option maxRecDepth 4000 in
theorem rowsOkS_ok (t : GTable) (l : List GRow) (ht : okTable t) (hl : okRowS l) (hk : t.fKeys.length ≤ 1048576) : VC Tryz.prog 105 [vTable t, vRowS l] [(false, [(.s, .sc (.bool (rowsOk t l)))])] := by
  have hll : l.length ≤ 9223372036854775807 := hl.1
  refine vc_of_ew good hm [0,1,2,4,14,15,16,17,18,6,5,43] Tryz.func105 rfl (by kernel_rfl) (by kernel_rfl) rfl ?_
  simp [Tryz.f105]
  refine .of (tableOkS_ok t ht) ?_
  simp
  refine ⟨fun h => by grind [rowsOk], fun h1 h2 => ?_⟩
  refine ew_loop (fun E => ∃ i : Nat, i ≤ l.length ∧ rowsTo t l i = true ∧ E = { nt := 45, sl := [(1, vRowS l), (2, .p (.bx 2 0)), (15, vRowS l), (16, int .i64 l.length), (17, int .i64 i)], bx := [(2, cTable t)], rt := [] }) (fun E => l.length - (E.num 17).toNat) _ (Gh.kb _ [1,2,15,16,17] [2] []) ⟨0, by omega, by simp [rowsTo], by simp⟩ ?_
  rintro E1 ⟨i, hi, hall, rfl⟩
  have hw : 0 < i → IntKind.i64.wrap ((i : Int) - 1) = ((i - 1 : Nat) : Int) := fun h0 => wrapP h0 (by omega)
  simp
  refine ⟨fun h => ⟨h, .of (rowOkS_ok t _ ht (hl.2 _ (getD_mem dRow h)).1.1) ?_⟩, fun h => ?_⟩
  · simp [h1]
    have hbnd : 0 < i → 0 ≤ IntKind.i64.wrap ((i : Int) - 1) ∧ IntKind.i64.wrap ((i : Int) - 1) < l.length := fun h0 => by rw [hw h0]; omega
    have hprev : 0 < i → rowFit t (l[(IntKind.i64.wrap ((i : Int) - 1)).toNat]?.getD dRow) = true := fun h0 => by
      rw [hw h0, Int.toNat_natCast]
      exact rowsTo_at hall (by omega)
    refine ⟨by grind, .of (fun g => ⟨g, keyS_ok t _ ht hk (tableOk_keys h1 (hprev g.2))⟩) ?_⟩
    simp [mValS]
    refine .of (fun g => ⟨g, keyS_ok t (l[i]?.getD dRow) ht hk (tableOk_keys h1 (by grind))⟩) ?_
    simp [mValS]
    refine .of (fun g => ⟨by grind, keyLessS_ok (keyOf t _) (keyOf t _) (by rw [keyOf_len]; exact ht.2.2.1.1) (by rw [keyOf_len]; exact ht.2.2.1.1)⟩) ?_
    simp
    have hat : rowsAt t l i = (rowFit t (l[i]?.getD dRow) && (decide (i = 0) || keyLess (keyOf t (l[(IntKind.i64.wrap ((i : Int) - 1)).toNat]?.getD dRow)) (keyOf t (l[i]?.getD dRow)))) := by
      unfold rowsAt
      rcases Nat.eq_zero_or_pos i with h0 | h0
      · simp [h0]
      · rw [hw h0]; simp [Nat.ne_of_gt h0]; simp [h0]
    refine ⟨by grind, fun hb => rowsOk_no h (by grind), fun g1 g2 => .of _ (Gh.kb _ [1,2,15,16,17] [2] []) ⟨i + 1, by omega, ?_, ?_⟩ ?_⟩
    · rw [rowsTo, rangeAll_succ]; unfold rowsTo at hall; grind
    · simp [wrapS (show i < 9223372036854775807 by omega)]
    · simp [wrapS (show i < 9223372036854775807 by omega)]; omega
  · have : i = l.length := by omega
    subst this
    grind [rowsOk]
set_option maxHeartbeats 8000000 in
set_option maxRecDepth 4000 in
theorem rowsOkI_ok (t : GTable) (l : List GRow) (ht : okTable t) (hl : okRowS l) (hk : t.fKeys.length ≤ 1048576) : VC Tryz.prog 108 [vTable t, vRowS l] [(false, [(.s, .sc (.bool (rowsOk t l)))])] := by
  have hll : l.length ≤ 9223372036854775807 := hl.1
  refine vc_of_ew good hm [0,1,2,4,14,15,16,17,18,6,5,43] Tryz.func108 rfl (by kernel_rfl) (by kernel_rfl) rfl ?_
  simp [Tryz.f108]
  refine .of (tableOkI_ok t ht) ?_
  simp
  refine ⟨fun h => by grind [rowsOk], fun h1 h2 => ?_⟩
  refine ew_loop (fun E => ∃ i : Nat, i ≤ l.length ∧ rowsTo t l i = true ∧ E = { nt := 45, sl := [(1, vRowS l), (2, .p (.bx 2 0)), (15, vRowS l), (16, int .i64 l.length), (17, int .i64 i)], bx := [(2, cTable t)], rt := [] }) (fun E => l.length - (E.num 17).toNat) _ (Gh.kb _ [1,2,15,16,17] [2] []) ⟨0, by omega, by simp [rowsTo], by simp⟩ ?_
  rintro E1 ⟨i, hi, hall, rfl⟩
  have hw : 0 < i → IntKind.i64.wrap ((i : Int) - 1) = ((i - 1 : Nat) : Int) := fun h0 => wrapP h0 (by omega)
  simp
  refine ⟨fun h => ⟨h, .of (rowOkI_ok t _ ht (hl.2 _ (getD_mem dRow h)).1.1) ?_⟩, fun h => ?_⟩
  · simp [h1]
    have hbnd : 0 < i → 0 ≤ IntKind.i64.wrap ((i : Int) - 1) ∧ IntKind.i64.wrap ((i : Int) - 1) < l.length := fun h0 => by rw [hw h0]; omega
    have hprev : 0 < i → rowFit t (l[(IntKind.i64.wrap ((i : Int) - 1)).toNat]?.getD dRow) = true := fun h0 => by
      rw [hw h0, Int.toNat_natCast]
      exact rowsTo_at hall (by omega)
    refine ⟨by grind, .of (fun g => ⟨g, keyI_ok t _ ht hk (tableOk_keys h1 (hprev g.2))⟩) ?_⟩
    simp [mValS]
    refine .of (fun g => ⟨g, keyI_ok t (l[i]?.getD dRow) ht hk (tableOk_keys h1 (by grind))⟩) ?_
    simp [mValS]
    refine .of (fun g => ⟨by grind, keyLessI_ok (keyOf t _) (keyOf t _) (by rw [keyOf_len]; exact ht.2.2.1.1) (by rw [keyOf_len]; exact ht.2.2.1.1)⟩) ?_
    simp
    have hat : rowsAt t l i = (rowFit t (l[i]?.getD dRow) && (decide (i = 0) || keyLess (keyOf t (l[(IntKind.i64.wrap ((i : Int) - 1)).toNat]?.getD dRow)) (keyOf t (l[i]?.getD dRow)))) := by
      unfold rowsAt
      rcases Nat.eq_zero_or_pos i with h0 | h0
      · simp [h0]
      · rw [hw h0]; simp [Nat.ne_of_gt h0]; simp [h0]
    refine ⟨by grind, fun hb => rowsOk_no h (by grind), fun g1 g2 => .of _ (Gh.kb _ [1,2,15,16,17] [2] []) ⟨i + 1, by omega, ?_, ?_⟩ ?_⟩
    · rw [rowsTo, rangeAll_succ]; unfold rowsTo at hall; grind
    · simp [wrapS (show i < 9223372036854775807 by omega)]
    · simp [wrapS (show i < 9223372036854775807 by omega)]; omega
  · have : i = l.length := by omega
    subst this
    grind [rowsOk]
def catAt (l : List GTable) (i : Nat) : Bool := tableOk (l[i]?.getD dTable) && !(decide (0 < i) && geq (l[i-1]?.getD dTable).fName (l[i]?.getD dTable).fName)
def catTo (l : List GTable) (n : Nat) : Bool := (List.range n).all (catAt l)
def catOk (c : GCat) : Bool := catTo c.fTables c.fTables.length && decide ((c.fTables.length : Int) ≤ 6)
theorem catOk_no {c : GCat} {i : Nat} (hi : i < c.fTables.length) (h : catAt c.fTables i = false) : catOk c = false := by
  simp [catOk, catTo, rangeAll_no hi h]
theorem cat_hat (l : List GTable) (i : Nat) (hw : 0 < i → IntKind.i64.wrap ((i : Int) - 1) = ((i - 1 : Nat) : Int)) : catAt l i = (tableOk (l[i]?.getD dTable) && (decide (i = 0) || Op.bytesLess (l[(IntKind.i64.wrap ((i : Int) - 1)).toNat]?.getD dTable).fName.toList (l[i]?.getD dTable).fName.toList)) := by
  unfold catAt geq
  rcases Nat.eq_zero_or_pos i with h0 | h0
  · simp [h0]
  · rw [hw h0]; simp [Nat.ne_of_gt h0]; simp [h0]
set_option maxHeartbeats 8000000 in
set_option maxRecDepth 4000 in
theorem catOkS_ok (c : GCat) (hc : okCat c) : VC Tryz.prog 104 [vCat c] [(false, [(.s, .sc (.bool (catOk c)))])] := by
  have hll : c.fTables.length ≤ 9223372036854775807 := hc.1.1
  refine vc_of_ew good hm [0,1,2,8,10,11,12,13,4,3,35] Tryz.func104 rfl (by kernel_rfl) (by kernel_rfl) rfl ?_
  simp [Tryz.f104]
  refine ⟨fun h => by grind [catOk], fun h2 => ?_⟩
  refine ew_loop (fun E => ∃ i : Nat, i ≤ c.fTables.length ∧ catTo c.fTables i = true ∧ E = { nt := 37, sl := [(1, .p (.bx 1 0)), (10, vTableS c.fTables), (11, int .i64 c.fTables.length), (12, int .i64 i)], bx := [(1, cCat c)], rt := [] }) (fun E => c.fTables.length - (E.num 12).toNat) _ (Gh.kb _ [1,10,11,12] [1] []) ⟨0, by omega, by simp [catTo], by simp⟩ ?_
  rintro E1 ⟨i, hi, hall, rfl⟩
  have hw : 0 < i → IntKind.i64.wrap ((i : Int) - 1) = ((i - 1 : Nat) : Int) := fun h0 => wrapP h0 (by omega)
  simp
  refine ⟨fun h => ⟨h, .of (tableOkS_ok _ (hc.1.2 _ (getD_mem dTable h))) ?_⟩, fun h => ?_⟩
  · simp
    have hbnd : 0 < i → 0 ≤ IntKind.i64.wrap ((i : Int) - 1) ∧ IntKind.i64.wrap ((i : Int) - 1) < c.fTables.length := fun h0 => by rw [hw h0]; omega
    have hat := cat_hat c.fTables i hw
    refine ⟨by grind, by grind, fun hb => catOk_no h (by grind), fun g1 g2 => .of _ (Gh.kb _ [1,10,11,12] [1] []) ⟨i + 1, by omega, ?_, ?_⟩ ?_⟩
    · rw [catTo, rangeAll_succ]; unfold catTo at hall; grind
    · simp [wrapS (show i < 9223372036854775807 by omega)]
    · simp [wrapS (show i < 9223372036854775807 by omega)]; omega
  · have : i = c.fTables.length := by omega
    subst this
    grind [catOk]
set_option maxHeartbeats 8000000 in
set_option maxRecDepth 4000 in
theorem catOkI_ok (c : GCat) (hc : okCat c) : VC Tryz.prog 107 [vCat c] [(false, [(.s, .sc (.bool (catOk c)))])] := by
  have hll : c.fTables.length ≤ 9223372036854775807 := hc.1.1
  refine vc_of_ew good hm [0,1,2,6,7,8,9,4,3,31] Tryz.func107 rfl (by kernel_rfl) (by kernel_rfl) rfl ?_
  simp [Tryz.f107]
  refine ew_loop (fun E => ∃ i : Nat, i ≤ c.fTables.length ∧ catTo c.fTables i = true ∧ E = { nt := 37, sl := [(1, .p (.bx 1 0)), (6, vTableS c.fTables), (7, int .i64 c.fTables.length), (8, int .i64 i)], bx := [(1, cCat c)], rt := [] }) (fun E => c.fTables.length - (E.num 8).toNat) _ (Gh.kb _ [1,6,7,8] [1] []) ⟨0, by omega, by simp [catTo], by simp⟩ ?_
  rintro E1 ⟨i, hi, hall, rfl⟩
  have hw : 0 < i → IntKind.i64.wrap ((i : Int) - 1) = ((i - 1 : Nat) : Int) := fun h0 => wrapP h0 (by omega)
  simp
  refine ⟨fun h => ⟨h, .of (tableOkI_ok _ (hc.1.2 _ (getD_mem dTable h))) ?_⟩, fun h => ?_⟩
  · simp
    have hbnd : 0 < i → 0 ≤ IntKind.i64.wrap ((i : Int) - 1) ∧ IntKind.i64.wrap ((i : Int) - 1) < c.fTables.length := fun h0 => by rw [hw h0]; omega
    have hat := cat_hat c.fTables i hw
    refine ⟨by grind, by grind, fun hb => catOk_no h (by grind), fun g1 g2 => .of _ (Gh.kb _ [1,6,7,8] [1] []) ⟨i + 1, by omega, ?_, ?_⟩ ?_⟩
    · rw [catTo, rangeAll_succ]; unfold catTo at hall; grind
    · simp [wrapS (show i < 9223372036854775807 by omega)]
    · simp [wrapS (show i < 9223372036854775807 by omega)]; omega
  · have : i = c.fTables.length := by omega
    subst this
    grind [catOk]
def dbAt (d : GDb) (i : Nat) : Bool := rowsOk (d.fCat.fTables[i]?.getD dTable) (d.fData[i]?.getD dRows).fRows
def dbTo (d : GDb) (n : Nat) : Bool := (List.range n).all (dbAt d)
def dbOk (d : GDb) : Bool := catOk d.fCat && (decide ((d.fData.length : Int) = d.fCat.fTables.length) && dbTo d d.fCat.fTables.length)
theorem dbOk_no {d : GDb} {i : Nat} (hi : i < d.fCat.fTables.length) (h : dbAt d i = false) : dbOk d = false := by
  simp [dbOk, dbTo, rangeAll_no hi h]
set_option maxHeartbeats 8000000 in
set_option maxRecDepth 4000 in
theorem dbOkS_ok (d : GDb) (hd : okDb d) (hs : ∀ t ∈ d.fCat.fTables, t.fKeys.length ≤ 1048576) : VC Tryz.prog 61 [vDb d] [(false, [(.s, .sc (.bool (dbOk d)))])] := by
  have hll : d.fCat.fTables.length ≤ 9223372036854775807 := hd.1.1.1
  refine vc_of_ew good hm [0,1,2,18,21,22,23,24,4,3,36] Tryz.func61 rfl (by kernel_rfl) (by kernel_rfl) rfl ?_
  simp [Tryz.f61]
  refine .of (catOkS_ok d.fCat hd.1) ?_
  simp
  refine ⟨fun h => by grind [dbOk], fun h1 h2 => ?_⟩
  refine ew_loop (fun E => ∃ i : Nat, i ≤ d.fCat.fTables.length ∧ dbTo d i = true ∧ E = { nt := 38, sl := [(1, .p (.bx 1 0)), (21, vTableS d.fCat.fTables), (22, int .i64 d.fCat.fTables.length), (23, int .i64 i)], bx := [(1, cDb d)], rt := [] }) (fun E => d.fCat.fTables.length - (E.num 23).toNat) _ (Gh.kb _ [1,21,22,23] [1] []) ⟨0, by omega, by simp [dbTo], by simp⟩ ?_
  rintro E1 ⟨i, hi, hall, rfl⟩
  simp
  refine ⟨fun h => ⟨h, by omega, .of (rowsOkS_ok (d.fCat.fTables[i]?.getD dTable) (d.fData[i]?.getD dRows).fRows (hd.1.1.2 _ (getD_mem dTable h)) (hd.2.1.2 _ (getD_mem dRows (by omega))).1 (hs _ (getD_mem dTable h))) ?_⟩, fun h => ?_⟩
  · simp
    have hat : dbAt d i = rowsOk (d.fCat.fTables[i]?.getD dTable) (d.fData[i]?.getD dRows).fRows := rfl
    refine ⟨fun hb => by rw [dbOk_no h (hat.trans hb)], fun hb => .of _ (Gh.kb _ [1,21,22,23] [1] []) ⟨i + 1, by omega, ?_, ?_⟩ ?_⟩
    · rw [dbTo, rangeAll_succ]; unfold dbTo at hall; grind
    · simp [wrapS (show i < 9223372036854775807 by omega)]
    · simp [wrapS (show i < 9223372036854775807 by omega)]; omega
  · have : i = d.fCat.fTables.length := by omega
    subst this
    grind [dbOk]
set_option maxHeartbeats 8000000 in
set_option maxRecDepth 4000 in
theorem dbOkI_ok (d : GDb) (hd : okDb d) (hs : ∀ t ∈ d.fCat.fTables, t.fKeys.length ≤ 1048576) : VC Tryz.prog 64 [vDb d] [(false, [(.s, .sc (.bool (dbOk d)))])] := by
  have hll : d.fCat.fTables.length ≤ 9223372036854775807 := hd.1.1.1
  refine vc_of_ew good hm [0,1,2,18,21,22,23,24,4,3,36] Tryz.func64 rfl (by kernel_rfl) (by kernel_rfl) rfl ?_
  simp [Tryz.f64]
  refine .of (catOkI_ok d.fCat hd.1) ?_
  simp
  refine ⟨fun h => by grind [dbOk], fun h1 h2 => ?_⟩
  refine ew_loop (fun E => ∃ i : Nat, i ≤ d.fCat.fTables.length ∧ dbTo d i = true ∧ E = { nt := 38, sl := [(1, .p (.bx 1 0)), (21, vTableS d.fCat.fTables), (22, int .i64 d.fCat.fTables.length), (23, int .i64 i)], bx := [(1, cDb d)], rt := [] }) (fun E => d.fCat.fTables.length - (E.num 23).toNat) _ (Gh.kb _ [1,21,22,23] [1] []) ⟨0, by omega, by simp [dbTo], by simp⟩ ?_
  rintro E1 ⟨i, hi, hall, rfl⟩
  simp
  refine ⟨fun h => ⟨h, by omega, .of (rowsOkI_ok (d.fCat.fTables[i]?.getD dTable) (d.fData[i]?.getD dRows).fRows (hd.1.1.2 _ (getD_mem dTable h)) (hd.2.1.2 _ (getD_mem dRows (by omega))).1 (hs _ (getD_mem dTable h))) ?_⟩, fun h => ?_⟩
  · simp
    have hat : dbAt d i = rowsOk (d.fCat.fTables[i]?.getD dTable) (d.fData[i]?.getD dRows).fRows := rfl
    refine ⟨fun hb => by rw [dbOk_no h (hat.trans hb)], fun hb => .of _ (Gh.kb _ [1,21,22,23] [1] []) ⟨i + 1, by omega, ?_, ?_⟩ ?_⟩
    · rw [dbTo, rangeAll_succ]; unfold dbTo at hall; grind
    · simp [wrapS (show i < 9223372036854775807 by omega)]
    · simp [wrapS (show i < 9223372036854775807 by omega)]; omega
  · have : i = d.fCat.fTables.length := by omega
    subst this
    grind [dbOk]
def folOk (f : GFol) : Bool := dbOk f.fDb && (within f.fAt 0 400 && decide (0 ≤ f.fHalt))
set_option maxHeartbeats 8000000 in
theorem folOkS_ok (f : GFol) (hf : okFol f) (hs : ∀ t ∈ f.fDb.fCat.fTables, t.fKeys.length ≤ 1048576) : VC Tryz.prog 34 [vFol f] [(false, [(.s, .sc (.bool (folOk f)))])] := by
  refine vc_of_ew good hm [0,1,2] Tryz.func34 rfl (by kernel_rfl) (by kernel_rfl) rfl ?_
  simp [Tryz.f34]
  refine .of (dbOkS_ok f.fDb hf.1 hs) ?_
  simp
  grind [folOk, within]
set_option maxHeartbeats 8000000 in
theorem folOkI_ok (f : GFol) (hf : okFol f) (hs : ∀ t ∈ f.fDb.fCat.fTables, t.fKeys.length ≤ 1048576) : VC Tryz.prog 37 [vFol f] [(false, [(.s, .sc (.bool (folOk f)))])] := by
  refine vc_of_ew good hm [0,1,2] Tryz.func37 rfl (by kernel_rfl) (by kernel_rfl) rfl ?_
  simp [Tryz.f37]
  refine .of (dbOkI_ok f.fDb hf.1 hs) ?_
  simp
  refine .of (fun h => ⟨h, within_ok _ _ _⟩) ?_
  simp
  grind [folOk, within]
theorem folB {f : GFol} (hs : ∀ n ∈ wFol f, n ≤ 1048576) : ∀ t ∈ f.fDb.fCat.fTables, t.fKeys.length ≤ 1048576 := fun t ht => hs _ (by
  simp only [wFol, wDb, wCat, wTableS, List.append_nil]
  refine List.mem_append_left _ (List.mem_cons_of_mem _ (List.mem_flatMap.2 ⟨t, ht, ?_⟩))
  simp [wTable, wStrS])
theorem S_FolOk_ok (f : GFol) (o0 : okFol f) (hs : ∀ n ∈ wFol f, n ≤ 1048576) (_ : (wFol f).sum ≤ 1048576) : VC Tryz.prog 34 [vFol f] [(false, [(.s, .sc (.bool (folOk f)))])] := folOkS_ok f o0 (folB hs)
theorem I_FolOk_ok (f : GFol) (o0 : okFol f) (hs : ∀ n ∈ wFol f, n ≤ 1048576) (_ : (wFol f).sum ≤ 1048576) : VC Tryz.prog 37 [vFol f] [(false, [(.s, .sc (.bool (folOk f)))])] := folOkI_ok f o0 (folB hs)

end Go.Proofs.YtkciklpdhhcblaaGreat
