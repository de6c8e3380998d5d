/- The types of the seat YtkciklpdhhcblaaGreat and the contracts of the laws' own functions over them; printed by gen_ty.py. -/
import Derived.Test.YtkciklpdhhcblaaGreatTi
import Derived.Test.YtkciklpdhhcblaaGreatSm22
namespace Go.Proofs.YtkciklpdhhcblaaGreat
open Go Go.Proofs Go.Sm
attribute [local simp] ti
set_option linter.unusedVariables false
set_option linter.unusedSimpArgs false

def wStr (s : ByteArray) : List Nat := [s.size]
def okStr (s : ByteArray) : Prop := okM s.size
theorem okw_Str (x : ByteArray) (h : okStr x) : ∀ n ∈ wStr x, okM n := by
  intro n hn
  rcases List.mem_singleton.1 hn with rfl
  exact h
theorem fit_Str (ls : List Lf) (h : Fit ti ck 9 ls) : ∃ x : ByteArray, ls = eStr x ∧ okStr x := by
  obtain ⟨x, r, rfl, h1, h2⟩ := All2.cons_inv h
  obtain rfl := All2.nil_inv h2
  obtain ⟨s, rfl, hs⟩ := h1.str_inv
  exact ⟨s, rfl, hs⟩
def okInt (n : Int) : Prop := okI n
theorem fit_Int (ls : List Lf) (h : Fit ti ck 3 ls) : ∃ x : Int, ls = eInt x ∧ okInt x := by
  obtain ⟨x, r, rfl, h1, h2⟩ := All2.cons_inv h
  obtain rfl := All2.nil_inv h2
  obtain ⟨s, rfl, hs⟩ := h1.int_inv
  exact ⟨s, rfl, okI_wf hs⟩

/-! ### Val -/
structure GVal where
  fTy : Int
  fN : Int
  fS : ByteArray
def eVal (x : GVal) : List Lf := [.sc (.int .i64 x.fTy), .sc (.int .i64 x.fN), .sc (.string x.fS)]
def cVal (x : GVal) : List LV := [.s (.sc (.int .i64 x.fTy)), .s (.sc (.int .i64 x.fN)), .s (.sc (.string x.fS))]
def vVal (x : GVal) : SV := .v true [.s (.sc (.int .i64 x.fTy)), .s (.sc (.int .i64 x.fN)), .s (.sc (.string x.fS))]
def dVal : GVal := ⟨0, 0, ⟨#[]⟩⟩
@[simp] theorem row_Val (l : List GVal) (i : Nat) : (Option.map eVal l[i]?).getD [.sc (.int .i64 0), .sc (.int .i64 0), .sc (.string ⟨#[]⟩)] = eVal (l[i]?.getD dVal) := by cases l[i]? <;> rfl
def wVal (x : GVal) : List Nat := x.fS.size :: ([])
def okVal (x : GVal) : Prop := okI x.fTy ∧ okI x.fN ∧ okM x.fS.size ∧ True
theorem okw_Val (x : GVal) (h : okVal x) : ∀ n ∈ wVal x, okM n := by
  obtain ⟨h0, h1, h2, _⟩ := h
  intro n hn
  simp only [wVal, List.mem_cons, List.mem_append, List.not_mem_nil, or_false, false_or] at hn
  rcases hn with rfl
  · exact h2
theorem fit_Val (ls : List Lf) (h : Fit ti ck 228 ls) : ∃ x : GVal, ls = eVal x ∧ okVal x := by
  obtain ⟨c0, r0, rfl, h0, g0⟩ := All2.cons_inv h
  obtain ⟨a0, rfl, b0⟩ := h0.int_inv
  obtain ⟨c1, r1, rfl, h1, g1⟩ := All2.cons_inv g0
  obtain ⟨a1, rfl, b1⟩ := h1.int_inv
  obtain ⟨c2, r2, rfl, h2, g2⟩ := All2.cons_inv g1
  obtain ⟨a2, rfl, b2⟩ := h2.str_inv
  obtain rfl := All2.nil_inv g2
  exact ⟨⟨a0, a1, a2⟩, rfl, ⟨okI_wf b0, okI_wf b1, b2, trivial⟩⟩
def mVal (x : GVal) : ML := [(.s, .sc (.int .i64 x.fTy)), (.s, .sc (.int .i64 x.fN)), (.s, .sc (.string x.fS))]
set_option maxHeartbeats 1000000 in
set_option maxRecDepth 8000 in
theorem szVal_ok (x : GVal) (left : Int) (h0 : 0 ≤ left) (h1 : left ≤ 1048576) (hs : ∀ n ∈ wVal x, okM n) : VC Tryz.prog 201 [vVal x, int .i64 left] [(false, [(.s, .sc (.int .i64 (szL (wVal x) left)))])] := by
  refine vc_of_ew good hm [0,1,2,4,11] Tryz.func201 rfl (by kernel_rfl) (by kernel_rfl) rfl ?_
  simp [Tryz.f201, vVal]
  have hb0 : x.fS.size ≤ 9223372036854775807 := hs _ (by simp [wVal])
  rw [wrapI (i := left - (x.fS.size : Nat)) (by omega) (by omega)]
  by_cases hn : (left - (x.fS.size : Nat)) < 0
  · have e : szL (wVal x) left = -1 := by rw [wVal, szL, if_pos hn]
    rw [e]
    try omega
  · have e : szL (wVal x) left = (left - (x.fS.size : Nat)) := by rw [wVal, szL, if_neg hn]; rfl
    rw [e]
    try omega
set_option maxHeartbeats 1000000 in
set_option maxRecDepth 8000 in
theorem toVal_ok (x : GVal) (hs : ∀ n ∈ wVal x, n ≤ 1048576) : VC Tryz.prog 204 [vVal x] [(true, mVal x)] := by
  refine vc_of_ew good hm [0,1,2,3] Tryz.func204 rfl (by kernel_rfl) (by kernel_rfl) rfl ?_
  simp [Tryz.f204, vVal, mVal]
set_option maxHeartbeats 1000000 in
set_option maxRecDepth 8000 in
theorem eqVal_ok (x : GVal) (hs : ∀ n ∈ wVal x, n ≤ 1048576) : VC Tryz.prog 212 [vVal x, vVal x] [(false, [(.s, .sc (.bool true))])] := by
  refine vc_of_ew good hm [0,1,2,3,4,9,14,19] Tryz.func212 rfl (by kernel_rfl) (by kernel_rfl) rfl ?_
  simp [Tryz.f212, vVal]

/-! ### Col -/
structure GCol where
  fName : ByteArray
  fTy : Int
  fNot : Bool
  fHas : Bool
  fDef : GVal
def eCol (x : GCol) : List Lf := [.sc (.string x.fName), .sc (.int .i64 x.fTy), .sc (.bool x.fNot), .sc (.bool x.fHas), .sc (.int .i64 x.fDef.fTy), .sc (.int .i64 x.fDef.fN), .sc (.string x.fDef.fS)]
def cCol (x : GCol) : List LV := [.s (.sc (.string x.fName)), .s (.sc (.int .i64 x.fTy)), .s (.sc (.bool x.fNot)), .s (.sc (.bool x.fHas)), .s (.sc (.int .i64 x.fDef.fTy)), .s (.sc (.int .i64 x.fDef.fN)), .s (.sc (.string x.fDef.fS))]
def vCol (x : GCol) : SV := .v true [.s (.sc (.string x.fName)), .s (.sc (.int .i64 x.fTy)), .s (.sc (.bool x.fNot)), .s (.sc (.bool x.fHas)), .s (.sc (.int .i64 x.fDef.fTy)), .s (.sc (.int .i64 x.fDef.fN)), .s (.sc (.string x.fDef.fS))]
def dCol : GCol := ⟨⟨#[]⟩, 0, false, false, ⟨0, 0, ⟨#[]⟩⟩⟩
@[simp] theorem row_Col (l : List GCol) (i : Nat) : (Option.map eCol l[i]?).getD [.sc (.string ⟨#[]⟩), .sc (.int .i64 0), .sc (.bool false), .sc (.bool false), .sc (.int .i64 0), .sc (.int .i64 0), .sc (.string ⟨#[]⟩)] = eCol (l[i]?.getD dCol) := by cases l[i]? <;> rfl
def wCol (x : GCol) : List Nat := x.fName.size :: (wVal x.fDef ++ ([]))
def okCol (x : GCol) : Prop := okM x.fName.size ∧ okI x.fTy ∧ okVal x.fDef ∧ True
theorem okw_Col (x : GCol) (h : okCol x) : ∀ n ∈ wCol x, okM n := by
  obtain ⟨h0, h1, h4, _⟩ := h
  intro n hn
  simp only [wCol, List.mem_cons, List.mem_append, List.not_mem_nil, or_false, false_or] at hn
  rcases hn with rfl | hn
  · exact h0
  · exact okw_Val _ h4 n hn
theorem fit_Col (ls : List Lf) (h : Fit ti ck 244 ls) : ∃ x : GCol, ls = eCol x ∧ okCol x := by
  obtain ⟨c0, r0, rfl, h0, g0⟩ := All2.cons_inv h
  obtain ⟨a0, rfl, b0⟩ := h0.str_inv
  obtain ⟨c1, r1, rfl, h1, g1⟩ := All2.cons_inv g0
  obtain ⟨a1, rfl, b1⟩ := h1.int_inv
  obtain ⟨c2, r2, rfl, h2, g2⟩ := All2.cons_inv g1
  obtain ⟨a2, rfl⟩ := h2.bool_inv
  obtain ⟨c3, r3, rfl, h3, g3⟩ := All2.cons_inv g2
  obtain ⟨a3, rfl⟩ := h3.bool_inv
  obtain ⟨c4, r4, rfl, h4, g4⟩ := All2.cons_inv g3
  obtain ⟨a4, rfl, b4⟩ := h4.int_inv
  obtain ⟨c5, r5, rfl, h5, g5⟩ := All2.cons_inv g4
  obtain ⟨a5, rfl, b5⟩ := h5.int_inv
  obtain ⟨c6, r6, rfl, h6, g6⟩ := All2.cons_inv g5
  obtain ⟨a6, rfl, b6⟩ := h6.str_inv
  obtain rfl := All2.nil_inv g6
  exact ⟨⟨a0, a1, a2, a3, ⟨a4, a5, a6⟩⟩, rfl, ⟨b0, okI_wf b1, ⟨okI_wf b4, okI_wf b5, b6, trivial⟩, trivial⟩⟩
def mCol (x : GCol) : ML := [(.s, .sc (.string x.fName)), (.s, .sc (.int .i64 x.fTy)), (.s, .sc (.bool x.fNot)), (.s, .sc (.bool x.fHas)), (.s, .sc (.int .i64 x.fDef.fTy)), (.s, .sc (.int .i64 x.fDef.fN)), (.s, .sc (.string x.fDef.fS))]
set_option maxHeartbeats 1000000 in
set_option maxRecDepth 8000 in
theorem szCol_ok (x : GCol) (left : Int) (h0 : 0 ≤ left) (h1 : left ≤ 1048576) (hs : ∀ n ∈ wCol x, okM n) : VC Tryz.prog 225 [vCol x, int .i64 left] [(false, [(.s, .sc (.int .i64 (szL (wCol x) left)))])] := by
  refine vc_of_ew good hm [0,1,2,4,11,17] Tryz.func225 rfl (by kernel_rfl) (by kernel_rfl) rfl ?_
  simp [Tryz.f225, vCol]
  have hb0 : x.fName.size ≤ 9223372036854775807 := hs _ (by simp [wCol])
  rw [wrapI (i := left - (x.fName.size : Nat)) (by omega) (by omega)]
  refine ⟨fun hn => ?_, fun hk0 => ?_⟩
  · have e : szL (wCol x) left = -1 := by rw [wCol, szL, if_pos (by omega)]
    rw [e]
    try omega
  have hq0 : ¬ (left - (x.fName.size : Nat)) < 0 := by omega
  have hz0 : 0 ≤ (left - (x.fName.size : Nat)) := by omega
  refine .of (szVal_ok x.fDef (left - (x.fName.size : Nat)) (by omega) (by omega) (fun n hn => hs n (by simp [wCol, hn]))) ?_
  simp
  have hb1 := szL_le' (l := wVal x.fDef) (left := (left - (x.fName.size : Nat))) (by omega)
  have hc1 := szL_neg (wVal x.fDef) (left - (x.fName.size : Nat)) (by omega)
  by_cases hn : (szL (wVal x.fDef) (left - (x.fName.size : Nat))) < 0
  · have e : szL (wCol x) left = -1 := by rw [wCol, szL, if_neg hq0, szL_app _ _ _ hz0, if_pos hn]
    rw [e]
    try omega
  · have e : szL (wCol x) left = (szL (wVal x.fDef) (left - (x.fName.size : Nat))) := by rw [wCol, szL, if_neg hq0, szL_app _ _ _ hz0, if_neg hn]; rfl
    rw [e]
    try omega
set_option maxHeartbeats 1000000 in
set_option maxRecDepth 8000 in
theorem toCol_ok (x : GCol) (hs : ∀ n ∈ wCol x, n ≤ 1048576) : VC Tryz.prog 226 [vCol x] [(true, mCol x)] := by
  refine vc_of_ew good hm [0,1,2,3] Tryz.func226 rfl (by kernel_rfl) (by kernel_rfl) rfl ?_
  simp [Tryz.f226, vCol, mCol]
  refine .of (toVal_ok x.fDef (fun n hn => hs n (by simp [wCol, hn]))) ?_
  simp [mVal]
set_option maxHeartbeats 1000000 in
set_option maxRecDepth 8000 in
theorem eqCol_ok (x : GCol) (hs : ∀ n ∈ wCol x, n ≤ 1048576) : VC Tryz.prog 241 [vCol x, vCol x] [(false, [(.s, .sc (.bool true))])] := by
  refine vc_of_ew good hm [0,1,2,3,4,9,14,19,24,30] Tryz.func241 rfl (by kernel_rfl) (by kernel_rfl) rfl ?_
  simp [Tryz.f241, vCol]
  refine .of (eqVal_ok x.fDef (fun n hn => hs n (by simp [wCol, hn]))) ?_
  simp

/-! ### []Col -/
abbrev GColS := List GCol
def eColS (l : List GCol) : List Lf := [.ls [.sc (.string ⟨#[]⟩), .sc (.int .i64 0), .sc (.bool false), .sc (.bool false), .sc (.int .i64 0), .sc (.int .i64 0), .sc (.string ⟨#[]⟩)] (l.map eCol)]
def vColS (l : List GCol) : SV := list [.sc (.string ⟨#[]⟩), .sc (.int .i64 0), .sc (.bool false), .sc (.bool false), .sc (.int .i64 0), .sc (.int .i64 0), .sc (.string ⟨#[]⟩)] (l.map eCol)
@[simp] theorem row_ColS (l : List (List GCol)) (i : Nat) : (Option.map eColS l[i]?).getD [.ls [.sc (.string ⟨#[]⟩), .sc (.int .i64 0), .sc (.bool false), .sc (.bool false), .sc (.int .i64 0), .sc (.int .i64 0), .sc (.string ⟨#[]⟩)] []] = eColS (l[i]?.getD []) := by cases l[i]? <;> rfl
def wColS (l : List GCol) : List Nat := l.length :: l.flatMap wCol
def okColS (l : List GCol) : Prop := okM l.length ∧ ∀ a ∈ l, okCol a
theorem okw_ColS (l : List GCol) (h : okColS l) : ∀ n ∈ wColS l, okM n := by
  intro n hn
  rcases List.mem_cons.1 hn with rfl | hn
  · exact h.1
  · obtain ⟨a, ha, hn⟩ := List.mem_flatMap.1 hn
    exact okw_Col a (h.2 a ha) n hn
theorem fit_ColS (ls : List Lf) (h : Fit ti ck 91 ls) : ∃ x : List GCol, ls = eColS x ∧ okColS x := by
  obtain ⟨x, r, rfl, h1, h2⟩ := All2.cons_inv h
  obtain rfl := All2.nil_inv h2
  obtain ⟨l, rfl, hl, hs⟩ := h1.list eCol okCol fit_Col
  exact ⟨l, rfl, hl, hs⟩
def mColS (x : List GCol) : ML := [(.o 136 (fun _ => [.s, .s, .s, .s, .s, .s, .s]), .ls [.sc (.string ⟨#[]⟩), .sc (.int .i64 0), .sc (.bool false), .sc (.bool false), .sc (.int .i64 0), .sc (.int .i64 0), .sc (.string ⟨#[]⟩)] (x.map eCol))]
@[simp] theorem ow_ColS (l : List GCol) : Ow (.o 136 (fun _ => [.s, .s, .s, .s, .s, .s, .s])) (.ls [.sc (.string ⟨#[]⟩), .sc (.int .i64 0), .sc (.bool false), .sc (.bool false), .sc (.int .i64 0), .sc (.int .i64 0), .sc (.string ⟨#[]⟩)] (l.map eCol)) = True := eq_true (Ow_rows (fun x j hj => match j, hj with | 0, _ => .sc | 1, _ => .sc | 2, _ => .sc | 3, _ => .sc | 4, _ => .sc | 5, _ => .sc | 6, _ => .sc | n + 7, hj => absurd hj (by simp)) l)
@[simp] theorem full_ColS (l : List GCol) : Full (.o 136 (fun _ => [.s, .s, .s, .s, .s, .s, .s])) (.ls [.sc (.string ⟨#[]⟩), .sc (.int .i64 0), .sc (.bool false), .sc (.bool false), .sc (.int .i64 0), .sc (.int .i64 0), .sc (.string ⟨#[]⟩)] (l.map eCol)) = True := eq_true (Full_rows (fun x j hj => match j, hj with | 0, _ => .s | 1, _ => .s | 2, _ => .s | 3, _ => .s | 4, _ => .s | 5, _ => .s | 6, _ => .s | n + 7, hj => absurd hj (by simp)) l)
set_option maxHeartbeats 1000000 in
set_option maxRecDepth 8000 in
theorem szColS_ok (x : List GCol) (left : Int) (h0 : 0 ≤ left) (h1 : left ≤ 1048576) (hs : ∀ n ∈ wColS x, okM n) : VC Tryz.prog 182 [vColS x, int .i64 left] [(false, [(.s, .sc (.int .i64 (szL (wColS x) left)))])] := by
  refine vc_of_ew good hm [0,1,4,11,5,15,25] Tryz.func182 rfl (by kernel_rfl) (by kernel_rfl) rfl ?_
  have hl : x.length ≤ 9223372036854775807 := hs _ (by simp [wColS])
  simp [Tryz.f182, vColS]
  rw [wrapI (i := left - x.length) (by omega) (by omega)]
  refine ⟨fun h => by simp [wColS, szL, h], fun hk => ?_⟩
  refine ew_loop (fun E => ∃ i : Nat, i ≤ x.length ∧ 0 ≤ szL ((x.take i).flatMap wCol) (left - x.length) ∧ E = { nt := 27, sl := [(0, vColS x), (1, int .i64 (szL ((x.take i).flatMap wCol) (left - x.length))), (5, int .i64 i)], bx := [], rt := [] }) (fun E => x.length - (E.num 5).toNat) _ (Gh.keep _ [0,1,5]) ⟨0, by omega, by simp [szL]; omega, by simp [szL, vColS]⟩ ?_
  rintro E1 ⟨i, hi, hr0, rfl⟩
  have hr1 := szL_le' (l := (x.take i).flatMap wCol) (left := left - x.length) (by omega)
  simp [vColS, eCol]
  refine ⟨fun h => ?_, fun h => ?_⟩
  · obtain ⟨q1, q2⟩ := szF_step wCol (dCol) h (by omega : 0 ≤ left - x.length) hr0
    have hm : ∀ n ∈ wCol (x[i]?.getD (dCol)), okM n := fun n hn => hs n (List.mem_cons_of_mem _ (mem_flat h hn))
    have hn1 := szL_neg (wCol (x[i]?.getD (dCol))) _ hr0
    refine ⟨h, .of (szCol_ok _ _ hr0 (by omega) hm) ?_⟩
    simp
    refine ⟨fun h2 => ?_, fun h2 => .of _ (Gh.keep _ [0,1,5]) ⟨i + 1, by omega, ?_, ?_⟩ ?_⟩
    · rw [wColS, szL, if_neg (by omega), q1 h2]
    · rw [q2]; exact h2
    · rw [q2]; simp [wrapS (show i < 9223372036854775807 by omega)]
    · simp [wrapS (show i < 9223372036854775807 by omega)]; omega
  · rw [wColS, szL, if_neg (by omega), List.take_of_length_le (by simpa using h)]
set_option maxHeartbeats 1000000 in
set_option maxRecDepth 8000 in
theorem toColS_ok (x : List GCol) (hs : ∀ n ∈ wColS x, n ≤ 1048576) : VC Tryz.prog 185 [vColS x] [(false, mColS x)] := by
  refine vc_of_ew good hm [0,2,3,4,11] Tryz.func185 rfl (by kernel_rfl) (by kernel_rfl) rfl ?_
  have hl : x.length ≤ 1048576 := hs _ (by simp [wColS])
  simp [Tryz.f185, vColS, mColS]
  refine ⟨by omega, ?_⟩
  refine ew_loop (fun E => ∃ i : Nat, i ≤ x.length ∧ E = { nt := 23, sl := [(0, vColS x), (3, .v false [.r [7]]), (4, int .i64 i)], bx := [], rt := [(7, .o 136 (fun _ => [.s, .s, .s, .s, .s, .s, .s]), .ls [.sc (.string ⟨#[]⟩), .sc (.int .i64 0), .sc (.bool false), .sc (.bool false), .sc (.int .i64 0), .sc (.int .i64 0), .sc (.string ⟨#[]⟩)] (fillR [.sc (.string ⟨#[]⟩), .sc (.int .i64 0), .sc (.bool false), .sc (.bool false), .sc (.int .i64 0), .sc (.int .i64 0), .sc (.string ⟨#[]⟩)] (x.map eCol) i))] }) (fun E => x.length - (E.num 4).toNat) _ (Gh.keep _ [0,3,4]) ⟨0, by omega, by simp [vColS, fillR]⟩ ?_
  rintro E1 ⟨i, hi, rfl⟩
  have hfl : (fillR [.sc (.string ⟨#[]⟩), .sc (.int .i64 0), .sc (.bool false), .sc (.bool false), .sc (.int .i64 0), .sc (.int .i64 0), .sc (.string ⟨#[]⟩)] (x.map eCol) i).length = x.length := by rw [fillR_len _ _ (by simpa using hi)]; simp
  simp [vColS, eCol] at hfl ⊢
  try simp [hfl]
  refine ⟨fun h => ⟨h, .of (toCol_ok (x[i]?.getD dCol) (fun n hn => hs n (List.mem_cons_of_mem _ (mem_flat (wt := wCol) h hn)))) ?_⟩, fun h => fillR_all _ _ (by simpa using h)⟩
  simp [mCol]
  try simp [hfl, h]
  refine .of _ (Gh.keep _ [0,3,4]) ⟨i + 1, by omega, ?_⟩ ?_
  · have := fillR_set [.sc (.string ⟨#[]⟩), .sc (.int .i64 0), .sc (.bool false), .sc (.bool false), .sc (.int .i64 0), .sc (.int .i64 0), .sc (.string ⟨#[]⟩)] (x.map eCol) (i := i) (by simpa using h)
    simp [wrapS (show i < 9223372036854775807 by omega), vColS, eCol, h] at this ⊢
    rw [← this]
  · simp [wrapS (show i < 9223372036854775807 by omega)]; omega
set_option maxHeartbeats 1000000 in
set_option maxRecDepth 8000 in
theorem eqColS_ok (x : List GCol) (hs : ∀ n ∈ wColS x, n ≤ 1048576) : VC Tryz.prog 199 [vColS x, vColS x] [(false, [(.s, .sc (.bool true))])] := by
  refine vc_of_ew good hm [0,1,4,10,5,14,26] Tryz.func199 rfl (by kernel_rfl) (by kernel_rfl) rfl ?_
  have hl : x.length ≤ 1048576 := hs _ (by simp [wColS])
  simp [Tryz.f199, vColS]
  refine ew_loop (fun E => ∃ i : Nat, i ≤ x.length ∧ E = { nt := 27, sl := [(0, vColS x), (1, vColS x), (5, int .i64 i)], bx := [], rt := [] }) (fun E => x.length - (E.num 5).toNat) _ (Gh.keep _ [0,1,5]) ⟨0, by omega, by simp [vColS]⟩ ?_
  rintro E1 ⟨i, hi, rfl⟩
  simp [vColS, eCol]
  intro h
  refine ⟨h, .of (eqCol_ok (x[i]?.getD dCol) (fun n hn => hs n (List.mem_cons_of_mem _ (mem_flat (wt := wCol) h hn)))) ?_⟩
  simp
  refine .of _ (Gh.keep _ [0,1,5]) ⟨i + 1, by omega, ?_⟩ ?_
  · simp [wrapS (show i < 9223372036854775807 by omega), vColS]
  · simp [wrapS (show i < 9223372036854775807 by omega)]; omega

/-! ### []string -/
abbrev GStrS := List ByteArray
def eStrS (l : List ByteArray) : List Lf := [.ls [.sc (.string ⟨#[]⟩)] (l.map eStr)]
def vStrS (l : List ByteArray) : SV := list [.sc (.string ⟨#[]⟩)] (l.map eStr)
@[simp] theorem row_StrS (l : List (List ByteArray)) (i : Nat) : (Option.map eStrS l[i]?).getD [.ls [.sc (.string ⟨#[]⟩)] []] = eStrS (l[i]?.getD []) := by cases l[i]? <;> rfl
def wStrS (l : List ByteArray) : List Nat := l.length :: l.flatMap wStr
def okStrS (l : List ByteArray) : Prop := okM l.length ∧ ∀ a ∈ l, okStr a
theorem okw_StrS (l : List ByteArray) (h : okStrS l) : ∀ n ∈ wStrS l, okM n := by
  intro n hn
  rcases List.mem_cons.1 hn with rfl | hn
  · exact h.1
  · obtain ⟨a, ha, hn⟩ := List.mem_flatMap.1 hn
    exact okw_Str a (h.2 a ha) n hn
theorem fit_StrS (ls : List Lf) (h : Fit ti ck 92 ls) : ∃ x : List ByteArray, ls = eStrS x ∧ okStrS x := by
  obtain ⟨x, r, rfl, h1, h2⟩ := All2.cons_inv h
  obtain rfl := All2.nil_inv h2
  obtain ⟨l, rfl, hl, hs⟩ := h1.list eStr okStr fit_Str
  exact ⟨l, rfl, hl, hs⟩
def mStrS (x : List ByteArray) : ML := [(.o 9 (fun _ => [.s]), .ls [.sc (.string ⟨#[]⟩)] (x.map eStr))]
@[simp] theorem ow_StrS (l : List ByteArray) : Ow (.o 9 (fun _ => [.s])) (.ls [.sc (.string ⟨#[]⟩)] (l.map eStr)) = True := eq_true (Ow_rows (fun x j hj => match j, hj with | 0, _ => .sc | n + 1, hj => absurd hj (by simp)) l)
@[simp] theorem full_StrS (l : List ByteArray) : Full (.o 9 (fun _ => [.s])) (.ls [.sc (.string ⟨#[]⟩)] (l.map eStr)) = True := eq_true (Full_rows (fun x j hj => match j, hj with | 0, _ => .s | n + 1, hj => absurd hj (by simp)) l)
set_option maxHeartbeats 1000000 in
set_option maxRecDepth 8000 in
theorem szStrS_ok (x : List ByteArray) (left : Int) (h0 : 0 ≤ left) (h1 : left ≤ 1048576) (hs : ∀ n ∈ wStrS x, okM n) : VC Tryz.prog 183 [vStrS x, int .i64 left] [(false, [(.s, .sc (.int .i64 (szL (wStrS x) left)))])] := by
  refine vc_of_ew good hm [0,1,4,11,5,15,26] Tryz.func183 rfl (by kernel_rfl) (by kernel_rfl) rfl ?_
  have hl : x.length ≤ 9223372036854775807 := hs _ (by simp [wStrS])
  simp [Tryz.f183, vStrS]
  rw [wrapI (i := left - x.length) (by omega) (by omega)]
  refine ⟨fun h => by simp [wStrS, szL, h], fun hk => ?_⟩
  refine ew_loop (fun E => ∃ i : Nat, i ≤ x.length ∧ 0 ≤ szL ((x.take i).flatMap wStr) (left - x.length) ∧ E = { nt := 28, sl := [(0, vStrS x), (1, int .i64 (szL ((x.take i).flatMap wStr) (left - x.length))), (5, int .i64 i)], bx := [], rt := [] }) (fun E => x.length - (E.num 5).toNat) _ (Gh.keep _ [0,1,5]) ⟨0, by omega, by simp [szL]; omega, by simp [szL, vStrS]⟩ ?_
  rintro E1 ⟨i, hi, hr0, rfl⟩
  have hr1 := szL_le' (l := (x.take i).flatMap wStr) (left := left - x.length) (by omega)
  simp [vStrS, eStr]
  refine ⟨fun h => ?_, fun h => ?_⟩
  · obtain ⟨q1, q2⟩ := szF_step wStr (⟨#[]⟩) h (by omega : 0 ≤ left - x.length) hr0
    have hm : ∀ n ∈ wStr (x[i]?.getD (⟨#[]⟩)), okM n := fun n hn => hs n (List.mem_cons_of_mem _ (mem_flat h hn))
    have hb : (x[i]?.getD (⟨#[]⟩ : ByteArray)).size ≤ 9223372036854775807 := hm _ (by simp [wStr])
    simp only [wStr, szL] at q1 q2
    try simp [eStr]
    rw [wrapI (i := szL ((x.take i).flatMap wStr) (left - x.length) - ((x[i]?.getD (⟨#[]⟩ : ByteArray)).size : Nat)) (by omega) (by omega)]
    refine ⟨h, fun h2 => ?_, fun h2 => .of _ (Gh.keep _ [0,1,5]) ⟨i + 1, by omega, ?_, ?_⟩ ?_⟩
    · simp [h2] at q1; rw [wStrS, szL, if_neg (by omega), q1]
    · rw [q2, if_neg (by omega)]; exact h2
    · rw [q2, if_neg (by omega)]; simp [wrapS (show i < 9223372036854775807 by omega)]
    · simp [wrapS (show i < 9223372036854775807 by omega)]; omega
  · rw [wStrS, szL, if_neg (by omega), List.take_of_length_le (by simpa using h)]
set_option maxHeartbeats 1000000 in
set_option maxRecDepth 8000 in
theorem toStrS_ok (x : List ByteArray) (hs : ∀ n ∈ wStrS x, n ≤ 1048576) : VC Tryz.prog 186 [vStrS x] [(false, mStrS x)] := by
  refine vc_of_ew good hm [0,2,3,4,11] Tryz.func186 rfl (by kernel_rfl) (by kernel_rfl) rfl ?_
  have hl : x.length ≤ 1048576 := hs _ (by simp [wStrS])
  simp [Tryz.f186, vStrS, mStrS]
  refine ⟨by omega, ?_⟩
  refine ew_loop (fun E => ∃ i : Nat, i ≤ x.length ∧ E = { nt := 22, sl := [(0, vStrS x), (3, .v false [.r [7]]), (4, int .i64 i)], bx := [], rt := [(7, .o 9 (fun _ => [.s]), .ls [.sc (.string ⟨#[]⟩)] (fillR [.sc (.string ⟨#[]⟩)] (x.map eStr) i))] }) (fun E => x.length - (E.num 4).toNat) _ (Gh.keep _ [0,3,4]) ⟨0, by omega, by simp [vStrS, fillR]⟩ ?_
  rintro E1 ⟨i, hi, rfl⟩
  have hfl : (fillR [.sc (.string ⟨#[]⟩)] (x.map eStr) i).length = x.length := by rw [fillR_len _ _ (by simpa using hi)]; simp
  simp [vStrS, eStr] at hfl ⊢
  try simp [hfl]
  refine ⟨fun h => ?_, fun h => fillR_all _ _ (by simpa using h)⟩
  simp [eStr, hfl, h]
  refine .of _ (Gh.keep _ [0,3,4]) ⟨i + 1, by omega, ?_⟩ ?_
  · have := fillR_set [.sc (.string ⟨#[]⟩)] (x.map eStr) (i := i) (by simpa using h)
    simp [wrapS (show i < 9223372036854775807 by omega), vStrS, eStr, h] at this ⊢
    rw [← this]
  · simp [wrapS (show i < 9223372036854775807 by omega)]; omega
set_option maxHeartbeats 1000000 in
set_option maxRecDepth 8000 in
theorem eqStrS_ok (x : List ByteArray) (hs : ∀ n ∈ wStrS x, n ≤ 1048576) : VC Tryz.prog 200 [vStrS x, vStrS x] [(false, [(.s, .sc (.bool true))])] := by
  refine vc_of_ew good hm [0,1,4,10,5,14,25] Tryz.func200 rfl (by kernel_rfl) (by kernel_rfl) rfl ?_
  have hl : x.length ≤ 1048576 := hs _ (by simp [wStrS])
  simp [Tryz.f200, vStrS]
  refine ew_loop (fun E => ∃ i : Nat, i ≤ x.length ∧ E = { nt := 26, sl := [(0, vStrS x), (1, vStrS x), (5, int .i64 i)], bx := [], rt := [] }) (fun E => x.length - (E.num 5).toNat) _ (Gh.keep _ [0,1,5]) ⟨0, by omega, by simp [vStrS]⟩ ?_
  rintro E1 ⟨i, hi, rfl⟩
  simp [vStrS, eStr]
  intro h
  simp [eStr, h]
  refine .of _ (Gh.keep _ [0,1,5]) ⟨i + 1, by omega, ?_⟩ ?_
  · simp [wrapS (show i < 9223372036854775807 by omega), vStrS]
  · simp [wrapS (show i < 9223372036854775807 by omega)]; omega

/-! ### Table -/
structure GTable where
  fName : ByteArray
  fCols : List GCol
  fKeys : List ByteArray
def eTable (x : GTable) : List Lf := [.sc (.string x.fName), .ls [.sc (.string ⟨#[]⟩), .sc (.int .i64 0), .sc (.bool false), .sc (.bool false), .sc (.int .i64 0), .sc (.int .i64 0), .sc (.string ⟨#[]⟩)] (x.fCols.map eCol), .ls [.sc (.string ⟨#[]⟩)] (x.fKeys.map eStr)]
def cTable (x : GTable) : List LV := [.s (.sc (.string x.fName)), .s (.ls [.sc (.string ⟨#[]⟩), .sc (.int .i64 0), .sc (.bool false), .sc (.bool false), .sc (.int .i64 0), .sc (.int .i64 0), .sc (.string ⟨#[]⟩)] (x.fCols.map eCol)), .s (.ls [.sc (.string ⟨#[]⟩)] (x.fKeys.map eStr))]
def vTable (x : GTable) : SV := .v true [.s (.sc (.string x.fName)), .s (.ls [.sc (.string ⟨#[]⟩), .sc (.int .i64 0), .sc (.bool false), .sc (.bool false), .sc (.int .i64 0), .sc (.int .i64 0), .sc (.string ⟨#[]⟩)] (x.fCols.map eCol)), .s (.ls [.sc (.string ⟨#[]⟩)] (x.fKeys.map eStr))]
def dTable : GTable := ⟨⟨#[]⟩, [], []⟩
@[simp] theorem row_Table (l : List GTable) (i : Nat) : (Option.map eTable l[i]?).getD [.sc (.string ⟨#[]⟩), .ls [.sc (.string ⟨#[]⟩), .sc (.int .i64 0), .sc (.bool false), .sc (.bool false), .sc (.int .i64 0), .sc (.int .i64 0), .sc (.string ⟨#[]⟩)] [], .ls [.sc (.string ⟨#[]⟩)] []] = eTable (l[i]?.getD dTable) := by cases l[i]? <;> rfl
def wTable (x : GTable) : List Nat := x.fName.size :: (wColS x.fCols ++ (wStrS x.fKeys ++ ([])))
def okTable (x : GTable) : Prop := okM x.fName.size ∧ okColS x.fCols ∧ okStrS x.fKeys ∧ True
theorem okw_Table (x : GTable) (h : okTable x) : ∀ n ∈ wTable x, okM n := by
  obtain ⟨h0, h1, h2, _⟩ := h
  intro n hn
  simp only [wTable, List.mem_cons, List.mem_append, List.not_mem_nil, or_false, false_or] at hn
  rcases hn with rfl | hn | hn
  · exact h0
  · exact okw_ColS _ h1 n hn
  · exact okw_StrS _ h2 n hn
theorem fit_Table (ls : List Lf) (h : Fit ti ck 176 ls) : ∃ x : GTable, ls = eTable x ∧ okTable x := by
  obtain ⟨c0, r0, rfl, h0, g0⟩ := All2.cons_inv h
  obtain ⟨a0, rfl, b0⟩ := h0.str_inv
  obtain ⟨c1, r1, rfl, h1, g1⟩ := All2.cons_inv g0
  obtain ⟨a1, rfl, b1, b1'⟩ := h1.list eCol okCol fit_Col
  obtain ⟨c2, r2, rfl, h2, g2⟩ := All2.cons_inv g1
  obtain ⟨a2, rfl, b2, b2'⟩ := h2.list eStr okStr fit_Str
  obtain rfl := All2.nil_inv g2
  exact ⟨⟨a0, a1, a2⟩, rfl, ⟨b0, ⟨b1, b1'⟩, ⟨b2, b2'⟩, trivial⟩⟩
def mTable (x : GTable) : ML := [(.s, .sc (.string x.fName)), (.o 136 (fun _ => [.s, .s, .s, .s, .s, .s, .s]), .ls [.sc (.string ⟨#[]⟩), .sc (.int .i64 0), .sc (.bool false), .sc (.bool false), .sc (.int .i64 0), .sc (.int .i64 0), .sc (.string ⟨#[]⟩)] (x.fCols.map eCol)), (.o 9 (fun _ => [.s]), .ls [.sc (.string ⟨#[]⟩)] (x.fKeys.map eStr))]
set_option maxHeartbeats 1000000 in
set_option maxRecDepth 8000 in
theorem szTable_ok (x : GTable) (left : Int) (h0 : 0 ≤ left) (h1 : left ≤ 1048576) (hs : ∀ n ∈ wTable x, okM n) : VC Tryz.prog 119 [vTable x, int .i64 left] [(false, [(.s, .sc (.int .i64 (szL (wTable x) left)))])] := by
  refine vc_of_ew good hm [0,1,2,4,11,17,23] Tryz.func119 rfl (by kernel_rfl) (by kernel_rfl) rfl ?_
  simp [Tryz.f119, vTable]
  have hb0 : x.fName.size ≤ 9223372036854775807 := hs _ (by simp [wTable])
  rw [wrapI (i := left - (x.fName.size : Nat)) (by omega) (by omega)]
  refine ⟨fun hn => ?_, fun hk0 => ?_⟩
  · have e : szL (wTable x) left = -1 := by rw [wTable, szL, if_pos (by omega)]
    rw [e]
    try omega
  have hq0 : ¬ (left - (x.fName.size : Nat)) < 0 := by omega
  have hz0 : 0 ≤ (left - (x.fName.size : Nat)) := by omega
  refine .of (szColS_ok x.fCols (left - (x.fName.size : Nat)) (by omega) (by omega) (fun n hn => hs n (by simp [wTable, hn]))) ?_
  simp
  have hb1 := szL_le' (l := wColS x.fCols) (left := (left - (x.fName.size : Nat))) (by omega)
  have hc1 := szL_neg (wColS x.fCols) (left - (x.fName.size : Nat)) (by omega)
  refine ⟨fun hn => ?_, fun hk1 => ?_⟩
  · have e : szL (wTable x) left = -1 := by rw [wTable, szL, if_neg hq0, szL_app _ _ _ hz0, if_pos (by omega)]
    rw [e]
    try omega
  have hq1 : ¬ (szL (wColS x.fCols) (left - (x.fName.size : Nat))) < 0 := by omega
  have hz1 : 0 ≤ (szL (wColS x.fCols) (left - (x.fName.size : Nat))) := by omega
  refine .of (szStrS_ok x.fKeys (szL (wColS x.fCols) (left - (x.fName.size : Nat))) (by omega) (by omega) (fun n hn => hs n (by simp [wTable, hn]))) ?_
  simp
  have hb2 := szL_le' (l := wStrS x.fKeys) (left := (szL (wColS x.fCols) (left - (x.fName.size : Nat)))) (by omega)
  have hc2 := szL_neg (wStrS x.fKeys) (szL (wColS x.fCols) (left - (x.fName.size : Nat))) (by omega)
  by_cases hn : (szL (wStrS x.fKeys) (szL (wColS x.fCols) (left - (x.fName.size : Nat)))) < 0
  · have e : szL (wTable x) left = -1 := by rw [wTable, szL, if_neg hq0, szL_app _ _ _ hz0, if_neg hq1, szL_app _ _ _ hz1, if_pos hn]
    rw [e]
    try omega
  · have e : szL (wTable x) left = (szL (wStrS x.fKeys) (szL (wColS x.fCols) (left - (x.fName.size : Nat)))) := by rw [wTable, szL, if_neg hq0, szL_app _ _ _ hz0, if_neg hq1, szL_app _ _ _ hz1, if_neg hn]; rfl
    rw [e]
    try omega
set_option maxHeartbeats 1000000 in
set_option maxRecDepth 8000 in
theorem toTable_ok (x : GTable) (hs : ∀ n ∈ wTable x, n ≤ 1048576) : VC Tryz.prog 127 [vTable x] [(true, mTable x)] := by
  refine vc_of_ew good hm [0,1,2,3] Tryz.func127 rfl (by kernel_rfl) (by kernel_rfl) rfl ?_
  simp [Tryz.f127, vTable, mTable]
  refine .of (toColS_ok x.fCols (fun n hn => hs n (by simp [wTable, hn]))) ?_
  simp [mColS]
  refine .of (toStrS_ok x.fKeys (fun n hn => hs n (by simp [wTable, hn]))) ?_
  simp [mStrS]
set_option maxHeartbeats 1000000 in
set_option maxRecDepth 8000 in
theorem eqTable_ok (x : GTable) (hs : ∀ n ∈ wTable x, n ≤ 1048576) : VC Tryz.prog 138 [vTable x, vTable x] [(false, [(.s, .sc (.bool true))])] := by
  refine vc_of_ew good hm [0,1,2,3,4,9,15,21] Tryz.func138 rfl (by kernel_rfl) (by kernel_rfl) rfl ?_
  simp [Tryz.f138, vTable]
  refine .of (eqColS_ok x.fCols (fun n hn => hs n (by simp [wTable, hn]))) ?_
  simp
  refine .of (eqStrS_ok x.fKeys (fun n hn => hs n (by simp [wTable, hn]))) ?_
  simp

/-! ### []Table -/
abbrev GTableS := List GTable
def eTableS (l : List GTable) : List Lf := [.ls [.sc (.string ⟨#[]⟩), .ls [.sc (.string ⟨#[]⟩), .sc (.int .i64 0), .sc (.bool false), .sc (.bool false), .sc (.int .i64 0), .sc (.int .i64 0), .sc (.string ⟨#[]⟩)] [], .ls [.sc (.string ⟨#[]⟩)] []] (l.map eTable)]
def vTableS (l : List GTable) : SV := list [.sc (.string ⟨#[]⟩), .ls [.sc (.string ⟨#[]⟩), .sc (.int .i64 0), .sc (.bool false), .sc (.bool false), .sc (.int .i64 0), .sc (.int .i64 0), .sc (.string ⟨#[]⟩)] [], .ls [.sc (.string ⟨#[]⟩)] []] (l.map eTable)
@[simp] theorem row_TableS (l : List (List GTable)) (i : Nat) : (Option.map eTableS l[i]?).getD [.ls [.sc (.string ⟨#[]⟩), .ls [.sc (.string ⟨#[]⟩), .sc (.int .i64 0), .sc (.bool false), .sc (.bool false), .sc (.int .i64 0), .sc (.int .i64 0), .sc (.string ⟨#[]⟩)] [], .ls [.sc (.string ⟨#[]⟩)] []] []] = eTableS (l[i]?.getD []) := by cases l[i]? <;> rfl
def wTableS (l : List GTable) : List Nat := l.length :: l.flatMap wTable
def okTableS (l : List GTable) : Prop := okM l.length ∧ ∀ a ∈ l, okTable a
theorem okw_TableS (l : List GTable) (h : okTableS l) : ∀ n ∈ wTableS l, okM n := by
  intro n hn
  rcases List.mem_cons.1 hn with rfl | hn
  · exact h.1
  · obtain ⟨a, ha, hn⟩ := List.mem_flatMap.1 hn
    exact okw_Table a (h.2 a ha) n hn
theorem fit_TableS (ls : List Lf) (h : Fit ti ck 22 ls) : ∃ x : List GTable, ls = eTableS x ∧ okTableS x := by
  obtain ⟨x, r, rfl, h1, h2⟩ := All2.cons_inv h
  obtain rfl := All2.nil_inv h2
  obtain ⟨l, rfl, hl, hs⟩ := h1.list eTable okTable fit_Table
  exact ⟨l, rfl, hl, hs⟩
def mTableS (x : List GTable) : ML := [(.o 119 (fun _ => [.s, .o 136 (fun _ => [.s, .s, .s, .s, .s, .s, .s]), .o 9 (fun _ => [.s])]), .ls [.sc (.string ⟨#[]⟩), .ls [.sc (.string ⟨#[]⟩), .sc (.int .i64 0), .sc (.bool false), .sc (.bool false), .sc (.int .i64 0), .sc (.int .i64 0), .sc (.string ⟨#[]⟩)] [], .ls [.sc (.string ⟨#[]⟩)] []] (x.map eTable))]
@[simp] theorem ow_TableS (l : List GTable) : Ow (.o 119 (fun _ => [.s, .o 136 (fun _ => [.s, .s, .s, .s, .s, .s, .s]), .o 9 (fun _ => [.s])])) (.ls [.sc (.string ⟨#[]⟩), .ls [.sc (.string ⟨#[]⟩), .sc (.int .i64 0), .sc (.bool false), .sc (.bool false), .sc (.int .i64 0), .sc (.int .i64 0), .sc (.string ⟨#[]⟩)] [], .ls [.sc (.string ⟨#[]⟩)] []] (l.map eTable)) = True := eq_true (Ow_rows (fun x j hj => match j, hj with | 0, _ => .sc | 1, _ => of_eq_true (ow_ColS x.fCols) | 2, _ => of_eq_true (ow_StrS x.fKeys) | n + 3, hj => absurd hj (by simp)) l)
@[simp] theorem full_TableS (l : List GTable) : Full (.o 119 (fun _ => [.s, .o 136 (fun _ => [.s, .s, .s, .s, .s, .s, .s]), .o 9 (fun _ => [.s])])) (.ls [.sc (.string ⟨#[]⟩), .ls [.sc (.string ⟨#[]⟩), .sc (.int .i64 0), .sc (.bool false), .sc (.bool false), .sc (.int .i64 0), .sc (.int .i64 0), .sc (.string ⟨#[]⟩)] [], .ls [.sc (.string ⟨#[]⟩)] []] (l.map eTable)) = True := eq_true (Full_rows (fun x j hj => match j, hj with | 0, _ => .s | 1, _ => of_eq_true (full_ColS x.fCols) | 2, _ => of_eq_true (full_StrS x.fKeys) | n + 3, hj => absurd hj (by simp)) l)
set_option maxHeartbeats 1000000 in
set_option maxRecDepth 8000 in
theorem szTableS_ok (x : List GTable) (left : Int) (h0 : 0 ≤ left) (h1 : left ≤ 1048576) (hs : ∀ n ∈ wTableS x, okM n) : VC Tryz.prog 72 [vTableS x, int .i64 left] [(false, [(.s, .sc (.int .i64 (szL (wTableS x) left)))])] := by
  refine vc_of_ew good hm [0,1,4,11,5,15,25] Tryz.func72 rfl (by kernel_rfl) (by kernel_rfl) rfl ?_
  have hl : x.length ≤ 9223372036854775807 := hs _ (by simp [wTableS])
  simp [Tryz.f72, vTableS]
  rw [wrapI (i := left - x.length) (by omega) (by omega)]
  refine ⟨fun h => by simp [wTableS, szL, h], fun hk => ?_⟩
  refine ew_loop (fun E => ∃ i : Nat, i ≤ x.length ∧ 0 ≤ szL ((x.take i).flatMap wTable) (left - x.length) ∧ E = { nt := 27, sl := [(0, vTableS x), (1, int .i64 (szL ((x.take i).flatMap wTable) (left - x.length))), (5, int .i64 i)], bx := [], rt := [] }) (fun E => x.length - (E.num 5).toNat) _ (Gh.keep _ [0,1,5]) ⟨0, by omega, by simp [szL]; omega, by simp [szL, vTableS]⟩ ?_
  rintro E1 ⟨i, hi, hr0, rfl⟩
  have hr1 := szL_le' (l := (x.take i).flatMap wTable) (left := left - x.length) (by omega)
  simp [vTableS, eTable]
  refine ⟨fun h => ?_, fun h => ?_⟩
  · obtain ⟨q1, q2⟩ := szF_step wTable (dTable) h (by omega : 0 ≤ left - x.length) hr0
    have hm : ∀ n ∈ wTable (x[i]?.getD (dTable)), okM n := fun n hn => hs n (List.mem_cons_of_mem _ (mem_flat h hn))
    have hn1 := szL_neg (wTable (x[i]?.getD (dTable))) _ hr0
    refine ⟨h, .of (szTable_ok _ _ hr0 (by omega) hm) ?_⟩
    simp
    refine ⟨fun h2 => ?_, fun h2 => .of _ (Gh.keep _ [0,1,5]) ⟨i + 1, by omega, ?_, ?_⟩ ?_⟩
    · rw [wTableS, szL, if_neg (by omega), q1 h2]
    · rw [q2]; exact h2
    · rw [q2]; simp [wrapS (show i < 9223372036854775807 by omega)]
    · simp [wrapS (show i < 9223372036854775807 by omega)]; omega
  · rw [wTableS, szL, if_neg (by omega), List.take_of_length_le (by simpa using h)]
set_option maxHeartbeats 1000000 in
set_option maxRecDepth 8000 in
theorem toTableS_ok (x : List GTable) (hs : ∀ n ∈ wTableS x, n ≤ 1048576) : VC Tryz.prog 80 [vTableS x] [(false, mTableS x)] := by
  refine vc_of_ew good hm [0,2,3,4,11] Tryz.func80 rfl (by kernel_rfl) (by kernel_rfl) rfl ?_
  have hl : x.length ≤ 1048576 := hs _ (by simp [wTableS])
  simp [Tryz.f80, vTableS, mTableS]
  refine ⟨by omega, ?_⟩
  refine ew_loop (fun E => ∃ i : Nat, i ≤ x.length ∧ E = { nt := 23, sl := [(0, vTableS x), (3, .v false [.r [7]]), (4, int .i64 i)], bx := [], rt := [(7, .o 119 (fun _ => [.s, .o 136 (fun _ => [.s, .s, .s, .s, .s, .s, .s]), .o 9 (fun _ => [.s])]), .ls [.sc (.string ⟨#[]⟩), .ls [.sc (.string ⟨#[]⟩), .sc (.int .i64 0), .sc (.bool false), .sc (.bool false), .sc (.int .i64 0), .sc (.int .i64 0), .sc (.string ⟨#[]⟩)] [], .ls [.sc (.string ⟨#[]⟩)] []] (fillR [.sc (.string ⟨#[]⟩), .ls [.sc (.string ⟨#[]⟩), .sc (.int .i64 0), .sc (.bool false), .sc (.bool false), .sc (.int .i64 0), .sc (.int .i64 0), .sc (.string ⟨#[]⟩)] [], .ls [.sc (.string ⟨#[]⟩)] []] (x.map eTable) i))] }) (fun E => x.length - (E.num 4).toNat) _ (Gh.keep _ [0,3,4]) ⟨0, by omega, by simp [vTableS, fillR]⟩ ?_
  rintro E1 ⟨i, hi, rfl⟩
  have hfl : (fillR [.sc (.string ⟨#[]⟩), .ls [.sc (.string ⟨#[]⟩), .sc (.int .i64 0), .sc (.bool false), .sc (.bool false), .sc (.int .i64 0), .sc (.int .i64 0), .sc (.string ⟨#[]⟩)] [], .ls [.sc (.string ⟨#[]⟩)] []] (x.map eTable) i).length = x.length := by rw [fillR_len _ _ (by simpa using hi)]; simp
  simp [vTableS, eTable] at hfl ⊢
  try simp [hfl]
  refine ⟨fun h => ⟨h, .of (toTable_ok (x[i]?.getD dTable) (fun n hn => hs n (List.mem_cons_of_mem _ (mem_flat (wt := wTable) h hn)))) ?_⟩, fun h => fillR_all _ _ (by simpa using h)⟩
  simp [mTable]
  try simp [hfl, h]
  refine .of _ (Gh.keep _ [0,3,4]) ⟨i + 1, by omega, ?_⟩ ?_
  · have := fillR_set [.sc (.string ⟨#[]⟩), .ls [.sc (.string ⟨#[]⟩), .sc (.int .i64 0), .sc (.bool false), .sc (.bool false), .sc (.int .i64 0), .sc (.int .i64 0), .sc (.string ⟨#[]⟩)] [], .ls [.sc (.string ⟨#[]⟩)] []] (x.map eTable) (i := i) (by simpa using h)
    simp [wrapS (show i < 9223372036854775807 by omega), vTableS, eTable, h] at this ⊢
    rw [← this]
  · simp [wrapS (show i < 9223372036854775807 by omega)]; omega
set_option maxHeartbeats 1000000 in
set_option maxRecDepth 8000 in
theorem eqTableS_ok (x : List GTable) (hs : ∀ n ∈ wTableS x, n ≤ 1048576) : VC Tryz.prog 87 [vTableS x, vTableS x] [(false, [(.s, .sc (.bool true))])] := by
  refine vc_of_ew good hm [0,1,4,10,5,14,26] Tryz.func87 rfl (by kernel_rfl) (by kernel_rfl) rfl ?_
  have hl : x.length ≤ 1048576 := hs _ (by simp [wTableS])
  simp [Tryz.f87, vTableS]
  refine ew_loop (fun E => ∃ i : Nat, i ≤ x.length ∧ E = { nt := 27, sl := [(0, vTableS x), (1, vTableS x), (5, int .i64 i)], bx := [], rt := [] }) (fun E => x.length - (E.num 5).toNat) _ (Gh.keep _ [0,1,5]) ⟨0, by omega, by simp [vTableS]⟩ ?_
  rintro E1 ⟨i, hi, rfl⟩
  simp [vTableS, eTable]
  intro h
  refine ⟨h, .of (eqTable_ok (x[i]?.getD dTable) (fun n hn => hs n (List.mem_cons_of_mem _ (mem_flat (wt := wTable) h hn)))) ?_⟩
  simp
  refine .of _ (Gh.keep _ [0,1,5]) ⟨i + 1, by omega, ?_⟩ ?_
  · simp [wrapS (show i < 9223372036854775807 by omega), vTableS]
  · simp [wrapS (show i < 9223372036854775807 by omega)]; omega

/-! ### Cat -/
structure GCat where
  fTables : List GTable
def eCat (x : GCat) : List Lf := [.ls [.sc (.string ⟨#[]⟩), .ls [.sc (.string ⟨#[]⟩), .sc (.int .i64 0), .sc (.bool false), .sc (.bool false), .sc (.int .i64 0), .sc (.int .i64 0), .sc (.string ⟨#[]⟩)] [], .ls [.sc (.string ⟨#[]⟩)] []] (x.fTables.map eTable)]
def cCat (x : GCat) : List LV := [.s (.ls [.sc (.string ⟨#[]⟩), .ls [.sc (.string ⟨#[]⟩), .sc (.int .i64 0), .sc (.bool false), .sc (.bool false), .sc (.int .i64 0), .sc (.int .i64 0), .sc (.string ⟨#[]⟩)] [], .ls [.sc (.string ⟨#[]⟩)] []] (x.fTables.map eTable))]
def vCat (x : GCat) : SV := .v true [.s (.ls [.sc (.string ⟨#[]⟩), .ls [.sc (.string ⟨#[]⟩), .sc (.int .i64 0), .sc (.bool false), .sc (.bool false), .sc (.int .i64 0), .sc (.int .i64 0), .sc (.string ⟨#[]⟩)] [], .ls [.sc (.string ⟨#[]⟩)] []] (x.fTables.map eTable))]
def dCat : GCat := ⟨[]⟩
@[simp] theorem row_Cat (l : List GCat) (i : Nat) : (Option.map eCat l[i]?).getD [.ls [.sc (.string ⟨#[]⟩), .ls [.sc (.string ⟨#[]⟩), .sc (.int .i64 0), .sc (.bool false), .sc (.bool false), .sc (.int .i64 0), .sc (.int .i64 0), .sc (.string ⟨#[]⟩)] [], .ls [.sc (.string ⟨#[]⟩)] []] []] = eCat (l[i]?.getD dCat) := by cases l[i]? <;> rfl
def wCat (x : GCat) : List Nat := wTableS x.fTables ++ ([])
def okCat (x : GCat) : Prop := okTableS x.fTables ∧ True
theorem okw_Cat (x : GCat) (h : okCat x) : ∀ n ∈ wCat x, okM n := by
  obtain ⟨h0, _⟩ := h
  intro n hn
  simp only [wCat, List.mem_cons, List.mem_append, List.not_mem_nil, or_false, false_or] at hn
  rcases hn with hn
  · exact okw_TableS _ h0 n hn
theorem fit_Cat (ls : List Lf) (h : Fit ti ck 24 ls) : ∃ x : GCat, ls = eCat x ∧ okCat x := by
  obtain ⟨c0, r0, rfl, h0, g0⟩ := All2.cons_inv h
  obtain ⟨a0, rfl, b0, b0'⟩ := h0.list eTable okTable fit_Table
  obtain rfl := All2.nil_inv g0
  exact ⟨⟨a0⟩, rfl, ⟨⟨b0, b0'⟩, trivial⟩⟩
def mCat (x : GCat) : ML := [(.o 119 (fun _ => [.s, .o 136 (fun _ => [.s, .s, .s, .s, .s, .s, .s]), .o 9 (fun _ => [.s])]), .ls [.sc (.string ⟨#[]⟩), .ls [.sc (.string ⟨#[]⟩), .sc (.int .i64 0), .sc (.bool false), .sc (.bool false), .sc (.int .i64 0), .sc (.int .i64 0), .sc (.string ⟨#[]⟩)] [], .ls [.sc (.string ⟨#[]⟩)] []] (x.fTables.map eTable))]
set_option maxHeartbeats 1000000 in
set_option maxRecDepth 8000 in
theorem szCat_ok (x : GCat) (left : Int) (h0 : 0 ≤ left) (h1 : left ≤ 1048576) (hs : ∀ n ∈ wCat x, okM n) : VC Tryz.prog 44 [vCat x, int .i64 left] [(false, [(.s, .sc (.int .i64 (szL (wCat x) left)))])] := by
  refine vc_of_ew good hm [0,1,2,4,10] Tryz.func44 rfl (by kernel_rfl) (by kernel_rfl) rfl ?_
  simp [Tryz.f44, vCat]
  refine .of (szTableS_ok x.fTables left (by omega) (by omega) (fun n hn => hs n (by simp [wCat, hn]))) ?_
  simp
  have hb0 := szL_le' (l := wTableS x.fTables) (left := left) (by omega)
  have hc0 := szL_neg (wTableS x.fTables) left (by omega)
  by_cases hn : (szL (wTableS x.fTables) left) < 0
  · have e : szL (wCat x) left = -1 := by rw [wCat, szL_app _ _ _ h0, if_pos hn]
    rw [e]
    try omega
  · have e : szL (wCat x) left = (szL (wTableS x.fTables) left) := by rw [wCat, szL_app _ _ _ h0, if_neg hn]; rfl
    rw [e]
    try omega
set_option maxHeartbeats 1000000 in
set_option maxRecDepth 8000 in
theorem toCat_ok (x : GCat) (hs : ∀ n ∈ wCat x, n ≤ 1048576) : VC Tryz.prog 48 [vCat x] [(true, mCat x)] := by
  refine vc_of_ew good hm [0,1,2,3] Tryz.func48 rfl (by kernel_rfl) (by kernel_rfl) rfl ?_
  simp [Tryz.f48, vCat, mCat]
  refine .of (toTableS_ok x.fTables (fun n hn => hs n (by simp [wCat, hn]))) ?_
  simp [mTableS]
set_option maxHeartbeats 1000000 in
set_option maxRecDepth 8000 in
theorem eqCat_ok (x : GCat) (hs : ∀ n ∈ wCat x, n ≤ 1048576) : VC Tryz.prog 52 [vCat x, vCat x] [(false, [(.s, .sc (.bool true))])] := by
  refine vc_of_ew good hm [0,1,2,3,4,10] Tryz.func52 rfl (by kernel_rfl) (by kernel_rfl) rfl ?_
  simp [Tryz.f52, vCat]
  refine .of (eqTableS_ok x.fTables (fun n hn => hs n (by simp [wCat, hn]))) ?_
  simp

/-! ### []Val -/
abbrev GValS := List GVal
def eValS (l : List GVal) : List Lf := [.ls [.sc (.int .i64 0), .sc (.int .i64 0), .sc (.string ⟨#[]⟩)] (l.map eVal)]
def vValS (l : List GVal) : SV := list [.sc (.int .i64 0), .sc (.int .i64 0), .sc (.string ⟨#[]⟩)] (l.map eVal)
@[simp] theorem row_ValS (l : List (List GVal)) (i : Nat) : (Option.map eValS l[i]?).getD [.ls [.sc (.int .i64 0), .sc (.int .i64 0), .sc (.string ⟨#[]⟩)] []] = eValS (l[i]?.getD []) := by cases l[i]? <;> rfl
def wValS (l : List GVal) : List Nat := l.length :: l.flatMap wVal
def okValS (l : List GVal) : Prop := okM l.length ∧ ∀ a ∈ l, okVal a
theorem okw_ValS (l : List GVal) (h : okValS l) : ∀ n ∈ wValS l, okM n := by
  intro n hn
  rcases List.mem_cons.1 hn with rfl | hn
  · exact h.1
  · obtain ⟨a, ha, hn⟩ := List.mem_flatMap.1 hn
    exact okw_Val a (h.2 a ha) n hn
theorem fit_ValS (ls : List Lf) (h : Fit ti ck 88 ls) : ∃ x : List GVal, ls = eValS x ∧ okValS x := by
  obtain ⟨x, r, rfl, h1, h2⟩ := All2.cons_inv h
  obtain rfl := All2.nil_inv h2
  obtain ⟨l, rfl, hl, hs⟩ := h1.list eVal okVal fit_Val
  exact ⟨l, rfl, hl, hs⟩
def mValS (x : List GVal) : ML := [(.o 134 (fun _ => [.s, .s, .s]), .ls [.sc (.int .i64 0), .sc (.int .i64 0), .sc (.string ⟨#[]⟩)] (x.map eVal))]
@[simp] theorem ow_ValS (l : List GVal) : Ow (.o 134 (fun _ => [.s, .s, .s])) (.ls [.sc (.int .i64 0), .sc (.int .i64 0), .sc (.string ⟨#[]⟩)] (l.map eVal)) = True := eq_true (Ow_rows (fun x j hj => match j, hj with | 0, _ => .sc | 1, _ => .sc | 2, _ => .sc | n + 3, hj => absurd hj (by simp)) l)
@[simp] theorem full_ValS (l : List GVal) : Full (.o 134 (fun _ => [.s, .s, .s])) (.ls [.sc (.int .i64 0), .sc (.int .i64 0), .sc (.string ⟨#[]⟩)] (l.map eVal)) = True := eq_true (Full_rows (fun x j hj => match j, hj with | 0, _ => .s | 1, _ => .s | 2, _ => .s | n + 3, hj => absurd hj (by simp)) l)
set_option maxHeartbeats 1000000 in
set_option maxRecDepth 8000 in
theorem szValS_ok (x : List GVal) (left : Int) (h0 : 0 ≤ left) (h1 : left ≤ 1048576) (hs : ∀ n ∈ wValS x, okM n) : VC Tryz.prog 140 [vValS x, int .i64 left] [(false, [(.s, .sc (.int .i64 (szL (wValS x) left)))])] := by
  refine vc_of_ew good hm [0,1,4,11,5,15,25] Tryz.func140 rfl (by kernel_rfl) (by kernel_rfl) rfl ?_
  have hl : x.length ≤ 9223372036854775807 := hs _ (by simp [wValS])
  simp [Tryz.f140, vValS]
  rw [wrapI (i := left - x.length) (by omega) (by omega)]
  refine ⟨fun h => by simp [wValS, szL, h], fun hk => ?_⟩
  refine ew_loop (fun E => ∃ i : Nat, i ≤ x.length ∧ 0 ≤ szL ((x.take i).flatMap wVal) (left - x.length) ∧ E = { nt := 27, sl := [(0, vValS x), (1, int .i64 (szL ((x.take i).flatMap wVal) (left - x.length))), (5, int .i64 i)], bx := [], rt := [] }) (fun E => x.length - (E.num 5).toNat) _ (Gh.keep _ [0,1,5]) ⟨0, by omega, by simp [szL]; omega, by simp [szL, vValS]⟩ ?_
  rintro E1 ⟨i, hi, hr0, rfl⟩
  have hr1 := szL_le' (l := (x.take i).flatMap wVal) (left := left - x.length) (by omega)
  simp [vValS, eVal]
  refine ⟨fun h => ?_, fun h => ?_⟩
  · obtain ⟨q1, q2⟩ := szF_step wVal (dVal) h (by omega : 0 ≤ left - x.length) hr0
    have hm : ∀ n ∈ wVal (x[i]?.getD (dVal)), okM n := fun n hn => hs n (List.mem_cons_of_mem _ (mem_flat h hn))
    have hn1 := szL_neg (wVal (x[i]?.getD (dVal))) _ hr0
    refine ⟨h, .of (szVal_ok _ _ hr0 (by omega) hm) ?_⟩
    simp
    refine ⟨fun h2 => ?_, fun h2 => .of _ (Gh.keep _ [0,1,5]) ⟨i + 1, by omega, ?_, ?_⟩ ?_⟩
    · rw [wValS, szL, if_neg (by omega), q1 h2]
    · rw [q2]; exact h2
    · rw [q2]; simp [wrapS (show i < 9223372036854775807 by omega)]
    · simp [wrapS (show i < 9223372036854775807 by omega)]; omega
  · rw [wValS, szL, if_neg (by omega), List.take_of_length_le (by simpa using h)]
set_option maxHeartbeats 1000000 in
set_option maxRecDepth 8000 in
theorem toValS_ok (x : List GVal) (hs : ∀ n ∈ wValS x, n ≤ 1048576) : VC Tryz.prog 147 [vValS x] [(false, mValS x)] := by
  refine vc_of_ew good hm [0,2,3,4,11] Tryz.func147 rfl (by kernel_rfl) (by kernel_rfl) rfl ?_
  have hl : x.length ≤ 1048576 := hs _ (by simp [wValS])
  simp [Tryz.f147, vValS, mValS]
  refine ⟨by omega, ?_⟩
  refine ew_loop (fun E => ∃ i : Nat, i ≤ x.length ∧ E = { nt := 23, sl := [(0, vValS x), (3, .v false [.r [7]]), (4, int .i64 i)], bx := [], rt := [(7, .o 134 (fun _ => [.s, .s, .s]), .ls [.sc (.int .i64 0), .sc (.int .i64 0), .sc (.string ⟨#[]⟩)] (fillR [.sc (.int .i64 0), .sc (.int .i64 0), .sc (.string ⟨#[]⟩)] (x.map eVal) i))] }) (fun E => x.length - (E.num 4).toNat) _ (Gh.keep _ [0,3,4]) ⟨0, by omega, by simp [vValS, fillR]⟩ ?_
  rintro E1 ⟨i, hi, rfl⟩
  have hfl : (fillR [.sc (.int .i64 0), .sc (.int .i64 0), .sc (.string ⟨#[]⟩)] (x.map eVal) i).length = x.length := by rw [fillR_len _ _ (by simpa using hi)]; simp
  simp [vValS, eVal] at hfl ⊢
  try simp [hfl]
  refine ⟨fun h => ⟨h, .of (toVal_ok (x[i]?.getD dVal) (fun n hn => hs n (List.mem_cons_of_mem _ (mem_flat (wt := wVal) h hn)))) ?_⟩, fun h => fillR_all _ _ (by simpa using h)⟩
  simp [mVal]
  try simp [hfl, h]
  refine .of _ (Gh.keep _ [0,3,4]) ⟨i + 1, by omega, ?_⟩ ?_
  · have := fillR_set [.sc (.int .i64 0), .sc (.int .i64 0), .sc (.string ⟨#[]⟩)] (x.map eVal) (i := i) (by simpa using h)
    simp [wrapS (show i < 9223372036854775807 by omega), vValS, eVal, h] at this ⊢
    rw [← this]
  · simp [wrapS (show i < 9223372036854775807 by omega)]; omega
set_option maxHeartbeats 1000000 in
set_option maxRecDepth 8000 in
theorem eqValS_ok (x : List GVal) (hs : ∀ n ∈ wValS x, n ≤ 1048576) : VC Tryz.prog 156 [vValS x, vValS x] [(false, [(.s, .sc (.bool true))])] := by
  refine vc_of_ew good hm [0,1,4,10,5,14,26] Tryz.func156 rfl (by kernel_rfl) (by kernel_rfl) rfl ?_
  have hl : x.length ≤ 1048576 := hs _ (by simp [wValS])
  simp [Tryz.f156, vValS]
  refine ew_loop (fun E => ∃ i : Nat, i ≤ x.length ∧ E = { nt := 27, sl := [(0, vValS x), (1, vValS x), (5, int .i64 i)], bx := [], rt := [] }) (fun E => x.length - (E.num 5).toNat) _ (Gh.keep _ [0,1,5]) ⟨0, by omega, by simp [vValS]⟩ ?_
  rintro E1 ⟨i, hi, rfl⟩
  simp [vValS, eVal]
  intro h
  refine ⟨h, .of (eqVal_ok (x[i]?.getD dVal) (fun n hn => hs n (List.mem_cons_of_mem _ (mem_flat (wt := wVal) h hn)))) ?_⟩
  simp
  refine .of _ (Gh.keep _ [0,1,5]) ⟨i + 1, by omega, ?_⟩ ?_
  · simp [wrapS (show i < 9223372036854775807 by omega), vValS]
  · simp [wrapS (show i < 9223372036854775807 by omega)]; omega

/-! ### Row -/
structure GRow where
  fVals : List GVal
def eRow (x : GRow) : List Lf := [.ls [.sc (.int .i64 0), .sc (.int .i64 0), .sc (.string ⟨#[]⟩)] (x.fVals.map eVal)]
def cRow (x : GRow) : List LV := [.s (.ls [.sc (.int .i64 0), .sc (.int .i64 0), .sc (.string ⟨#[]⟩)] (x.fVals.map eVal))]
def vRow (x : GRow) : SV := .v true [.s (.ls [.sc (.int .i64 0), .sc (.int .i64 0), .sc (.string ⟨#[]⟩)] (x.fVals.map eVal))]
def dRow : GRow := ⟨[]⟩
@[simp] theorem row_Row (l : List GRow) (i : Nat) : (Option.map eRow l[i]?).getD [.ls [.sc (.int .i64 0), .sc (.int .i64 0), .sc (.string ⟨#[]⟩)] []] = eRow (l[i]?.getD dRow) := by cases l[i]? <;> rfl
def wRow (x : GRow) : List Nat := wValS x.fVals ++ ([])
def okRow (x : GRow) : Prop := okValS x.fVals ∧ True
theorem okw_Row (x : GRow) (h : okRow x) : ∀ n ∈ wRow x, okM n := by
  obtain ⟨h0, _⟩ := h
  intro n hn
  simp only [wRow, List.mem_cons, List.mem_append, List.not_mem_nil, or_false, false_or] at hn
  rcases hn with hn
  · exact okw_ValS _ h0 n hn
theorem fit_Row (ls : List Lf) (h : Fit ti ck 90 ls) : ∃ x : GRow, ls = eRow x ∧ okRow x := by
  obtain ⟨c0, r0, rfl, h0, g0⟩ := All2.cons_inv h
  obtain ⟨a0, rfl, b0, b0'⟩ := h0.list eVal okVal fit_Val
  obtain rfl := All2.nil_inv g0
  exact ⟨⟨a0⟩, rfl, ⟨⟨b0, b0'⟩, trivial⟩⟩
def mRow (x : GRow) : ML := [(.o 134 (fun _ => [.s, .s, .s]), .ls [.sc (.int .i64 0), .sc (.int .i64 0), .sc (.string ⟨#[]⟩)] (x.fVals.map eVal))]
set_option maxHeartbeats 1000000 in
set_option maxRecDepth 8000 in
theorem szRow_ok (x : GRow) (left : Int) (h0 : 0 ≤ left) (h1 : left ≤ 1048576) (hs : ∀ n ∈ wRow x, okM n) : VC Tryz.prog 141 [vRow x, int .i64 left] [(false, [(.s, .sc (.int .i64 (szL (wRow x) left)))])] := by
  refine vc_of_ew good hm [0,1,2,4,10] Tryz.func141 rfl (by kernel_rfl) (by kernel_rfl) rfl ?_
  simp [Tryz.f141, vRow]
  refine .of (szValS_ok x.fVals left (by omega) (by omega) (fun n hn => hs n (by simp [wRow, hn]))) ?_
  simp
  have hb0 := szL_le' (l := wValS x.fVals) (left := left) (by omega)
  have hc0 := szL_neg (wValS x.fVals) left (by omega)
  by_cases hn : (szL (wValS x.fVals) left) < 0
  · have e : szL (wRow x) left = -1 := by rw [wRow, szL_app _ _ _ h0, if_pos hn]
    rw [e]
    try omega
  · have e : szL (wRow x) left = (szL (wValS x.fVals) left) := by rw [wRow, szL_app _ _ _ h0, if_neg hn]; rfl
    rw [e]
    try omega
set_option maxHeartbeats 1000000 in
set_option maxRecDepth 8000 in
theorem toRow_ok (x : GRow) (hs : ∀ n ∈ wRow x, n ≤ 1048576) : VC Tryz.prog 148 [vRow x] [(true, mRow x)] := by
  refine vc_of_ew good hm [0,1,2,3] Tryz.func148 rfl (by kernel_rfl) (by kernel_rfl) rfl ?_
  simp [Tryz.f148, vRow, mRow]
  refine .of (toValS_ok x.fVals (fun n hn => hs n (by simp [wRow, hn]))) ?_
  simp [mValS]
set_option maxHeartbeats 1000000 in
set_option maxRecDepth 8000 in
theorem eqRow_ok (x : GRow) (hs : ∀ n ∈ wRow x, n ≤ 1048576) : VC Tryz.prog 157 [vRow x, vRow x] [(false, [(.s, .sc (.bool true))])] := by
  refine vc_of_ew good hm [0,1,2,3,4,10] Tryz.func157 rfl (by kernel_rfl) (by kernel_rfl) rfl ?_
  simp [Tryz.f157, vRow]
  refine .of (eqValS_ok x.fVals (fun n hn => hs n (by simp [wRow, hn]))) ?_
  simp

/-! ### []Row -/
abbrev GRowS := List GRow
def eRowS (l : List GRow) : List Lf := [.ls [.ls [.sc (.int .i64 0), .sc (.int .i64 0), .sc (.string ⟨#[]⟩)] []] (l.map eRow)]
def vRowS (l : List GRow) : SV := list [.ls [.sc (.int .i64 0), .sc (.int .i64 0), .sc (.string ⟨#[]⟩)] []] (l.map eRow)
@[simp] theorem row_RowS (l : List (List GRow)) (i : Nat) : (Option.map eRowS l[i]?).getD [.ls [.ls [.sc (.int .i64 0), .sc (.int .i64 0), .sc (.string ⟨#[]⟩)] []] []] = eRowS (l[i]?.getD []) := by cases l[i]? <;> rfl
def wRowS (l : List GRow) : List Nat := l.length :: l.flatMap wRow
def okRowS (l : List GRow) : Prop := okM l.length ∧ ∀ a ∈ l, okRow a
theorem okw_RowS (l : List GRow) (h : okRowS l) : ∀ n ∈ wRowS l, okM n := by
  intro n hn
  rcases List.mem_cons.1 hn with rfl | hn
  · exact h.1
  · obtain ⟨a, ha, hn⟩ := List.mem_flatMap.1 hn
    exact okw_Row a (h.2 a ha) n hn
theorem fit_RowS (ls : List Lf) (h : Fit ti ck 128 ls) : ∃ x : List GRow, ls = eRowS x ∧ okRowS x := by
  obtain ⟨x, r, rfl, h1, h2⟩ := All2.cons_inv h
  obtain rfl := All2.nil_inv h2
  obtain ⟨l, rfl, hl, hs⟩ := h1.list eRow okRow fit_Row
  exact ⟨l, rfl, hl, hs⟩
def mRowS (x : List GRow) : ML := [(.o 102 (fun _ => [.o 134 (fun _ => [.s, .s, .s])]), .ls [.ls [.sc (.int .i64 0), .sc (.int .i64 0), .sc (.string ⟨#[]⟩)] []] (x.map eRow))]
@[simp] theorem ow_RowS (l : List GRow) : Ow (.o 102 (fun _ => [.o 134 (fun _ => [.s, .s, .s])])) (.ls [.ls [.sc (.int .i64 0), .sc (.int .i64 0), .sc (.string ⟨#[]⟩)] []] (l.map eRow)) = True := eq_true (Ow_rows (fun x j hj => match j, hj with | 0, _ => of_eq_true (ow_ValS x.fVals) | n + 1, hj => absurd hj (by simp)) l)
@[simp] theorem full_RowS (l : List GRow) : Full (.o 102 (fun _ => [.o 134 (fun _ => [.s, .s, .s])])) (.ls [.ls [.sc (.int .i64 0), .sc (.int .i64 0), .sc (.string ⟨#[]⟩)] []] (l.map eRow)) = True := eq_true (Full_rows (fun x j hj => match j, hj with | 0, _ => of_eq_true (full_ValS x.fVals) | n + 1, hj => absurd hj (by simp)) l)
set_option maxHeartbeats 1000000 in
set_option maxRecDepth 8000 in
theorem szRowS_ok (x : List GRow) (left : Int) (h0 : 0 ≤ left) (h1 : left ≤ 1048576) (hs : ∀ n ∈ wRowS x, okM n) : VC Tryz.prog 120 [vRowS x, int .i64 left] [(false, [(.s, .sc (.int .i64 (szL (wRowS x) left)))])] := by
  refine vc_of_ew good hm [0,1,4,11,5,15,25] Tryz.func120 rfl (by kernel_rfl) (by kernel_rfl) rfl ?_
  have hl : x.length ≤ 9223372036854775807 := hs _ (by simp [wRowS])
  simp [Tryz.f120, vRowS]
  rw [wrapI (i := left - x.length) (by omega) (by omega)]
  refine ⟨fun h => by simp [wRowS, szL, h], fun hk => ?_⟩
  refine ew_loop (fun E => ∃ i : Nat, i ≤ x.length ∧ 0 ≤ szL ((x.take i).flatMap wRow) (left - x.length) ∧ E = { nt := 27, sl := [(0, vRowS x), (1, int .i64 (szL ((x.take i).flatMap wRow) (left - x.length))), (5, int .i64 i)], bx := [], rt := [] }) (fun E => x.length - (E.num 5).toNat) _ (Gh.keep _ [0,1,5]) ⟨0, by omega, by simp [szL]; omega, by simp [szL, vRowS]⟩ ?_
  rintro E1 ⟨i, hi, hr0, rfl⟩
  have hr1 := szL_le' (l := (x.take i).flatMap wRow) (left := left - x.length) (by omega)
  simp [vRowS, eRow]
  refine ⟨fun h => ?_, fun h => ?_⟩
  · obtain ⟨q1, q2⟩ := szF_step wRow (dRow) h (by omega : 0 ≤ left - x.length) hr0
    have hm : ∀ n ∈ wRow (x[i]?.getD (dRow)), okM n := fun n hn => hs n (List.mem_cons_of_mem _ (mem_flat h hn))
    have hn1 := szL_neg (wRow (x[i]?.getD (dRow))) _ hr0
    refine ⟨h, .of (szRow_ok _ _ hr0 (by omega) hm) ?_⟩
    simp
    refine ⟨fun h2 => ?_, fun h2 => .of _ (Gh.keep _ [0,1,5]) ⟨i + 1, by omega, ?_, ?_⟩ ?_⟩
    · rw [wRowS, szL, if_neg (by omega), q1 h2]
    · rw [q2]; exact h2
    · rw [q2]; simp [wrapS (show i < 9223372036854775807 by omega)]
    · simp [wrapS (show i < 9223372036854775807 by omega)]; omega
  · rw [wRowS, szL, if_neg (by omega), List.take_of_length_le (by simpa using h)]
set_option maxHeartbeats 1000000 in
set_option maxRecDepth 8000 in
theorem toRowS_ok (x : List GRow) (hs : ∀ n ∈ wRowS x, n ≤ 1048576) : VC Tryz.prog 128 [vRowS x] [(false, mRowS x)] := by
  refine vc_of_ew good hm [0,2,3,4,11] Tryz.func128 rfl (by kernel_rfl) (by kernel_rfl) rfl ?_
  have hl : x.length ≤ 1048576 := hs _ (by simp [wRowS])
  simp [Tryz.f128, vRowS, mRowS]
  refine ⟨by omega, ?_⟩
  refine ew_loop (fun E => ∃ i : Nat, i ≤ x.length ∧ E = { nt := 23, sl := [(0, vRowS x), (3, .v false [.r [7]]), (4, int .i64 i)], bx := [], rt := [(7, .o 102 (fun _ => [.o 134 (fun _ => [.s, .s, .s])]), .ls [.ls [.sc (.int .i64 0), .sc (.int .i64 0), .sc (.string ⟨#[]⟩)] []] (fillR [.ls [.sc (.int .i64 0), .sc (.int .i64 0), .sc (.string ⟨#[]⟩)] []] (x.map eRow) i))] }) (fun E => x.length - (E.num 4).toNat) _ (Gh.keep _ [0,3,4]) ⟨0, by omega, by simp [vRowS, fillR]⟩ ?_
  rintro E1 ⟨i, hi, rfl⟩
  have hfl : (fillR [.ls [.sc (.int .i64 0), .sc (.int .i64 0), .sc (.string ⟨#[]⟩)] []] (x.map eRow) i).length = x.length := by rw [fillR_len _ _ (by simpa using hi)]; simp
  simp [vRowS, eRow] at hfl ⊢
  try simp [hfl]
  refine ⟨fun h => ⟨h, .of (toRow_ok (x[i]?.getD dRow) (fun n hn => hs n (List.mem_cons_of_mem _ (mem_flat (wt := wRow) h hn)))) ?_⟩, fun h => fillR_all _ _ (by simpa using h)⟩
  simp [mRow]
  try simp [hfl, h]
  refine .of _ (Gh.keep _ [0,3,4]) ⟨i + 1, by omega, ?_⟩ ?_
  · have := fillR_set [.ls [.sc (.int .i64 0), .sc (.int .i64 0), .sc (.string ⟨#[]⟩)] []] (x.map eRow) (i := i) (by simpa using h)
    simp [wrapS (show i < 9223372036854775807 by omega), vRowS, eRow, h] at this ⊢
    rw [← this]
  · simp [wrapS (show i < 9223372036854775807 by omega)]; omega
set_option maxHeartbeats 1000000 in
set_option maxRecDepth 8000 in
theorem eqRowS_ok (x : List GRow) (hs : ∀ n ∈ wRowS x, n ≤ 1048576) : VC Tryz.prog 139 [vRowS x, vRowS x] [(false, [(.s, .sc (.bool true))])] := by
  refine vc_of_ew good hm [0,1,4,10,5,14,26] Tryz.func139 rfl (by kernel_rfl) (by kernel_rfl) rfl ?_
  have hl : x.length ≤ 1048576 := hs _ (by simp [wRowS])
  simp [Tryz.f139, vRowS]
  refine ew_loop (fun E => ∃ i : Nat, i ≤ x.length ∧ E = { nt := 27, sl := [(0, vRowS x), (1, vRowS x), (5, int .i64 i)], bx := [], rt := [] }) (fun E => x.length - (E.num 5).toNat) _ (Gh.keep _ [0,1,5]) ⟨0, by omega, by simp [vRowS]⟩ ?_
  rintro E1 ⟨i, hi, rfl⟩
  simp [vRowS, eRow]
  intro h
  refine ⟨h, .of (eqRow_ok (x[i]?.getD dRow) (fun n hn => hs n (List.mem_cons_of_mem _ (mem_flat (wt := wRow) h hn)))) ?_⟩
  simp
  refine .of _ (Gh.keep _ [0,1,5]) ⟨i + 1, by omega, ?_⟩ ?_
  · simp [wrapS (show i < 9223372036854775807 by omega), vRowS]
  · simp [wrapS (show i < 9223372036854775807 by omega)]; omega

/-! ### Rows -/
structure GRows where
  fRows : List GRow
def eRows (x : GRows) : List Lf := [.ls [.ls [.sc (.int .i64 0), .sc (.int .i64 0), .sc (.string ⟨#[]⟩)] []] (x.fRows.map eRow)]
def cRows (x : GRows) : List LV := [.s (.ls [.ls [.sc (.int .i64 0), .sc (.int .i64 0), .sc (.string ⟨#[]⟩)] []] (x.fRows.map eRow))]
def vRows (x : GRows) : SV := .v true [.s (.ls [.ls [.sc (.int .i64 0), .sc (.int .i64 0), .sc (.string ⟨#[]⟩)] []] (x.fRows.map eRow))]
def dRows : GRows := ⟨[]⟩
@[simp] theorem row_Rows (l : List GRows) (i : Nat) : (Option.map eRows l[i]?).getD [.ls [.ls [.sc (.int .i64 0), .sc (.int .i64 0), .sc (.string ⟨#[]⟩)] []] []] = eRows (l[i]?.getD dRows) := by cases l[i]? <;> rfl
def wRows (x : GRows) : List Nat := wRowS x.fRows ++ ([])
def okRows (x : GRows) : Prop := okRowS x.fRows ∧ True
theorem okw_Rows (x : GRows) (h : okRows x) : ∀ n ∈ wRows x, okM n := by
  obtain ⟨h0, _⟩ := h
  intro n hn
  simp only [wRows, List.mem_cons, List.mem_append, List.not_mem_nil, or_false, false_or] at hn
  rcases hn with hn
  · exact okw_RowS _ h0 n hn
theorem fit_Rows (ls : List Lf) (h : Fit ti ck 130 ls) : ∃ x : GRows, ls = eRows x ∧ okRows x := by
  obtain ⟨c0, r0, rfl, h0, g0⟩ := All2.cons_inv h
  obtain ⟨a0, rfl, b0, b0'⟩ := h0.list eRow okRow fit_Row
  obtain rfl := All2.nil_inv g0
  exact ⟨⟨a0⟩, rfl, ⟨⟨b0, b0'⟩, trivial⟩⟩
def mRows (x : GRows) : ML := [(.o 102 (fun _ => [.o 134 (fun _ => [.s, .s, .s])]), .ls [.ls [.sc (.int .i64 0), .sc (.int .i64 0), .sc (.string ⟨#[]⟩)] []] (x.fRows.map eRow))]
set_option maxHeartbeats 1000000 in
set_option maxRecDepth 8000 in
theorem szRows_ok (x : GRows) (left : Int) (h0 : 0 ≤ left) (h1 : left ≤ 1048576) (hs : ∀ n ∈ wRows x, okM n) : VC Tryz.prog 73 [vRows x, int .i64 left] [(false, [(.s, .sc (.int .i64 (szL (wRows x) left)))])] := by
  refine vc_of_ew good hm [0,1,2,4,10] Tryz.func73 rfl (by kernel_rfl) (by kernel_rfl) rfl ?_
  simp [Tryz.f73, vRows]
  refine .of (szRowS_ok x.fRows left (by omega) (by omega) (fun n hn => hs n (by simp [wRows, hn]))) ?_
  simp
  have hb0 := szL_le' (l := wRowS x.fRows) (left := left) (by omega)
  have hc0 := szL_neg (wRowS x.fRows) left (by omega)
  by_cases hn : (szL (wRowS x.fRows) left) < 0
  · have e : szL (wRows x) left = -1 := by rw [wRows, szL_app _ _ _ h0, if_pos hn]
    rw [e]
    try omega
  · have e : szL (wRows x) left = (szL (wRowS x.fRows) left) := by rw [wRows, szL_app _ _ _ h0, if_neg hn]; rfl
    rw [e]
    try omega
set_option maxHeartbeats 1000000 in
set_option maxRecDepth 8000 in
theorem toRows_ok (x : GRows) (hs : ∀ n ∈ wRows x, n ≤ 1048576) : VC Tryz.prog 81 [vRows x] [(true, mRows x)] := by
  refine vc_of_ew good hm [0,1,2,3] Tryz.func81 rfl (by kernel_rfl) (by kernel_rfl) rfl ?_
  simp [Tryz.f81, vRows, mRows]
  refine .of (toRowS_ok x.fRows (fun n hn => hs n (by simp [wRows, hn]))) ?_
  simp [mRowS]
set_option maxHeartbeats 1000000 in
set_option maxRecDepth 8000 in
theorem eqRows_ok (x : GRows) (hs : ∀ n ∈ wRows x, n ≤ 1048576) : VC Tryz.prog 88 [vRows x, vRows x] [(false, [(.s, .sc (.bool true))])] := by
  refine vc_of_ew good hm [0,1,2,3,4,10] Tryz.func88 rfl (by kernel_rfl) (by kernel_rfl) rfl ?_
  simp [Tryz.f88, vRows]
  refine .of (eqRowS_ok x.fRows (fun n hn => hs n (by simp [wRows, hn]))) ?_
  simp

/-! ### []Rows -/
abbrev GRowsS := List GRows
def eRowsS (l : List GRows) : List Lf := [.ls [.ls [.ls [.sc (.int .i64 0), .sc (.int .i64 0), .sc (.string ⟨#[]⟩)] []] []] (l.map eRows)]
def vRowsS (l : List GRows) : SV := list [.ls [.ls [.sc (.int .i64 0), .sc (.int .i64 0), .sc (.string ⟨#[]⟩)] []] []] (l.map eRows)
@[simp] theorem row_RowsS (l : List (List GRows)) (i : Nat) : (Option.map eRowsS l[i]?).getD [.ls [.ls [.ls [.sc (.int .i64 0), .sc (.int .i64 0), .sc (.string ⟨#[]⟩)] []] []] []] = eRowsS (l[i]?.getD []) := by cases l[i]? <;> rfl
def wRowsS (l : List GRows) : List Nat := l.length :: l.flatMap wRows
def okRowsS (l : List GRows) : Prop := okM l.length ∧ ∀ a ∈ l, okRows a
theorem okw_RowsS (l : List GRows) (h : okRowsS l) : ∀ n ∈ wRowsS l, okM n := by
  intro n hn
  rcases List.mem_cons.1 hn with rfl | hn
  · exact h.1
  · obtain ⟨a, ha, hn⟩ := List.mem_flatMap.1 hn
    exact okw_Rows a (h.2 a ha) n hn
theorem fit_RowsS (ls : List Lf) (h : Fit ti ck 25 ls) : ∃ x : List GRows, ls = eRowsS x ∧ okRowsS x := by
  obtain ⟨x, r, rfl, h1, h2⟩ := All2.cons_inv h
  obtain rfl := All2.nil_inv h2
  obtain ⟨l, rfl, hl, hs⟩ := h1.list eRows okRows fit_Rows
  exact ⟨l, rfl, hl, hs⟩
def mRowsS (x : List GRows) : ML := [(.o 123 (fun _ => [.o 102 (fun _ => [.o 134 (fun _ => [.s, .s, .s])])]), .ls [.ls [.ls [.sc (.int .i64 0), .sc (.int .i64 0), .sc (.string ⟨#[]⟩)] []] []] (x.map eRows))]
@[simp] theorem ow_RowsS (l : List GRows) : Ow (.o 123 (fun _ => [.o 102 (fun _ => [.o 134 (fun _ => [.s, .s, .s])])])) (.ls [.ls [.ls [.sc (.int .i64 0), .sc (.int .i64 0), .sc (.string ⟨#[]⟩)] []] []] (l.map eRows)) = True := eq_true (Ow_rows (fun x j hj => match j, hj with | 0, _ => of_eq_true (ow_RowS x.fRows) | n + 1, hj => absurd hj (by simp)) l)
@[simp] theorem full_RowsS (l : List GRows) : Full (.o 123 (fun _ => [.o 102 (fun _ => [.o 134 (fun _ => [.s, .s, .s])])])) (.ls [.ls [.ls [.sc (.int .i64 0), .sc (.int .i64 0), .sc (.string ⟨#[]⟩)] []] []] (l.map eRows)) = True := eq_true (Full_rows (fun x j hj => match j, hj with | 0, _ => of_eq_true (full_RowS x.fRows) | n + 1, hj => absurd hj (by simp)) l)
set_option maxHeartbeats 1000000 in
set_option maxRecDepth 8000 in
theorem szRowsS_ok (x : List GRows) (left : Int) (h0 : 0 ≤ left) (h1 : left ≤ 1048576) (hs : ∀ n ∈ wRowsS x, okM n) : VC Tryz.prog 45 [vRowsS x, int .i64 left] [(false, [(.s, .sc (.int .i64 (szL (wRowsS x) left)))])] := by
  refine vc_of_ew good hm [0,1,4,11,5,15,25] Tryz.func45 rfl (by kernel_rfl) (by kernel_rfl) rfl ?_
  have hl : x.length ≤ 9223372036854775807 := hs _ (by simp [wRowsS])
  simp [Tryz.f45, vRowsS]
  rw [wrapI (i := left - x.length) (by omega) (by omega)]
  refine ⟨fun h => by simp [wRowsS, szL, h], fun hk => ?_⟩
  refine ew_loop (fun E => ∃ i : Nat, i ≤ x.length ∧ 0 ≤ szL ((x.take i).flatMap wRows) (left - x.length) ∧ E = { nt := 27, sl := [(0, vRowsS x), (1, int .i64 (szL ((x.take i).flatMap wRows) (left - x.length))), (5, int .i64 i)], bx := [], rt := [] }) (fun E => x.length - (E.num 5).toNat) _ (Gh.keep _ [0,1,5]) ⟨0, by omega, by simp [szL]; omega, by simp [szL, vRowsS]⟩ ?_
  rintro E1 ⟨i, hi, hr0, rfl⟩
  have hr1 := szL_le' (l := (x.take i).flatMap wRows) (left := left - x.length) (by omega)
  simp [vRowsS, eRows]
  refine ⟨fun h => ?_, fun h => ?_⟩
  · obtain ⟨q1, q2⟩ := szF_step wRows (dRows) h (by omega : 0 ≤ left - x.length) hr0
    have hm : ∀ n ∈ wRows (x[i]?.getD (dRows)), okM n := fun n hn => hs n (List.mem_cons_of_mem _ (mem_flat h hn))
    have hn1 := szL_neg (wRows (x[i]?.getD (dRows))) _ hr0
    refine ⟨h, .of (szRows_ok _ _ hr0 (by omega) hm) ?_⟩
    simp
    refine ⟨fun h2 => ?_, fun h2 => .of _ (Gh.keep _ [0,1,5]) ⟨i + 1, by omega, ?_, ?_⟩ ?_⟩
    · rw [wRowsS, szL, if_neg (by omega), q1 h2]
    · rw [q2]; exact h2
    · rw [q2]; simp [wrapS (show i < 9223372036854775807 by omega)]
    · simp [wrapS (show i < 9223372036854775807 by omega)]; omega
  · rw [wRowsS, szL, if_neg (by omega), List.take_of_length_le (by simpa using h)]
set_option maxHeartbeats 1000000 in
set_option maxRecDepth 8000 in
theorem toRowsS_ok (x : List GRows) (hs : ∀ n ∈ wRowsS x, n ≤ 1048576) : VC Tryz.prog 49 [vRowsS x] [(false, mRowsS x)] := by
  refine vc_of_ew good hm [0,2,3,4,11] Tryz.func49 rfl (by kernel_rfl) (by kernel_rfl) rfl ?_
  have hl : x.length ≤ 1048576 := hs _ (by simp [wRowsS])
  simp [Tryz.f49, vRowsS, mRowsS]
  refine ⟨by omega, ?_⟩
  refine ew_loop (fun E => ∃ i : Nat, i ≤ x.length ∧ E = { nt := 23, sl := [(0, vRowsS x), (3, .v false [.r [7]]), (4, int .i64 i)], bx := [], rt := [(7, .o 123 (fun _ => [.o 102 (fun _ => [.o 134 (fun _ => [.s, .s, .s])])]), .ls [.ls [.ls [.sc (.int .i64 0), .sc (.int .i64 0), .sc (.string ⟨#[]⟩)] []] []] (fillR [.ls [.ls [.sc (.int .i64 0), .sc (.int .i64 0), .sc (.string ⟨#[]⟩)] []] []] (x.map eRows) i))] }) (fun E => x.length - (E.num 4).toNat) _ (Gh.keep _ [0,3,4]) ⟨0, by omega, by simp [vRowsS, fillR]⟩ ?_
  rintro E1 ⟨i, hi, rfl⟩
  have hfl : (fillR [.ls [.ls [.sc (.int .i64 0), .sc (.int .i64 0), .sc (.string ⟨#[]⟩)] []] []] (x.map eRows) i).length = x.length := by rw [fillR_len _ _ (by simpa using hi)]; simp
  simp [vRowsS, eRows] at hfl ⊢
  try simp [hfl]
  refine ⟨fun h => ⟨h, .of (toRows_ok (x[i]?.getD dRows) (fun n hn => hs n (List.mem_cons_of_mem _ (mem_flat (wt := wRows) h hn)))) ?_⟩, fun h => fillR_all _ _ (by simpa using h)⟩
  simp [mRows]
  try simp [hfl, h]
  refine .of _ (Gh.keep _ [0,3,4]) ⟨i + 1, by omega, ?_⟩ ?_
  · have := fillR_set [.ls [.ls [.sc (.int .i64 0), .sc (.int .i64 0), .sc (.string ⟨#[]⟩)] []] []] (x.map eRows) (i := i) (by simpa using h)
    simp [wrapS (show i < 9223372036854775807 by omega), vRowsS, eRows, h] at this ⊢
    rw [← this]
  · simp [wrapS (show i < 9223372036854775807 by omega)]; omega
set_option maxHeartbeats 1000000 in
set_option maxRecDepth 8000 in
theorem eqRowsS_ok (x : List GRows) (hs : ∀ n ∈ wRowsS x, n ≤ 1048576) : VC Tryz.prog 53 [vRowsS x, vRowsS x] [(false, [(.s, .sc (.bool true))])] := by
  refine vc_of_ew good hm [0,1,4,10,5,14,26] Tryz.func53 rfl (by kernel_rfl) (by kernel_rfl) rfl ?_
  have hl : x.length ≤ 1048576 := hs _ (by simp [wRowsS])
  simp [Tryz.f53, vRowsS]
  refine ew_loop (fun E => ∃ i : Nat, i ≤ x.length ∧ E = { nt := 27, sl := [(0, vRowsS x), (1, vRowsS x), (5, int .i64 i)], bx := [], rt := [] }) (fun E => x.length - (E.num 5).toNat) _ (Gh.keep _ [0,1,5]) ⟨0, by omega, by simp [vRowsS]⟩ ?_
  rintro E1 ⟨i, hi, rfl⟩
  simp [vRowsS, eRows]
  intro h
  refine ⟨h, .of (eqRows_ok (x[i]?.getD dRows) (fun n hn => hs n (List.mem_cons_of_mem _ (mem_flat (wt := wRows) h hn)))) ?_⟩
  simp
  refine .of _ (Gh.keep _ [0,1,5]) ⟨i + 1, by omega, ?_⟩ ?_
  · simp [wrapS (show i < 9223372036854775807 by omega), vRowsS]
  · simp [wrapS (show i < 9223372036854775807 by omega)]; omega

/-! ### Db -/
structure GDb where
  fCat : GCat
  fData : List GRows
def eDb (x : GDb) : List Lf := [.ls [.sc (.string ⟨#[]⟩), .ls [.sc (.string ⟨#[]⟩), .sc (.int .i64 0), .sc (.bool false), .sc (.bool false), .sc (.int .i64 0), .sc (.int .i64 0), .sc (.string ⟨#[]⟩)] [], .ls [.sc (.string ⟨#[]⟩)] []] (x.fCat.fTables.map eTable), .ls [.ls [.ls [.sc (.int .i64 0), .sc (.int .i64 0), .sc (.string ⟨#[]⟩)] []] []] (x.fData.map eRows)]
def cDb (x : GDb) : List LV := [.s (.ls [.sc (.string ⟨#[]⟩), .ls [.sc (.string ⟨#[]⟩), .sc (.int .i64 0), .sc (.bool false), .sc (.bool false), .sc (.int .i64 0), .sc (.int .i64 0), .sc (.string ⟨#[]⟩)] [], .ls [.sc (.string ⟨#[]⟩)] []] (x.fCat.fTables.map eTable)), .s (.ls [.ls [.ls [.sc (.int .i64 0), .sc (.int .i64 0), .sc (.string ⟨#[]⟩)] []] []] (x.fData.map eRows))]
def vDb (x : GDb) : SV := .v true [.s (.ls [.sc (.string ⟨#[]⟩), .ls [.sc (.string ⟨#[]⟩), .sc (.int .i64 0), .sc (.bool false), .sc (.bool false), .sc (.int .i64 0), .sc (.int .i64 0), .sc (.string ⟨#[]⟩)] [], .ls [.sc (.string ⟨#[]⟩)] []] (x.fCat.fTables.map eTable)), .s (.ls [.ls [.ls [.sc (.int .i64 0), .sc (.int .i64 0), .sc (.string ⟨#[]⟩)] []] []] (x.fData.map eRows))]
def dDb : GDb := ⟨⟨[]⟩, []⟩
@[simp] theorem row_Db (l : List GDb) (i : Nat) : (Option.map eDb l[i]?).getD [.ls [.sc (.string ⟨#[]⟩), .ls [.sc (.string ⟨#[]⟩), .sc (.int .i64 0), .sc (.bool false), .sc (.bool false), .sc (.int .i64 0), .sc (.int .i64 0), .sc (.string ⟨#[]⟩)] [], .ls [.sc (.string ⟨#[]⟩)] []] [], .ls [.ls [.ls [.sc (.int .i64 0), .sc (.int .i64 0), .sc (.string ⟨#[]⟩)] []] []] []] = eDb (l[i]?.getD dDb) := by cases l[i]? <;> rfl
def wDb (x : GDb) : List Nat := wCat x.fCat ++ (wRowsS x.fData ++ ([]))
def okDb (x : GDb) : Prop := okCat x.fCat ∧ okRowsS x.fData ∧ True
theorem okw_Db (x : GDb) (h : okDb x) : ∀ n ∈ wDb x, okM n := by
  obtain ⟨h0, h1, _⟩ := h
  intro n hn
  simp only [wDb, List.mem_cons, List.mem_append, List.not_mem_nil, or_false, false_or] at hn
  rcases hn with hn | hn
  · exact okw_Cat _ h0 n hn
  · exact okw_RowsS _ h1 n hn
theorem fit_Db (ls : List Lf) (h : Fit ti ck 27 ls) : ∃ x : GDb, ls = eDb x ∧ okDb x := by
  obtain ⟨c0, r0, rfl, h0, g0⟩ := All2.cons_inv h
  obtain ⟨a0, rfl, b0, b0'⟩ := h0.list eTable okTable fit_Table
  obtain ⟨c1, r1, rfl, h1, g1⟩ := All2.cons_inv g0
  obtain ⟨a1, rfl, b1, b1'⟩ := h1.list eRows okRows fit_Rows
  obtain rfl := All2.nil_inv g1
  exact ⟨⟨⟨a0⟩, a1⟩, rfl, ⟨⟨⟨b0, b0'⟩, trivial⟩, ⟨b1, b1'⟩, trivial⟩⟩
def mDb (x : GDb) : ML := [(.o 119 (fun _ => [.s, .o 136 (fun _ => [.s, .s, .s, .s, .s, .s, .s]), .o 9 (fun _ => [.s])]), .ls [.sc (.string ⟨#[]⟩), .ls [.sc (.string ⟨#[]⟩), .sc (.int .i64 0), .sc (.bool false), .sc (.bool false), .sc (.int .i64 0), .sc (.int .i64 0), .sc (.string ⟨#[]⟩)] [], .ls [.sc (.string ⟨#[]⟩)] []] (x.fCat.fTables.map eTable)), (.o 123 (fun _ => [.o 102 (fun _ => [.o 134 (fun _ => [.s, .s, .s])])]), .ls [.ls [.ls [.sc (.int .i64 0), .sc (.int .i64 0), .sc (.string ⟨#[]⟩)] []] []] (x.fData.map eRows))]
set_option maxHeartbeats 1000000 in
set_option maxRecDepth 8000 in
theorem szDb_ok (x : GDb) (left : Int) (h0 : 0 ≤ left) (h1 : left ≤ 1048576) (hs : ∀ n ∈ wDb x, okM n) : VC Tryz.prog 18 [vDb x, int .i64 left] [(false, [(.s, .sc (.int .i64 (szL (wDb x) left)))])] := by
  refine vc_of_ew good hm [0,1,2,4,10,16] Tryz.func18 rfl (by kernel_rfl) (by kernel_rfl) rfl ?_
  simp [Tryz.f18, vDb]
  refine .of (szCat_ok x.fCat left (by omega) (by omega) (fun n hn => hs n (by simp [wDb, hn]))) ?_
  simp
  have hb0 := szL_le' (l := wCat x.fCat) (left := left) (by omega)
  have hc0 := szL_neg (wCat x.fCat) left (by omega)
  refine ⟨fun hn => ?_, fun hk0 => ?_⟩
  · have e : szL (wDb x) left = -1 := by rw [wDb, szL_app _ _ _ h0, if_pos (by omega)]
    rw [e]
    try omega
  have hq0 : ¬ (szL (wCat x.fCat) left) < 0 := by omega
  have hz0 : 0 ≤ (szL (wCat x.fCat) left) := by omega
  refine .of (szRowsS_ok x.fData (szL (wCat x.fCat) left) (by omega) (by omega) (fun n hn => hs n (by simp [wDb, hn]))) ?_
  simp
  have hb1 := szL_le' (l := wRowsS x.fData) (left := (szL (wCat x.fCat) left)) (by omega)
  have hc1 := szL_neg (wRowsS x.fData) (szL (wCat x.fCat) left) (by omega)
  by_cases hn : (szL (wRowsS x.fData) (szL (wCat x.fCat) left)) < 0
  · have e : szL (wDb x) left = -1 := by rw [wDb, szL_app _ _ _ h0, if_neg hq0, szL_app _ _ _ hz0, if_pos hn]
    rw [e]
    try omega
  · have e : szL (wDb x) left = (szL (wRowsS x.fData) (szL (wCat x.fCat) left)) := by rw [wDb, szL_app _ _ _ h0, if_neg hq0, szL_app _ _ _ hz0, if_neg hn]; rfl
    rw [e]
    try omega
set_option maxHeartbeats 1000000 in
set_option maxRecDepth 8000 in
theorem toDb_ok (x : GDb) (hs : ∀ n ∈ wDb x, n ≤ 1048576) : VC Tryz.prog 20 [vDb x] [(true, mDb x)] := by
  refine vc_of_ew good hm [0,1,2,3] Tryz.func20 rfl (by kernel_rfl) (by kernel_rfl) rfl ?_
  simp [Tryz.f20, vDb, mDb]
  refine .of (toCat_ok x.fCat (fun n hn => hs n (by simp [wDb, hn]))) ?_
  simp [mCat]
  refine .of (toRowsS_ok x.fData (fun n hn => hs n (by simp [wDb, hn]))) ?_
  simp [mRowsS]
set_option maxHeartbeats 1000000 in
set_option maxRecDepth 8000 in
theorem eqDb_ok (x : GDb) (hs : ∀ n ∈ wDb x, n ≤ 1048576) : VC Tryz.prog 22 [vDb x, vDb x] [(false, [(.s, .sc (.bool true))])] := by
  refine vc_of_ew good hm [0,1,2,3,4,10,16] Tryz.func22 rfl (by kernel_rfl) (by kernel_rfl) rfl ?_
  simp [Tryz.f22, vDb]
  refine .of (eqCat_ok x.fCat (fun n hn => hs n (by simp [wDb, hn]))) ?_
  simp
  refine .of (eqRowsS_ok x.fData (fun n hn => hs n (by simp [wDb, hn]))) ?_
  simp

/-! ### Ddl -/
structure GDdl where
  fKind : Int
  fTable : ByteArray
  fCols : List GCol
  fKeys : List ByteArray
  fName : ByteArray
  fTo : ByteArray
def eDdl (x : GDdl) : List Lf := [.sc (.int .i64 x.fKind), .sc (.string x.fTable), .ls [.sc (.string ⟨#[]⟩), .sc (.int .i64 0), .sc (.bool false), .sc (.bool false), .sc (.int .i64 0), .sc (.int .i64 0), .sc (.string ⟨#[]⟩)] (x.fCols.map eCol), .ls [.sc (.string ⟨#[]⟩)] (x.fKeys.map eStr), .sc (.string x.fName), .sc (.string x.fTo)]
def cDdl (x : GDdl) : List LV := [.s (.sc (.int .i64 x.fKind)), .s (.sc (.string x.fTable)), .s (.ls [.sc (.string ⟨#[]⟩), .sc (.int .i64 0), .sc (.bool false), .sc (.bool false), .sc (.int .i64 0), .sc (.int .i64 0), .sc (.string ⟨#[]⟩)] (x.fCols.map eCol)), .s (.ls [.sc (.string ⟨#[]⟩)] (x.fKeys.map eStr)), .s (.sc (.string x.fName)), .s (.sc (.string x.fTo))]
def vDdl (x : GDdl) : SV := .v true [.s (.sc (.int .i64 x.fKind)), .s (.sc (.string x.fTable)), .s (.ls [.sc (.string ⟨#[]⟩), .sc (.int .i64 0), .sc (.bool false), .sc (.bool false), .sc (.int .i64 0), .sc (.int .i64 0), .sc (.string ⟨#[]⟩)] (x.fCols.map eCol)), .s (.ls [.sc (.string ⟨#[]⟩)] (x.fKeys.map eStr)), .s (.sc (.string x.fName)), .s (.sc (.string x.fTo))]
def dDdl : GDdl := ⟨0, ⟨#[]⟩, [], [], ⟨#[]⟩, ⟨#[]⟩⟩
@[simp] theorem row_Ddl (l : List GDdl) (i : Nat) : (Option.map eDdl l[i]?).getD [.sc (.int .i64 0), .sc (.string ⟨#[]⟩), .ls [.sc (.string ⟨#[]⟩), .sc (.int .i64 0), .sc (.bool false), .sc (.bool false), .sc (.int .i64 0), .sc (.int .i64 0), .sc (.string ⟨#[]⟩)] [], .ls [.sc (.string ⟨#[]⟩)] [], .sc (.string ⟨#[]⟩), .sc (.string ⟨#[]⟩)] = eDdl (l[i]?.getD dDdl) := by cases l[i]? <;> rfl
def wDdl (x : GDdl) : List Nat := x.fTable.size :: (wColS x.fCols ++ (wStrS x.fKeys ++ (x.fName.size :: (x.fTo.size :: ([])))))
def okDdl (x : GDdl) : Prop := okI x.fKind ∧ okM x.fTable.size ∧ okColS x.fCols ∧ okStrS x.fKeys ∧ okM x.fName.size ∧ okM x.fTo.size ∧ True
theorem okw_Ddl (x : GDdl) (h : okDdl x) : ∀ n ∈ wDdl x, okM n := by
  obtain ⟨h0, h1, h2, h3, h4, h5, _⟩ := h
  intro n hn
  simp only [wDdl, List.mem_cons, List.mem_append, List.not_mem_nil, or_false, false_or] at hn
  rcases hn with rfl | hn | hn | rfl | rfl
  · exact h1
  · exact okw_ColS _ h2 n hn
  · exact okw_StrS _ h3 n hn
  · exact h4
  · exact h5
theorem fit_Ddl (ls : List Lf) (h : Fit ti ck 94 ls) : ∃ x : GDdl, ls = eDdl x ∧ okDdl x := by
  obtain ⟨c0, r0, rfl, h0, g0⟩ := All2.cons_inv h
  obtain ⟨a0, rfl, b0⟩ := h0.int_inv
  obtain ⟨c1, r1, rfl, h1, g1⟩ := All2.cons_inv g0
  obtain ⟨a1, rfl, b1⟩ := h1.str_inv
  obtain ⟨c2, r2, rfl, h2, g2⟩ := All2.cons_inv g1
  obtain ⟨a2, rfl, b2, b2'⟩ := h2.list eCol okCol fit_Col
  obtain ⟨c3, r3, rfl, h3, g3⟩ := All2.cons_inv g2
  obtain ⟨a3, rfl, b3, b3'⟩ := h3.list eStr okStr fit_Str
  obtain ⟨c4, r4, rfl, h4, g4⟩ := All2.cons_inv g3
  obtain ⟨a4, rfl, b4⟩ := h4.str_inv
  obtain ⟨c5, r5, rfl, h5, g5⟩ := All2.cons_inv g4
  obtain ⟨a5, rfl, b5⟩ := h5.str_inv
  obtain rfl := All2.nil_inv g5
  exact ⟨⟨a0, a1, a2, a3, a4, a5⟩, rfl, ⟨okI_wf b0, b1, ⟨b2, b2'⟩, ⟨b3, b3'⟩, b4, b5, trivial⟩⟩
def mDdl (x : GDdl) : ML := [(.s, .sc (.int .i64 x.fKind)), (.s, .sc (.string x.fTable)), (.o 136 (fun _ => [.s, .s, .s, .s, .s, .s, .s]), .ls [.sc (.string ⟨#[]⟩), .sc (.int .i64 0), .sc (.bool false), .sc (.bool false), .sc (.int .i64 0), .sc (.int .i64 0), .sc (.string ⟨#[]⟩)] (x.fCols.map eCol)), (.o 9 (fun _ => [.s]), .ls [.sc (.string ⟨#[]⟩)] (x.fKeys.map eStr)), (.s, .sc (.string x.fName)), (.s, .sc (.string x.fTo))]
set_option maxHeartbeats 1000000 in
set_option maxRecDepth 8000 in
theorem szDdl_ok (x : GDdl) (left : Int) (h0 : 0 ≤ left) (h1 : left ≤ 1048576) (hs : ∀ n ∈ wDdl x, okM n) : VC Tryz.prog 142 [vDdl x, int .i64 left] [(false, [(.s, .sc (.int .i64 (szL (wDdl x) left)))])] := by
  refine vc_of_ew good hm [0,1,2,4,11,17,23,30,37] Tryz.func142 rfl (by kernel_rfl) (by kernel_rfl) rfl ?_
  simp [Tryz.f142, vDdl]
  have hb0 : x.fTable.size ≤ 9223372036854775807 := hs _ (by simp [wDdl])
  rw [wrapI (i := left - (x.fTable.size : Nat)) (by omega) (by omega)]
  refine ⟨fun hn => ?_, fun hk0 => ?_⟩
  · have e : szL (wDdl x) left = -1 := by rw [wDdl, szL, if_pos (by omega)]
    rw [e]
    try omega
  have hq0 : ¬ (left - (x.fTable.size : Nat)) < 0 := by omega
  have hz0 : 0 ≤ (left - (x.fTable.size : Nat)) := by omega
  refine .of (szColS_ok x.fCols (left - (x.fTable.size : Nat)) (by omega) (by omega) (fun n hn => hs n (by simp [wDdl, hn]))) ?_
  simp
  have hb1 := szL_le' (l := wColS x.fCols) (left := (left - (x.fTable.size : Nat))) (by omega)
  have hc1 := szL_neg (wColS x.fCols) (left - (x.fTable.size : Nat)) (by omega)
  refine ⟨fun hn => ?_, fun hk1 => ?_⟩
  · have e : szL (wDdl x) left = -1 := by rw [wDdl, szL, if_neg hq0, szL_app _ _ _ hz0, if_pos (by omega)]
    rw [e]
    try omega
  have hq1 : ¬ (szL (wColS x.fCols) (left - (x.fTable.size : Nat))) < 0 := by omega
  have hz1 : 0 ≤ (szL (wColS x.fCols) (left - (x.fTable.size : Nat))) := by omega
  refine .of (szStrS_ok x.fKeys (szL (wColS x.fCols) (left - (x.fTable.size : Nat))) (by omega) (by omega) (fun n hn => hs n (by simp [wDdl, hn]))) ?_
  simp
  have hb2 := szL_le' (l := wStrS x.fKeys) (left := (szL (wColS x.fCols) (left - (x.fTable.size : Nat)))) (by omega)
  have hc2 := szL_neg (wStrS x.fKeys) (szL (wColS x.fCols) (left - (x.fTable.size : Nat))) (by omega)
  refine ⟨fun hn => ?_, fun hk2 => ?_⟩
  · have e : szL (wDdl x) left = -1 := by rw [wDdl, szL, if_neg hq0, szL_app _ _ _ hz0, if_neg hq1, szL_app _ _ _ hz1, if_pos (by omega)]
    rw [e]
    try omega
  have hq2 : ¬ (szL (wStrS x.fKeys) (szL (wColS x.fCols) (left - (x.fTable.size : Nat)))) < 0 := by omega
  have hz2 : 0 ≤ (szL (wStrS x.fKeys) (szL (wColS x.fCols) (left - (x.fTable.size : Nat)))) := by omega
  have hb3 : x.fName.size ≤ 9223372036854775807 := hs _ (by simp [wDdl])
  rw [wrapI (i := (szL (wStrS x.fKeys) (szL (wColS x.fCols) (left - (x.fTable.size : Nat)))) - (x.fName.size : Nat)) (by omega) (by omega)]
  refine ⟨fun hn => ?_, fun hk3 => ?_⟩
  · have e : szL (wDdl x) left = -1 := by rw [wDdl, szL, if_neg hq0, szL_app _ _ _ hz0, if_neg hq1, szL_app _ _ _ hz1, if_neg hq2, szL, if_pos (by omega)]
    rw [e]
    try omega
  have hq3 : ¬ ((szL (wStrS x.fKeys) (szL (wColS x.fCols) (left - (x.fTable.size : Nat)))) - (x.fName.size : Nat)) < 0 := by omega
  have hz3 : 0 ≤ ((szL (wStrS x.fKeys) (szL (wColS x.fCols) (left - (x.fTable.size : Nat)))) - (x.fName.size : Nat)) := by omega
  have hb4 : x.fTo.size ≤ 9223372036854775807 := hs _ (by simp [wDdl])
  rw [wrapI (i := ((szL (wStrS x.fKeys) (szL (wColS x.fCols) (left - (x.fTable.size : Nat)))) - (x.fName.size : Nat)) - (x.fTo.size : Nat)) (by omega) (by omega)]
  by_cases hn : (((szL (wStrS x.fKeys) (szL (wColS x.fCols) (left - (x.fTable.size : Nat)))) - (x.fName.size : Nat)) - (x.fTo.size : Nat)) < 0
  · have e : szL (wDdl x) left = -1 := by rw [wDdl, szL, if_neg hq0, szL_app _ _ _ hz0, if_neg hq1, szL_app _ _ _ hz1, if_neg hq2, szL, if_neg hq3, szL, if_pos hn]
    rw [e]
    try omega
  · have e : szL (wDdl x) left = (((szL (wStrS x.fKeys) (szL (wColS x.fCols) (left - (x.fTable.size : Nat)))) - (x.fName.size : Nat)) - (x.fTo.size : Nat)) := by rw [wDdl, szL, if_neg hq0, szL_app _ _ _ hz0, if_neg hq1, szL_app _ _ _ hz1, if_neg hq2, szL, if_neg hq3, szL, if_neg hn]; rfl
    rw [e]
    try omega
set_option maxHeartbeats 1000000 in
set_option maxRecDepth 8000 in
theorem toDdl_ok (x : GDdl) (hs : ∀ n ∈ wDdl x, n ≤ 1048576) : VC Tryz.prog 149 [vDdl x] [(true, mDdl x)] := by
  refine vc_of_ew good hm [0,1,2,3] Tryz.func149 rfl (by kernel_rfl) (by kernel_rfl) rfl ?_
  simp [Tryz.f149, vDdl, mDdl]
  refine .of (toColS_ok x.fCols (fun n hn => hs n (by simp [wDdl, hn]))) ?_
  simp [mColS]
  refine .of (toStrS_ok x.fKeys (fun n hn => hs n (by simp [wDdl, hn]))) ?_
  simp [mStrS]
set_option maxHeartbeats 1000000 in
set_option maxRecDepth 8000 in
theorem eqDdl_ok (x : GDdl) (hs : ∀ n ∈ wDdl x, n ≤ 1048576) : VC Tryz.prog 158 [vDdl x, vDdl x] [(false, [(.s, .sc (.bool true))])] := by
  refine vc_of_ew good hm [0,1,2,3,4,9,14,20,26,31,36] Tryz.func158 rfl (by kernel_rfl) (by kernel_rfl) rfl ?_
  simp [Tryz.f158, vDdl]
  refine .of (eqColS_ok x.fCols (fun n hn => hs n (by simp [wDdl, hn]))) ?_
  simp
  refine .of (eqStrS_ok x.fKeys (fun n hn => hs n (by simp [wDdl, hn]))) ?_
  simp

/-! ### Fol -/
structure GFol where
  fDb : GDb
  fAt : Int
  fHalt : Int
def eFol (x : GFol) : List Lf := [.ls [.sc (.string ⟨#[]⟩), .ls [.sc (.string ⟨#[]⟩), .sc (.int .i64 0), .sc (.bool false), .sc (.bool false), .sc (.int .i64 0), .sc (.int .i64 0), .sc (.string ⟨#[]⟩)] [], .ls [.sc (.string ⟨#[]⟩)] []] (x.fDb.fCat.fTables.map eTable), .ls [.ls [.ls [.sc (.int .i64 0), .sc (.int .i64 0), .sc (.string ⟨#[]⟩)] []] []] (x.fDb.fData.map eRows), .sc (.int .i64 x.fAt), .sc (.int .i64 x.fHalt)]
def cFol (x : GFol) : List LV := [.s (.ls [.sc (.string ⟨#[]⟩), .ls [.sc (.string ⟨#[]⟩), .sc (.int .i64 0), .sc (.bool false), .sc (.bool false), .sc (.int .i64 0), .sc (.int .i64 0), .sc (.string ⟨#[]⟩)] [], .ls [.sc (.string ⟨#[]⟩)] []] (x.fDb.fCat.fTables.map eTable)), .s (.ls [.ls [.ls [.sc (.int .i64 0), .sc (.int .i64 0), .sc (.string ⟨#[]⟩)] []] []] (x.fDb.fData.map eRows)), .s (.sc (.int .i64 x.fAt)), .s (.sc (.int .i64 x.fHalt))]
def vFol (x : GFol) : SV := .v true [.s (.ls [.sc (.string ⟨#[]⟩), .ls [.sc (.string ⟨#[]⟩), .sc (.int .i64 0), .sc (.bool false), .sc (.bool false), .sc (.int .i64 0), .sc (.int .i64 0), .sc (.string ⟨#[]⟩)] [], .ls [.sc (.string ⟨#[]⟩)] []] (x.fDb.fCat.fTables.map eTable)), .s (.ls [.ls [.ls [.sc (.int .i64 0), .sc (.int .i64 0), .sc (.string ⟨#[]⟩)] []] []] (x.fDb.fData.map eRows)), .s (.sc (.int .i64 x.fAt)), .s (.sc (.int .i64 x.fHalt))]
def dFol : GFol := ⟨⟨⟨[]⟩, []⟩, 0, 0⟩
@[simp] theorem row_Fol (l : List GFol) (i : Nat) : (Option.map eFol l[i]?).getD [.ls [.sc (.string ⟨#[]⟩), .ls [.sc (.string ⟨#[]⟩), .sc (.int .i64 0), .sc (.bool false), .sc (.bool false), .sc (.int .i64 0), .sc (.int .i64 0), .sc (.string ⟨#[]⟩)] [], .ls [.sc (.string ⟨#[]⟩)] []] [], .ls [.ls [.ls [.sc (.int .i64 0), .sc (.int .i64 0), .sc (.string ⟨#[]⟩)] []] []] [], .sc (.int .i64 0), .sc (.int .i64 0)] = eFol (l[i]?.getD dFol) := by cases l[i]? <;> rfl
def wFol (x : GFol) : List Nat := wDb x.fDb ++ ([])
def okFol (x : GFol) : Prop := okDb x.fDb ∧ okI x.fAt ∧ okI x.fHalt ∧ True
theorem okw_Fol (x : GFol) (h : okFol x) : ∀ n ∈ wFol x, okM n := by
  obtain ⟨h0, h1, h2, _⟩ := h
  intro n hn
  simp only [wFol, List.mem_cons, List.mem_append, List.not_mem_nil, or_false, false_or] at hn
  rcases hn with hn
  · exact okw_Db _ h0 n hn
theorem fit_Fol (ls : List Lf) (h : Fit ti ck 29 ls) : ∃ x : GFol, ls = eFol x ∧ okFol x := by
  obtain ⟨c0, r0, rfl, h0, g0⟩ := All2.cons_inv h
  obtain ⟨a0, rfl, b0, b0'⟩ := h0.list eTable okTable fit_Table
  obtain ⟨c1, r1, rfl, h1, g1⟩ := All2.cons_inv g0
  obtain ⟨a1, rfl, b1, b1'⟩ := h1.list eRows okRows fit_Rows
  obtain ⟨c2, r2, rfl, h2, g2⟩ := All2.cons_inv g1
  obtain ⟨a2, rfl, b2⟩ := h2.int_inv
  obtain ⟨c3, r3, rfl, h3, g3⟩ := All2.cons_inv g2
  obtain ⟨a3, rfl, b3⟩ := h3.int_inv
  obtain rfl := All2.nil_inv g3
  exact ⟨⟨⟨⟨a0⟩, a1⟩, a2, a3⟩, rfl, ⟨⟨⟨⟨b0, b0'⟩, trivial⟩, ⟨b1, b1'⟩, trivial⟩, okI_wf b2, okI_wf b3, trivial⟩⟩
def mFol (x : GFol) : ML := [(.o 119 (fun _ => [.s, .o 136 (fun _ => [.s, .s, .s, .s, .s, .s, .s]), .o 9 (fun _ => [.s])]), .ls [.sc (.string ⟨#[]⟩), .ls [.sc (.string ⟨#[]⟩), .sc (.int .i64 0), .sc (.bool false), .sc (.bool false), .sc (.int .i64 0), .sc (.int .i64 0), .sc (.string ⟨#[]⟩)] [], .ls [.sc (.string ⟨#[]⟩)] []] (x.fDb.fCat.fTables.map eTable)), (.o 123 (fun _ => [.o 102 (fun _ => [.o 134 (fun _ => [.s, .s, .s])])]), .ls [.ls [.ls [.sc (.int .i64 0), .sc (.int .i64 0), .sc (.string ⟨#[]⟩)] []] []] (x.fDb.fData.map eRows)), (.s, .sc (.int .i64 x.fAt)), (.s, .sc (.int .i64 x.fHalt))]
set_option maxHeartbeats 1000000 in
set_option maxRecDepth 8000 in
theorem szFol_ok (x : GFol) (left : Int) (h0 : 0 ≤ left) (h1 : left ≤ 1048576) (hs : ∀ n ∈ wFol x, okM n) : VC Tryz.prog 8 [vFol x, int .i64 left] [(false, [(.s, .sc (.int .i64 (szL (wFol x) left)))])] := by
  refine vc_of_ew good hm [0,1,2,4,10] Tryz.func8 rfl (by kernel_rfl) (by kernel_rfl) rfl ?_
  simp [Tryz.f8, vFol]
  refine .of (szDb_ok x.fDb left (by omega) (by omega) (fun n hn => hs n (by simp [wFol, hn]))) ?_
  simp
  have hb0 := szL_le' (l := wDb x.fDb) (left := left) (by omega)
  have hc0 := szL_neg (wDb x.fDb) left (by omega)
  by_cases hn : (szL (wDb x.fDb) left) < 0
  · have e : szL (wFol x) left = -1 := by rw [wFol, szL_app _ _ _ h0, if_pos hn]
    rw [e]
    try omega
  · have e : szL (wFol x) left = (szL (wDb x.fDb) left) := by rw [wFol, szL_app _ _ _ h0, if_neg hn]; rfl
    rw [e]
    try omega
set_option maxHeartbeats 1000000 in
set_option maxRecDepth 8000 in
theorem toFol_ok (x : GFol) (hs : ∀ n ∈ wFol x, n ≤ 1048576) : VC Tryz.prog 10 [vFol x] [(true, mFol x)] := by
  refine vc_of_ew good hm [0,1,2,3] Tryz.func10 rfl (by kernel_rfl) (by kernel_rfl) rfl ?_
  simp [Tryz.f10, vFol, mFol]
  refine .of (toDb_ok x.fDb (fun n hn => hs n (by simp [wFol, hn]))) ?_
  simp [mDb]
set_option maxHeartbeats 1000000 in
set_option maxRecDepth 8000 in
theorem eqFol_ok (x : GFol) (hs : ∀ n ∈ wFol x, n ≤ 1048576) : VC Tryz.prog 12 [vFol x, vFol x] [(false, [(.s, .sc (.bool true))])] := by
  refine vc_of_ew good hm [0,1,2,3,4,10,15,20] Tryz.func12 rfl (by kernel_rfl) (by kernel_rfl) rfl ?_
  simp [Tryz.f12, vFol]
  refine .of (eqDb_ok x.fDb (fun n hn => hs n (by simp [wFol, hn]))) ?_
  simp

/-! ### Stmt -/
structure GStmt where
  fKind : Int
  fTable : ByteArray
  fKey : List GVal
  fRow : GRow
  fDdl : GDdl
def eStmt (x : GStmt) : List Lf := [.sc (.int .i64 x.fKind), .sc (.string x.fTable), .ls [.sc (.int .i64 0), .sc (.int .i64 0), .sc (.string ⟨#[]⟩)] (x.fKey.map eVal), .ls [.sc (.int .i64 0), .sc (.int .i64 0), .sc (.string ⟨#[]⟩)] (x.fRow.fVals.map eVal), .sc (.int .i64 x.fDdl.fKind), .sc (.string x.fDdl.fTable), .ls [.sc (.string ⟨#[]⟩), .sc (.int .i64 0), .sc (.bool false), .sc (.bool false), .sc (.int .i64 0), .sc (.int .i64 0), .sc (.string ⟨#[]⟩)] (x.fDdl.fCols.map eCol), .ls [.sc (.string ⟨#[]⟩)] (x.fDdl.fKeys.map eStr), .sc (.string x.fDdl.fName), .sc (.string x.fDdl.fTo)]
def cStmt (x : GStmt) : List LV := [.s (.sc (.int .i64 x.fKind)), .s (.sc (.string x.fTable)), .s (.ls [.sc (.int .i64 0), .sc (.int .i64 0), .sc (.string ⟨#[]⟩)] (x.fKey.map eVal)), .s (.ls [.sc (.int .i64 0), .sc (.int .i64 0), .sc (.string ⟨#[]⟩)] (x.fRow.fVals.map eVal)), .s (.sc (.int .i64 x.fDdl.fKind)), .s (.sc (.string x.fDdl.fTable)), .s (.ls [.sc (.string ⟨#[]⟩), .sc (.int .i64 0), .sc (.bool false), .sc (.bool false), .sc (.int .i64 0), .sc (.int .i64 0), .sc (.string ⟨#[]⟩)] (x.fDdl.fCols.map eCol)), .s (.ls [.sc (.string ⟨#[]⟩)] (x.fDdl.fKeys.map eStr)), .s (.sc (.string x.fDdl.fName)), .s (.sc (.string x.fDdl.fTo))]
def vStmt (x : GStmt) : SV := .v true [.s (.sc (.int .i64 x.fKind)), .s (.sc (.string x.fTable)), .s (.ls [.sc (.int .i64 0), .sc (.int .i64 0), .sc (.string ⟨#[]⟩)] (x.fKey.map eVal)), .s (.ls [.sc (.int .i64 0), .sc (.int .i64 0), .sc (.string ⟨#[]⟩)] (x.fRow.fVals.map eVal)), .s (.sc (.int .i64 x.fDdl.fKind)), .s (.sc (.string x.fDdl.fTable)), .s (.ls [.sc (.string ⟨#[]⟩), .sc (.int .i64 0), .sc (.bool false), .sc (.bool false), .sc (.int .i64 0), .sc (.int .i64 0), .sc (.string ⟨#[]⟩)] (x.fDdl.fCols.map eCol)), .s (.ls [.sc (.string ⟨#[]⟩)] (x.fDdl.fKeys.map eStr)), .s (.sc (.string x.fDdl.fName)), .s (.sc (.string x.fDdl.fTo))]
def dStmt : GStmt := ⟨0, ⟨#[]⟩, [], ⟨[]⟩, ⟨0, ⟨#[]⟩, [], [], ⟨#[]⟩, ⟨#[]⟩⟩⟩
@[simp] theorem row_Stmt (l : List GStmt) (i : Nat) : (Option.map eStmt l[i]?).getD [.sc (.int .i64 0), .sc (.string ⟨#[]⟩), .ls [.sc (.int .i64 0), .sc (.int .i64 0), .sc (.string ⟨#[]⟩)] [], .ls [.sc (.int .i64 0), .sc (.int .i64 0), .sc (.string ⟨#[]⟩)] [], .sc (.int .i64 0), .sc (.string ⟨#[]⟩), .ls [.sc (.string ⟨#[]⟩), .sc (.int .i64 0), .sc (.bool false), .sc (.bool false), .sc (.int .i64 0), .sc (.int .i64 0), .sc (.string ⟨#[]⟩)] [], .ls [.sc (.string ⟨#[]⟩)] [], .sc (.string ⟨#[]⟩), .sc (.string ⟨#[]⟩)] = eStmt (l[i]?.getD dStmt) := by cases l[i]? <;> rfl
def wStmt (x : GStmt) : List Nat := x.fTable.size :: (wValS x.fKey ++ (wRow x.fRow ++ (wDdl x.fDdl ++ ([]))))
def okStmt (x : GStmt) : Prop := okI x.fKind ∧ okM x.fTable.size ∧ okValS x.fKey ∧ okRow x.fRow ∧ okDdl x.fDdl ∧ True
theorem okw_Stmt (x : GStmt) (h : okStmt x) : ∀ n ∈ wStmt x, okM n := by
  obtain ⟨h0, h1, h2, h3, h4, _⟩ := h
  intro n hn
  simp only [wStmt, List.mem_cons, List.mem_append, List.not_mem_nil, or_false, false_or] at hn
  rcases hn with rfl | hn | hn | hn
  · exact h1
  · exact okw_ValS _ h2 n hn
  · exact okw_Row _ h3 n hn
  · exact okw_Ddl _ h4 n hn
theorem fit_Stmt (ls : List Lf) (h : Fit ti ck 96 ls) : ∃ x : GStmt, ls = eStmt x ∧ okStmt x := by
  obtain ⟨c0, r0, rfl, h0, g0⟩ := All2.cons_inv h
  obtain ⟨a0, rfl, b0⟩ := h0.int_inv
  obtain ⟨c1, r1, rfl, h1, g1⟩ := All2.cons_inv g0
  obtain ⟨a1, rfl, b1⟩ := h1.str_inv
  obtain ⟨c2, r2, rfl, h2, g2⟩ := All2.cons_inv g1
  obtain ⟨a2, rfl, b2, b2'⟩ := h2.list eVal okVal fit_Val
  obtain ⟨c3, r3, rfl, h3, g3⟩ := All2.cons_inv g2
  obtain ⟨a3, rfl, b3, b3'⟩ := h3.list eVal okVal fit_Val
  obtain ⟨c4, r4, rfl, h4, g4⟩ := All2.cons_inv g3
  obtain ⟨a4, rfl, b4⟩ := h4.int_inv
  obtain ⟨c5, r5, rfl, h5, g5⟩ := All2.cons_inv g4
  obtain ⟨a5, rfl, b5⟩ := h5.str_inv
  obtain ⟨c6, r6, rfl, h6, g6⟩ := All2.cons_inv g5
  obtain ⟨a6, rfl, b6, b6'⟩ := h6.list eCol okCol fit_Col
  obtain ⟨c7, r7, rfl, h7, g7⟩ := All2.cons_inv g6
  obtain ⟨a7, rfl, b7, b7'⟩ := h7.list eStr okStr fit_Str
  obtain ⟨c8, r8, rfl, h8, g8⟩ := All2.cons_inv g7
  obtain ⟨a8, rfl, b8⟩ := h8.str_inv
  obtain ⟨c9, r9, rfl, h9, g9⟩ := All2.cons_inv g8
  obtain ⟨a9, rfl, b9⟩ := h9.str_inv
  obtain rfl := All2.nil_inv g9
  exact ⟨⟨a0, a1, a2, ⟨a3⟩, ⟨a4, a5, a6, a7, a8, a9⟩⟩, rfl, ⟨okI_wf b0, b1, ⟨b2, b2'⟩, ⟨⟨b3, b3'⟩, trivial⟩, ⟨okI_wf b4, b5, ⟨b6, b6'⟩, ⟨b7, b7'⟩, b8, b9, trivial⟩, trivial⟩⟩
def mStmt (x : GStmt) : ML := [(.s, .sc (.int .i64 x.fKind)), (.s, .sc (.string x.fTable)), (.o 134 (fun _ => [.s, .s, .s]), .ls [.sc (.int .i64 0), .sc (.int .i64 0), .sc (.string ⟨#[]⟩)] (x.fKey.map eVal)), (.o 134 (fun _ => [.s, .s, .s]), .ls [.sc (.int .i64 0), .sc (.int .i64 0), .sc (.string ⟨#[]⟩)] (x.fRow.fVals.map eVal)), (.s, .sc (.int .i64 x.fDdl.fKind)), (.s, .sc (.string x.fDdl.fTable)), (.o 136 (fun _ => [.s, .s, .s, .s, .s, .s, .s]), .ls [.sc (.string ⟨#[]⟩), .sc (.int .i64 0), .sc (.bool false), .sc (.bool false), .sc (.int .i64 0), .sc (.int .i64 0), .sc (.string ⟨#[]⟩)] (x.fDdl.fCols.map eCol)), (.o 9 (fun _ => [.s]), .ls [.sc (.string ⟨#[]⟩)] (x.fDdl.fKeys.map eStr)), (.s, .sc (.string x.fDdl.fName)), (.s, .sc (.string x.fDdl.fTo))]
set_option maxHeartbeats 1000000 in
set_option maxRecDepth 8000 in
theorem szStmt_ok (x : GStmt) (left : Int) (h0 : 0 ≤ left) (h1 : left ≤ 1048576) (hs : ∀ n ∈ wStmt x, okM n) : VC Tryz.prog 89 [vStmt x, int .i64 left] [(false, [(.s, .sc (.int .i64 (szL (wStmt x) left)))])] := by
  refine vc_of_ew good hm [0,1,2,4,11,17,23,29] Tryz.func89 rfl (by kernel_rfl) (by kernel_rfl) rfl ?_
  simp [Tryz.f89, vStmt]
  have hb0 : x.fTable.size ≤ 9223372036854775807 := hs _ (by simp [wStmt])
  rw [wrapI (i := left - (x.fTable.size : Nat)) (by omega) (by omega)]
  refine ⟨fun hn => ?_, fun hk0 => ?_⟩
  · have e : szL (wStmt x) left = -1 := by rw [wStmt, szL, if_pos (by omega)]
    rw [e]
    try omega
  have hq0 : ¬ (left - (x.fTable.size : Nat)) < 0 := by omega
  have hz0 : 0 ≤ (left - (x.fTable.size : Nat)) := by omega
  refine .of (szValS_ok x.fKey (left - (x.fTable.size : Nat)) (by omega) (by omega) (fun n hn => hs n (by simp [wStmt, hn]))) ?_
  simp
  have hb1 := szL_le' (l := wValS x.fKey) (left := (left - (x.fTable.size : Nat))) (by omega)
  have hc1 := szL_neg (wValS x.fKey) (left - (x.fTable.size : Nat)) (by omega)
  refine ⟨fun hn => ?_, fun hk1 => ?_⟩
  · have e : szL (wStmt x) left = -1 := by rw [wStmt, szL, if_neg hq0, szL_app _ _ _ hz0, if_pos (by omega)]
    rw [e]
    try omega
  have hq1 : ¬ (szL (wValS x.fKey) (left - (x.fTable.size : Nat))) < 0 := by omega
  have hz1 : 0 ≤ (szL (wValS x.fKey) (left - (x.fTable.size : Nat))) := by omega
  refine .of (szRow_ok x.fRow (szL (wValS x.fKey) (left - (x.fTable.size : Nat))) (by omega) (by omega) (fun n hn => hs n (by simp [wStmt, hn]))) ?_
  simp
  have hb2 := szL_le' (l := wRow x.fRow) (left := (szL (wValS x.fKey) (left - (x.fTable.size : Nat)))) (by omega)
  have hc2 := szL_neg (wRow x.fRow) (szL (wValS x.fKey) (left - (x.fTable.size : Nat))) (by omega)
  refine ⟨fun hn => ?_, fun hk2 => ?_⟩
  · have e : szL (wStmt x) left = -1 := by rw [wStmt, szL, if_neg hq0, szL_app _ _ _ hz0, if_neg hq1, szL_app _ _ _ hz1, if_pos (by omega)]
    rw [e]
    try omega
  have hq2 : ¬ (szL (wRow x.fRow) (szL (wValS x.fKey) (left - (x.fTable.size : Nat)))) < 0 := by omega
  have hz2 : 0 ≤ (szL (wRow x.fRow) (szL (wValS x.fKey) (left - (x.fTable.size : Nat)))) := by omega
  refine .of (szDdl_ok x.fDdl (szL (wRow x.fRow) (szL (wValS x.fKey) (left - (x.fTable.size : Nat)))) (by omega) (by omega) (fun n hn => hs n (by simp [wStmt, hn]))) ?_
  simp
  have hb3 := szL_le' (l := wDdl x.fDdl) (left := (szL (wRow x.fRow) (szL (wValS x.fKey) (left - (x.fTable.size : Nat))))) (by omega)
  have hc3 := szL_neg (wDdl x.fDdl) (szL (wRow x.fRow) (szL (wValS x.fKey) (left - (x.fTable.size : Nat)))) (by omega)
  by_cases hn : (szL (wDdl x.fDdl) (szL (wRow x.fRow) (szL (wValS x.fKey) (left - (x.fTable.size : Nat))))) < 0
  · have e : szL (wStmt x) left = -1 := by rw [wStmt, szL, if_neg hq0, szL_app _ _ _ hz0, if_neg hq1, szL_app _ _ _ hz1, if_neg hq2, szL_app _ _ _ hz2, if_pos hn]
    rw [e]
    try omega
  · have e : szL (wStmt x) left = (szL (wDdl x.fDdl) (szL (wRow x.fRow) (szL (wValS x.fKey) (left - (x.fTable.size : Nat))))) := by rw [wStmt, szL, if_neg hq0, szL_app _ _ _ hz0, if_neg hq1, szL_app _ _ _ hz1, if_neg hq2, szL_app _ _ _ hz2, if_neg hn]; rfl
    rw [e]
    try omega
set_option maxHeartbeats 1000000 in
set_option maxRecDepth 8000 in
theorem toStmt_ok (x : GStmt) (hs : ∀ n ∈ wStmt x, n ≤ 1048576) : VC Tryz.prog 96 [vStmt x] [(true, mStmt x)] := by
  refine vc_of_ew good hm [0,1,2,3] Tryz.func96 rfl (by kernel_rfl) (by kernel_rfl) rfl ?_
  simp [Tryz.f96, vStmt, mStmt]
  refine .of (toValS_ok x.fKey (fun n hn => hs n (by simp [wStmt, hn]))) ?_
  simp [mValS]
  refine .of (toRow_ok x.fRow (fun n hn => hs n (by simp [wStmt, hn]))) ?_
  simp [mRow]
  refine .of (toDdl_ok x.fDdl (fun n hn => hs n (by simp [wStmt, hn]))) ?_
  simp [mDdl]
set_option maxHeartbeats 1000000 in
set_option maxRecDepth 8000 in
theorem eqStmt_ok (x : GStmt) (hs : ∀ n ∈ wStmt x, n ≤ 1048576) : VC Tryz.prog 103 [vStmt x, vStmt x] [(false, [(.s, .sc (.bool true))])] := by
  refine vc_of_ew good hm [0,1,2,3,4,9,14,20,26,32] Tryz.func103 rfl (by kernel_rfl) (by kernel_rfl) rfl ?_
  simp [Tryz.f103, vStmt]
  refine .of (eqValS_ok x.fKey (fun n hn => hs n (by simp [wStmt, hn]))) ?_
  simp
  refine .of (eqRow_ok x.fRow (fun n hn => hs n (by simp [wStmt, hn]))) ?_
  simp
  refine .of (eqDdl_ok x.fDdl (fun n hn => hs n (by simp [wStmt, hn]))) ?_
  simp

/-! ### Rec -/
structure GRec where
  fKind : Int
  fXid : Int
  fStmt : GStmt
def eRec (x : GRec) : List Lf := [.sc (.int .i64 x.fKind), .sc (.int .i64 x.fXid), .sc (.int .i64 x.fStmt.fKind), .sc (.string x.fStmt.fTable), .ls [.sc (.int .i64 0), .sc (.int .i64 0), .sc (.string ⟨#[]⟩)] (x.fStmt.fKey.map eVal), .ls [.sc (.int .i64 0), .sc (.int .i64 0), .sc (.string ⟨#[]⟩)] (x.fStmt.fRow.fVals.map eVal), .sc (.int .i64 x.fStmt.fDdl.fKind), .sc (.string x.fStmt.fDdl.fTable), .ls [.sc (.string ⟨#[]⟩), .sc (.int .i64 0), .sc (.bool false), .sc (.bool false), .sc (.int .i64 0), .sc (.int .i64 0), .sc (.string ⟨#[]⟩)] (x.fStmt.fDdl.fCols.map eCol), .ls [.sc (.string ⟨#[]⟩)] (x.fStmt.fDdl.fKeys.map eStr), .sc (.string x.fStmt.fDdl.fName), .sc (.string x.fStmt.fDdl.fTo)]
def cRec (x : GRec) : List LV := [.s (.sc (.int .i64 x.fKind)), .s (.sc (.int .i64 x.fXid)), .s (.sc (.int .i64 x.fStmt.fKind)), .s (.sc (.string x.fStmt.fTable)), .s (.ls [.sc (.int .i64 0), .sc (.int .i64 0), .sc (.string ⟨#[]⟩)] (x.fStmt.fKey.map eVal)), .s (.ls [.sc (.int .i64 0), .sc (.int .i64 0), .sc (.string ⟨#[]⟩)] (x.fStmt.fRow.fVals.map eVal)), .s (.sc (.int .i64 x.fStmt.fDdl.fKind)), .s (.sc (.string x.fStmt.fDdl.fTable)), .s (.ls [.sc (.string ⟨#[]⟩), .sc (.int .i64 0), .sc (.bool false), .sc (.bool false), .sc (.int .i64 0), .sc (.int .i64 0), .sc (.string ⟨#[]⟩)] (x.fStmt.fDdl.fCols.map eCol)), .s (.ls [.sc (.string ⟨#[]⟩)] (x.fStmt.fDdl.fKeys.map eStr)), .s (.sc (.string x.fStmt.fDdl.fName)), .s (.sc (.string x.fStmt.fDdl.fTo))]
def vRec (x : GRec) : SV := .v true [.s (.sc (.int .i64 x.fKind)), .s (.sc (.int .i64 x.fXid)), .s (.sc (.int .i64 x.fStmt.fKind)), .s (.sc (.string x.fStmt.fTable)), .s (.ls [.sc (.int .i64 0), .sc (.int .i64 0), .sc (.string ⟨#[]⟩)] (x.fStmt.fKey.map eVal)), .s (.ls [.sc (.int .i64 0), .sc (.int .i64 0), .sc (.string ⟨#[]⟩)] (x.fStmt.fRow.fVals.map eVal)), .s (.sc (.int .i64 x.fStmt.fDdl.fKind)), .s (.sc (.string x.fStmt.fDdl.fTable)), .s (.ls [.sc (.string ⟨#[]⟩), .sc (.int .i64 0), .sc (.bool false), .sc (.bool false), .sc (.int .i64 0), .sc (.int .i64 0), .sc (.string ⟨#[]⟩)] (x.fStmt.fDdl.fCols.map eCol)), .s (.ls [.sc (.string ⟨#[]⟩)] (x.fStmt.fDdl.fKeys.map eStr)), .s (.sc (.string x.fStmt.fDdl.fName)), .s (.sc (.string x.fStmt.fDdl.fTo))]
def dRec : GRec := ⟨0, 0, ⟨0, ⟨#[]⟩, [], ⟨[]⟩, ⟨0, ⟨#[]⟩, [], [], ⟨#[]⟩, ⟨#[]⟩⟩⟩⟩
@[simp] theorem row_Rec (l : List GRec) (i : Nat) : (Option.map eRec l[i]?).getD [.sc (.int .i64 0), .sc (.int .i64 0), .sc (.int .i64 0), .sc (.string ⟨#[]⟩), .ls [.sc (.int .i64 0), .sc (.int .i64 0), .sc (.string ⟨#[]⟩)] [], .ls [.sc (.int .i64 0), .sc (.int .i64 0), .sc (.string ⟨#[]⟩)] [], .sc (.int .i64 0), .sc (.string ⟨#[]⟩), .ls [.sc (.string ⟨#[]⟩), .sc (.int .i64 0), .sc (.bool false), .sc (.bool false), .sc (.int .i64 0), .sc (.int .i64 0), .sc (.string ⟨#[]⟩)] [], .ls [.sc (.string ⟨#[]⟩)] [], .sc (.string ⟨#[]⟩), .sc (.string ⟨#[]⟩)] = eRec (l[i]?.getD dRec) := by cases l[i]? <;> rfl
def wRec (x : GRec) : List Nat := wStmt x.fStmt ++ ([])
def okRec (x : GRec) : Prop := okI x.fKind ∧ okI x.fXid ∧ okStmt x.fStmt ∧ True
theorem okw_Rec (x : GRec) (h : okRec x) : ∀ n ∈ wRec x, okM n := by
  obtain ⟨h0, h1, h2, _⟩ := h
  intro n hn
  simp only [wRec, List.mem_cons, List.mem_append, List.not_mem_nil, or_false, false_or] at hn
  rcases hn with hn
  · exact okw_Stmt _ h2 n hn
theorem fit_Rec (ls : List Lf) (h : Fit ti ck 98 ls) : ∃ x : GRec, ls = eRec x ∧ okRec x := by
  obtain ⟨c0, r0, rfl, h0, g0⟩ := All2.cons_inv h
  obtain ⟨a0, rfl, b0⟩ := h0.int_inv
  obtain ⟨c1, r1, rfl, h1, g1⟩ := All2.cons_inv g0
  obtain ⟨a1, rfl, b1⟩ := h1.int_inv
  obtain ⟨c2, r2, rfl, h2, g2⟩ := All2.cons_inv g1
  obtain ⟨a2, rfl, b2⟩ := h2.int_inv
  obtain ⟨c3, r3, rfl, h3, g3⟩ := All2.cons_inv g2
  obtain ⟨a3, rfl, b3⟩ := h3.str_inv
  obtain ⟨c4, r4, rfl, h4, g4⟩ := All2.cons_inv g3
  obtain ⟨a4, rfl, b4, b4'⟩ := h4.list eVal okVal fit_Val
  obtain ⟨c5, r5, rfl, h5, g5⟩ := All2.cons_inv g4
  obtain ⟨a5, rfl, b5, b5'⟩ := h5.list eVal okVal fit_Val
  obtain ⟨c6, r6, rfl, h6, g6⟩ := All2.cons_inv g5
  obtain ⟨a6, rfl, b6⟩ := h6.int_inv
  obtain ⟨c7, r7, rfl, h7, g7⟩ := All2.cons_inv g6
  obtain ⟨a7, rfl, b7⟩ := h7.str_inv
  obtain ⟨c8, r8, rfl, h8, g8⟩ := All2.cons_inv g7
  obtain ⟨a8, rfl, b8, b8'⟩ := h8.list eCol okCol fit_Col
  obtain ⟨c9, r9, rfl, h9, g9⟩ := All2.cons_inv g8
  obtain ⟨a9, rfl, b9, b9'⟩ := h9.list eStr okStr fit_Str
  obtain ⟨c10, r10, rfl, h10, g10⟩ := All2.cons_inv g9
  obtain ⟨a10, rfl, b10⟩ := h10.str_inv
  obtain ⟨c11, r11, rfl, h11, g11⟩ := All2.cons_inv g10
  obtain ⟨a11, rfl, b11⟩ := h11.str_inv
  obtain rfl := All2.nil_inv g11
  exact ⟨⟨a0, a1, ⟨a2, a3, a4, ⟨a5⟩, ⟨a6, a7, a8, a9, a10, a11⟩⟩⟩, rfl, ⟨okI_wf b0, okI_wf b1, ⟨okI_wf b2, b3, ⟨b4, b4'⟩, ⟨⟨b5, b5'⟩, trivial⟩, ⟨okI_wf b6, b7, ⟨b8, b8'⟩, ⟨b9, b9'⟩, b10, b11, trivial⟩, trivial⟩, trivial⟩⟩
def mRec (x : GRec) : ML := [(.s, .sc (.int .i64 x.fKind)), (.s, .sc (.int .i64 x.fXid)), (.s, .sc (.int .i64 x.fStmt.fKind)), (.s, .sc (.string x.fStmt.fTable)), (.o 134 (fun _ => [.s, .s, .s]), .ls [.sc (.int .i64 0), .sc (.int .i64 0), .sc (.string ⟨#[]⟩)] (x.fStmt.fKey.map eVal)), (.o 134 (fun _ => [.s, .s, .s]), .ls [.sc (.int .i64 0), .sc (.int .i64 0), .sc (.string ⟨#[]⟩)] (x.fStmt.fRow.fVals.map eVal)), (.s, .sc (.int .i64 x.fStmt.fDdl.fKind)), (.s, .sc (.string x.fStmt.fDdl.fTable)), (.o 136 (fun _ => [.s, .s, .s, .s, .s, .s, .s]), .ls [.sc (.string ⟨#[]⟩), .sc (.int .i64 0), .sc (.bool false), .sc (.bool false), .sc (.int .i64 0), .sc (.int .i64 0), .sc (.string ⟨#[]⟩)] (x.fStmt.fDdl.fCols.map eCol)), (.o 9 (fun _ => [.s]), .ls [.sc (.string ⟨#[]⟩)] (x.fStmt.fDdl.fKeys.map eStr)), (.s, .sc (.string x.fStmt.fDdl.fName)), (.s, .sc (.string x.fStmt.fDdl.fTo))]
set_option maxHeartbeats 1000000 in
set_option maxRecDepth 8000 in
theorem szRec_ok (x : GRec) (left : Int) (h0 : 0 ≤ left) (h1 : left ≤ 1048576) (hs : ∀ n ∈ wRec x, okM n) : VC Tryz.prog 54 [vRec x, int .i64 left] [(false, [(.s, .sc (.int .i64 (szL (wRec x) left)))])] := by
  refine vc_of_ew good hm [0,1,2,4,10] Tryz.func54 rfl (by kernel_rfl) (by kernel_rfl) rfl ?_
  simp [Tryz.f54, vRec]
  refine .of (szStmt_ok x.fStmt left (by omega) (by omega) (fun n hn => hs n (by simp [wRec, hn]))) ?_
  simp
  have hb0 := szL_le' (l := wStmt x.fStmt) (left := left) (by omega)
  have hc0 := szL_neg (wStmt x.fStmt) left (by omega)
  by_cases hn : (szL (wStmt x.fStmt) left) < 0
  · have e : szL (wRec x) left = -1 := by rw [wRec, szL_app _ _ _ h0, if_pos hn]
    rw [e]
    try omega
  · have e : szL (wRec x) left = (szL (wStmt x.fStmt) left) := by rw [wRec, szL_app _ _ _ h0, if_neg hn]; rfl
    rw [e]
    try omega
set_option maxHeartbeats 1000000 in
set_option maxRecDepth 8000 in
theorem toRec_ok (x : GRec) (hs : ∀ n ∈ wRec x, n ≤ 1048576) : VC Tryz.prog 56 [vRec x] [(true, mRec x)] := by
  refine vc_of_ew good hm [0,1,2,3] Tryz.func56 rfl (by kernel_rfl) (by kernel_rfl) rfl ?_
  simp [Tryz.f56, vRec, mRec]
  refine .of (toStmt_ok x.fStmt (fun n hn => hs n (by simp [wRec, hn]))) ?_
  simp [mStmt]
set_option maxHeartbeats 1000000 in
set_option maxRecDepth 8000 in
theorem eqRec_ok (x : GRec) (hs : ∀ n ∈ wRec x, n ≤ 1048576) : VC Tryz.prog 59 [vRec x, vRec x] [(false, [(.s, .sc (.bool true))])] := by
  refine vc_of_ew good hm [0,1,2,3,4,9,14,20] Tryz.func59 rfl (by kernel_rfl) (by kernel_rfl) rfl ?_
  simp [Tryz.f59, vRec]
  refine .of (eqStmt_ok x.fStmt (fun n hn => hs n (by simp [wRec, hn]))) ?_
  simp

/-! ### Snap -/
structure GSnap where
  fLsn : Int
  fDb : GDb
def eSnap (x : GSnap) : List Lf := [.sc (.int .i64 x.fLsn), .ls [.sc (.string ⟨#[]⟩), .ls [.sc (.string ⟨#[]⟩), .sc (.int .i64 0), .sc (.bool false), .sc (.bool false), .sc (.int .i64 0), .sc (.int .i64 0), .sc (.string ⟨#[]⟩)] [], .ls [.sc (.string ⟨#[]⟩)] []] (x.fDb.fCat.fTables.map eTable), .ls [.ls [.ls [.sc (.int .i64 0), .sc (.int .i64 0), .sc (.string ⟨#[]⟩)] []] []] (x.fDb.fData.map eRows)]
def cSnap (x : GSnap) : List LV := [.s (.sc (.int .i64 x.fLsn)), .s (.ls [.sc (.string ⟨#[]⟩), .ls [.sc (.string ⟨#[]⟩), .sc (.int .i64 0), .sc (.bool false), .sc (.bool false), .sc (.int .i64 0), .sc (.int .i64 0), .sc (.string ⟨#[]⟩)] [], .ls [.sc (.string ⟨#[]⟩)] []] (x.fDb.fCat.fTables.map eTable)), .s (.ls [.ls [.ls [.sc (.int .i64 0), .sc (.int .i64 0), .sc (.string ⟨#[]⟩)] []] []] (x.fDb.fData.map eRows))]
def vSnap (x : GSnap) : SV := .v true [.s (.sc (.int .i64 x.fLsn)), .s (.ls [.sc (.string ⟨#[]⟩), .ls [.sc (.string ⟨#[]⟩), .sc (.int .i64 0), .sc (.bool false), .sc (.bool false), .sc (.int .i64 0), .sc (.int .i64 0), .sc (.string ⟨#[]⟩)] [], .ls [.sc (.string ⟨#[]⟩)] []] (x.fDb.fCat.fTables.map eTable)), .s (.ls [.ls [.ls [.sc (.int .i64 0), .sc (.int .i64 0), .sc (.string ⟨#[]⟩)] []] []] (x.fDb.fData.map eRows))]
def dSnap : GSnap := ⟨0, ⟨⟨[]⟩, []⟩⟩
@[simp] theorem row_Snap (l : List GSnap) (i : Nat) : (Option.map eSnap l[i]?).getD [.sc (.int .i64 0), .ls [.sc (.string ⟨#[]⟩), .ls [.sc (.string ⟨#[]⟩), .sc (.int .i64 0), .sc (.bool false), .sc (.bool false), .sc (.int .i64 0), .sc (.int .i64 0), .sc (.string ⟨#[]⟩)] [], .ls [.sc (.string ⟨#[]⟩)] []] [], .ls [.ls [.ls [.sc (.int .i64 0), .sc (.int .i64 0), .sc (.string ⟨#[]⟩)] []] []] []] = eSnap (l[i]?.getD dSnap) := by cases l[i]? <;> rfl
def wSnap (x : GSnap) : List Nat := wDb x.fDb ++ ([])
def okSnap (x : GSnap) : Prop := okI x.fLsn ∧ okDb x.fDb ∧ True
theorem okw_Snap (x : GSnap) (h : okSnap x) : ∀ n ∈ wSnap x, okM n := by
  obtain ⟨h0, h1, _⟩ := h
  intro n hn
  simp only [wSnap, List.mem_cons, List.mem_append, List.not_mem_nil, or_false, false_or] at hn
  rcases hn with hn
  · exact okw_Db _ h1 n hn
theorem fit_Snap (ls : List Lf) (h : Fit ti ck 44 ls) : ∃ x : GSnap, ls = eSnap x ∧ okSnap x := by
  obtain ⟨c0, r0, rfl, h0, g0⟩ := All2.cons_inv h
  obtain ⟨a0, rfl, b0⟩ := h0.int_inv
  obtain ⟨c1, r1, rfl, h1, g1⟩ := All2.cons_inv g0
  obtain ⟨a1, rfl, b1, b1'⟩ := h1.list eTable okTable fit_Table
  obtain ⟨c2, r2, rfl, h2, g2⟩ := All2.cons_inv g1
  obtain ⟨a2, rfl, b2, b2'⟩ := h2.list eRows okRows fit_Rows
  obtain rfl := All2.nil_inv g2
  exact ⟨⟨a0, ⟨⟨a1⟩, a2⟩⟩, rfl, ⟨okI_wf b0, ⟨⟨⟨b1, b1'⟩, trivial⟩, ⟨b2, b2'⟩, trivial⟩, trivial⟩⟩
def mSnap (x : GSnap) : ML := [(.s, .sc (.int .i64 x.fLsn)), (.o 119 (fun _ => [.s, .o 136 (fun _ => [.s, .s, .s, .s, .s, .s, .s]), .o 9 (fun _ => [.s])]), .ls [.sc (.string ⟨#[]⟩), .ls [.sc (.string ⟨#[]⟩), .sc (.int .i64 0), .sc (.bool false), .sc (.bool false), .sc (.int .i64 0), .sc (.int .i64 0), .sc (.string ⟨#[]⟩)] [], .ls [.sc (.string ⟨#[]⟩)] []] (x.fDb.fCat.fTables.map eTable)), (.o 123 (fun _ => [.o 102 (fun _ => [.o 134 (fun _ => [.s, .s, .s])])]), .ls [.ls [.ls [.sc (.int .i64 0), .sc (.int .i64 0), .sc (.string ⟨#[]⟩)] []] []] (x.fDb.fData.map eRows))]
set_option maxHeartbeats 1000000 in
set_option maxRecDepth 8000 in
theorem szSnap_ok (x : GSnap) (left : Int) (h0 : 0 ≤ left) (h1 : left ≤ 1048576) (hs : ∀ n ∈ wSnap x, okM n) : VC Tryz.prog 13 [vSnap x, int .i64 left] [(false, [(.s, .sc (.int .i64 (szL (wSnap x) left)))])] := by
  refine vc_of_ew good hm [0,1,2,4,10] Tryz.func13 rfl (by kernel_rfl) (by kernel_rfl) rfl ?_
  simp [Tryz.f13, vSnap]
  refine .of (szDb_ok x.fDb left (by omega) (by omega) (fun n hn => hs n (by simp [wSnap, hn]))) ?_
  simp
  have hb0 := szL_le' (l := wDb x.fDb) (left := left) (by omega)
  have hc0 := szL_neg (wDb x.fDb) left (by omega)
  by_cases hn : (szL (wDb x.fDb) left) < 0
  · have e : szL (wSnap x) left = -1 := by rw [wSnap, szL_app _ _ _ h0, if_pos hn]
    rw [e]
    try omega
  · have e : szL (wSnap x) left = (szL (wDb x.fDb) left) := by rw [wSnap, szL_app _ _ _ h0, if_neg hn]; rfl
    rw [e]
    try omega
set_option maxHeartbeats 1000000 in
set_option maxRecDepth 8000 in
theorem toSnap_ok (x : GSnap) (hs : ∀ n ∈ wSnap x, n ≤ 1048576) : VC Tryz.prog 15 [vSnap x] [(true, mSnap x)] := by
  refine vc_of_ew good hm [0,1,2,3] Tryz.func15 rfl (by kernel_rfl) (by kernel_rfl) rfl ?_
  simp [Tryz.f15, vSnap, mSnap]
  refine .of (toDb_ok x.fDb (fun n hn => hs n (by simp [wSnap, hn]))) ?_
  simp [mDb]
set_option maxHeartbeats 1000000 in
set_option maxRecDepth 8000 in
theorem eqSnap_ok (x : GSnap) (hs : ∀ n ∈ wSnap x, n ≤ 1048576) : VC Tryz.prog 17 [vSnap x, vSnap x] [(false, [(.s, .sc (.bool true))])] := by
  refine vc_of_ew good hm [0,1,2,3,4,9,15] Tryz.func17 rfl (by kernel_rfl) (by kernel_rfl) rfl ?_
  simp [Tryz.f17, vSnap]
  refine .of (eqDb_ok x.fDb (fun n hn => hs n (by simp [wSnap, hn]))) ?_
  simp

/-! ### []Rec -/
abbrev GRecS := List GRec
def eRecS (l : List GRec) : List Lf := [.ls [.sc (.int .i64 0), .sc (.int .i64 0), .sc (.int .i64 0), .sc (.string ⟨#[]⟩), .ls [.sc (.int .i64 0), .sc (.int .i64 0), .sc (.string ⟨#[]⟩)] [], .ls [.sc (.int .i64 0), .sc (.int .i64 0), .sc (.string ⟨#[]⟩)] [], .sc (.int .i64 0), .sc (.string ⟨#[]⟩), .ls [.sc (.string ⟨#[]⟩), .sc (.int .i64 0), .sc (.bool false), .sc (.bool false), .sc (.int .i64 0), .sc (.int .i64 0), .sc (.string ⟨#[]⟩)] [], .ls [.sc (.string ⟨#[]⟩)] [], .sc (.string ⟨#[]⟩), .sc (.string ⟨#[]⟩)] (l.map eRec)]
def vRecS (l : List GRec) : SV := list [.sc (.int .i64 0), .sc (.int .i64 0), .sc (.int .i64 0), .sc (.string ⟨#[]⟩), .ls [.sc (.int .i64 0), .sc (.int .i64 0), .sc (.string ⟨#[]⟩)] [], .ls [.sc (.int .i64 0), .sc (.int .i64 0), .sc (.string ⟨#[]⟩)] [], .sc (.int .i64 0), .sc (.string ⟨#[]⟩), .ls [.sc (.string ⟨#[]⟩), .sc (.int .i64 0), .sc (.bool false), .sc (.bool false), .sc (.int .i64 0), .sc (.int .i64 0), .sc (.string ⟨#[]⟩)] [], .ls [.sc (.string ⟨#[]⟩)] [], .sc (.string ⟨#[]⟩), .sc (.string ⟨#[]⟩)] (l.map eRec)
@[simp] theorem row_RecS (l : List (List GRec)) (i : Nat) : (Option.map eRecS l[i]?).getD [.ls [.sc (.int .i64 0), .sc (.int .i64 0), .sc (.int .i64 0), .sc (.string ⟨#[]⟩), .ls [.sc (.int .i64 0), .sc (.int .i64 0), .sc (.string ⟨#[]⟩)] [], .ls [.sc (.int .i64 0), .sc (.int .i64 0), .sc (.string ⟨#[]⟩)] [], .sc (.int .i64 0), .sc (.string ⟨#[]⟩), .ls [.sc (.string ⟨#[]⟩), .sc (.int .i64 0), .sc (.bool false), .sc (.bool false), .sc (.int .i64 0), .sc (.int .i64 0), .sc (.string ⟨#[]⟩)] [], .ls [.sc (.string ⟨#[]⟩)] [], .sc (.string ⟨#[]⟩), .sc (.string ⟨#[]⟩)] []] = eRecS (l[i]?.getD []) := by cases l[i]? <;> rfl
def wRecS (l : List GRec) : List Nat := l.length :: l.flatMap wRec
def okRecS (l : List GRec) : Prop := okM l.length ∧ ∀ a ∈ l, okRec a
theorem okw_RecS (l : List GRec) (h : okRecS l) : ∀ n ∈ wRecS l, okM n := by
  intro n hn
  rcases List.mem_cons.1 hn with rfl | hn
  · exact h.1
  · obtain ⟨a, ha, hn⟩ := List.mem_flatMap.1 hn
    exact okw_Rec a (h.2 a ha) n hn
theorem fit_RecS (ls : List Lf) (h : Fit ti ck 56 ls) : ∃ x : List GRec, ls = eRecS x ∧ okRecS x := by
  obtain ⟨x, r, rfl, h1, h2⟩ := All2.cons_inv h
  obtain rfl := All2.nil_inv h2
  obtain ⟨l, rfl, hl, hs⟩ := h1.list eRec okRec fit_Rec
  exact ⟨l, rfl, hl, hs⟩
def mRecS (x : List GRec) : ML := [(.o 109 (fun _ => [.s, .s, .s, .s, .o 134 (fun _ => [.s, .s, .s]), .o 134 (fun _ => [.s, .s, .s]), .s, .s, .o 136 (fun _ => [.s, .s, .s, .s, .s, .s, .s]), .o 9 (fun _ => [.s]), .s, .s]), .ls [.sc (.int .i64 0), .sc (.int .i64 0), .sc (.int .i64 0), .sc (.string ⟨#[]⟩), .ls [.sc (.int .i64 0), .sc (.int .i64 0), .sc (.string ⟨#[]⟩)] [], .ls [.sc (.int .i64 0), .sc (.int .i64 0), .sc (.string ⟨#[]⟩)] [], .sc (.int .i64 0), .sc (.string ⟨#[]⟩), .ls [.sc (.string ⟨#[]⟩), .sc (.int .i64 0), .sc (.bool false), .sc (.bool false), .sc (.int .i64 0), .sc (.int .i64 0), .sc (.string ⟨#[]⟩)] [], .ls [.sc (.string ⟨#[]⟩)] [], .sc (.string ⟨#[]⟩), .sc (.string ⟨#[]⟩)] (x.map eRec))]
@[simp] theorem ow_RecS (l : List GRec) : Ow (.o 109 (fun _ => [.s, .s, .s, .s, .o 134 (fun _ => [.s, .s, .s]), .o 134 (fun _ => [.s, .s, .s]), .s, .s, .o 136 (fun _ => [.s, .s, .s, .s, .s, .s, .s]), .o 9 (fun _ => [.s]), .s, .s])) (.ls [.sc (.int .i64 0), .sc (.int .i64 0), .sc (.int .i64 0), .sc (.string ⟨#[]⟩), .ls [.sc (.int .i64 0), .sc (.int .i64 0), .sc (.string ⟨#[]⟩)] [], .ls [.sc (.int .i64 0), .sc (.int .i64 0), .sc (.string ⟨#[]⟩)] [], .sc (.int .i64 0), .sc (.string ⟨#[]⟩), .ls [.sc (.string ⟨#[]⟩), .sc (.int .i64 0), .sc (.bool false), .sc (.bool false), .sc (.int .i64 0), .sc (.int .i64 0), .sc (.string ⟨#[]⟩)] [], .ls [.sc (.string ⟨#[]⟩)] [], .sc (.string ⟨#[]⟩), .sc (.string ⟨#[]⟩)] (l.map eRec)) = True := eq_true (Ow_rows (fun x j hj => match j, hj with | 0, _ => .sc | 1, _ => .sc | 2, _ => .sc | 3, _ => .sc | 4, _ => of_eq_true (ow_ValS x.fStmt.fKey) | 5, _ => of_eq_true (ow_ValS x.fStmt.fRow.fVals) | 6, _ => .sc | 7, _ => .sc | 8, _ => of_eq_true (ow_ColS x.fStmt.fDdl.fCols) | 9, _ => of_eq_true (ow_StrS x.fStmt.fDdl.fKeys) | 10, _ => .sc | 11, _ => .sc | n + 12, hj => absurd hj (by simp)) l)
@[simp] theorem full_RecS (l : List GRec) : Full (.o 109 (fun _ => [.s, .s, .s, .s, .o 134 (fun _ => [.s, .s, .s]), .o 134 (fun _ => [.s, .s, .s]), .s, .s, .o 136 (fun _ => [.s, .s, .s, .s, .s, .s, .s]), .o 9 (fun _ => [.s]), .s, .s])) (.ls [.sc (.int .i64 0), .sc (.int .i64 0), .sc (.int .i64 0), .sc (.string ⟨#[]⟩), .ls [.sc (.int .i64 0), .sc (.int .i64 0), .sc (.string ⟨#[]⟩)] [], .ls [.sc (.int .i64 0), .sc (.int .i64 0), .sc (.string ⟨#[]⟩)] [], .sc (.int .i64 0), .sc (.string ⟨#[]⟩), .ls [.sc (.string ⟨#[]⟩), .sc (.int .i64 0), .sc (.bool false), .sc (.bool false), .sc (.int .i64 0), .sc (.int .i64 0), .sc (.string ⟨#[]⟩)] [], .ls [.sc (.string ⟨#[]⟩)] [], .sc (.string ⟨#[]⟩), .sc (.string ⟨#[]⟩)] (l.map eRec)) = True := eq_true (Full_rows (fun x j hj => match j, hj with | 0, _ => .s | 1, _ => .s | 2, _ => .s | 3, _ => .s | 4, _ => of_eq_true (full_ValS x.fStmt.fKey) | 5, _ => of_eq_true (full_ValS x.fStmt.fRow.fVals) | 6, _ => .s | 7, _ => .s | 8, _ => of_eq_true (full_ColS x.fStmt.fDdl.fCols) | 9, _ => of_eq_true (full_StrS x.fStmt.fDdl.fKeys) | 10, _ => .s | 11, _ => .s | n + 12, hj => absurd hj (by simp)) l)
set_option maxHeartbeats 1000000 in
set_option maxRecDepth 8000 in
theorem szRecS_ok (x : List GRec) (left : Int) (h0 : 0 ≤ left) (h1 : left ≤ 1048576) (hs : ∀ n ∈ wRecS x, okM n) : VC Tryz.prog 23 [vRecS x, int .i64 left] [(false, [(.s, .sc (.int .i64 (szL (wRecS x) left)))])] := by
  refine vc_of_ew good hm [0,1,4,11,5,15,25] Tryz.func23 rfl (by kernel_rfl) (by kernel_rfl) rfl ?_
  have hl : x.length ≤ 9223372036854775807 := hs _ (by simp [wRecS])
  simp [Tryz.f23, vRecS]
  rw [wrapI (i := left - x.length) (by omega) (by omega)]
  refine ⟨fun h => by simp [wRecS, szL, h], fun hk => ?_⟩
  refine ew_loop (fun E => ∃ i : Nat, i ≤ x.length ∧ 0 ≤ szL ((x.take i).flatMap wRec) (left - x.length) ∧ E = { nt := 27, sl := [(0, vRecS x), (1, int .i64 (szL ((x.take i).flatMap wRec) (left - x.length))), (5, int .i64 i)], bx := [], rt := [] }) (fun E => x.length - (E.num 5).toNat) _ (Gh.keep _ [0,1,5]) ⟨0, by omega, by simp [szL]; omega, by simp [szL, vRecS]⟩ ?_
  rintro E1 ⟨i, hi, hr0, rfl⟩
  have hr1 := szL_le' (l := (x.take i).flatMap wRec) (left := left - x.length) (by omega)
  simp [vRecS, eRec]
  refine ⟨fun h => ?_, fun h => ?_⟩
  · obtain ⟨q1, q2⟩ := szF_step wRec (dRec) h (by omega : 0 ≤ left - x.length) hr0
    have hm : ∀ n ∈ wRec (x[i]?.getD (dRec)), okM n := fun n hn => hs n (List.mem_cons_of_mem _ (mem_flat h hn))
    have hn1 := szL_neg (wRec (x[i]?.getD (dRec))) _ hr0
    refine ⟨h, .of (szRec_ok _ _ hr0 (by omega) hm) ?_⟩
    simp
    refine ⟨fun h2 => ?_, fun h2 => .of _ (Gh.keep _ [0,1,5]) ⟨i + 1, by omega, ?_, ?_⟩ ?_⟩
    · rw [wRecS, szL, if_neg (by omega), q1 h2]
    · rw [q2]; exact h2
    · rw [q2]; simp [wrapS (show i < 9223372036854775807 by omega)]
    · simp [wrapS (show i < 9223372036854775807 by omega)]; omega
  · rw [wRecS, szL, if_neg (by omega), List.take_of_length_le (by simpa using h)]
set_option maxHeartbeats 1000000 in
set_option maxRecDepth 8000 in
theorem toRecS_ok (x : List GRec) (hs : ∀ n ∈ wRecS x, n ≤ 1048576) : VC Tryz.prog 25 [vRecS x] [(false, mRecS x)] := by
  refine vc_of_ew good hm [0,2,3,4,11] Tryz.func25 rfl (by kernel_rfl) (by kernel_rfl) rfl ?_
  have hl : x.length ≤ 1048576 := hs _ (by simp [wRecS])
  simp [Tryz.f25, vRecS, mRecS]
  refine ⟨by omega, ?_⟩
  refine ew_loop (fun E => ∃ i : Nat, i ≤ x.length ∧ E = { nt := 23, sl := [(0, vRecS x), (3, .v false [.r [7]]), (4, int .i64 i)], bx := [], rt := [(7, .o 109 (fun _ => [.s, .s, .s, .s, .o 134 (fun _ => [.s, .s, .s]), .o 134 (fun _ => [.s, .s, .s]), .s, .s, .o 136 (fun _ => [.s, .s, .s, .s, .s, .s, .s]), .o 9 (fun _ => [.s]), .s, .s]), .ls [.sc (.int .i64 0), .sc (.int .i64 0), .sc (.int .i64 0), .sc (.string ⟨#[]⟩), .ls [.sc (.int .i64 0), .sc (.int .i64 0), .sc (.string ⟨#[]⟩)] [], .ls [.sc (.int .i64 0), .sc (.int .i64 0), .sc (.string ⟨#[]⟩)] [], .sc (.int .i64 0), .sc (.string ⟨#[]⟩), .ls [.sc (.string ⟨#[]⟩), .sc (.int .i64 0), .sc (.bool false), .sc (.bool false), .sc (.int .i64 0), .sc (.int .i64 0), .sc (.string ⟨#[]⟩)] [], .ls [.sc (.string ⟨#[]⟩)] [], .sc (.string ⟨#[]⟩), .sc (.string ⟨#[]⟩)] (fillR [.sc (.int .i64 0), .sc (.int .i64 0), .sc (.int .i64 0), .sc (.string ⟨#[]⟩), .ls [.sc (.int .i64 0), .sc (.int .i64 0), .sc (.string ⟨#[]⟩)] [], .ls [.sc (.int .i64 0), .sc (.int .i64 0), .sc (.string ⟨#[]⟩)] [], .sc (.int .i64 0), .sc (.string ⟨#[]⟩), .ls [.sc (.string ⟨#[]⟩), .sc (.int .i64 0), .sc (.bool false), .sc (.bool false), .sc (.int .i64 0), .sc (.int .i64 0), .sc (.string ⟨#[]⟩)] [], .ls [.sc (.string ⟨#[]⟩)] [], .sc (.string ⟨#[]⟩), .sc (.string ⟨#[]⟩)] (x.map eRec) i))] }) (fun E => x.length - (E.num 4).toNat) _ (Gh.keep _ [0,3,4]) ⟨0, by omega, by simp [vRecS, fillR]⟩ ?_
  rintro E1 ⟨i, hi, rfl⟩
  have hfl : (fillR [.sc (.int .i64 0), .sc (.int .i64 0), .sc (.int .i64 0), .sc (.string ⟨#[]⟩), .ls [.sc (.int .i64 0), .sc (.int .i64 0), .sc (.string ⟨#[]⟩)] [], .ls [.sc (.int .i64 0), .sc (.int .i64 0), .sc (.string ⟨#[]⟩)] [], .sc (.int .i64 0), .sc (.string ⟨#[]⟩), .ls [.sc (.string ⟨#[]⟩), .sc (.int .i64 0), .sc (.bool false), .sc (.bool false), .sc (.int .i64 0), .sc (.int .i64 0), .sc (.string ⟨#[]⟩)] [], .ls [.sc (.string ⟨#[]⟩)] [], .sc (.string ⟨#[]⟩), .sc (.string ⟨#[]⟩)] (x.map eRec) i).length = x.length := by rw [fillR_len _ _ (by simpa using hi)]; simp
  simp [vRecS, eRec] at hfl ⊢
  try simp [hfl]
  refine ⟨fun h => ⟨h, .of (toRec_ok (x[i]?.getD dRec) (fun n hn => hs n (List.mem_cons_of_mem _ (mem_flat (wt := wRec) h hn)))) ?_⟩, fun h => fillR_all _ _ (by simpa using h)⟩
  simp [mRec]
  try simp [hfl, h]
  refine .of _ (Gh.keep _ [0,3,4]) ⟨i + 1, by omega, ?_⟩ ?_
  · have := fillR_set [.sc (.int .i64 0), .sc (.int .i64 0), .sc (.int .i64 0), .sc (.string ⟨#[]⟩), .ls [.sc (.int .i64 0), .sc (.int .i64 0), .sc (.string ⟨#[]⟩)] [], .ls [.sc (.int .i64 0), .sc (.int .i64 0), .sc (.string ⟨#[]⟩)] [], .sc (.int .i64 0), .sc (.string ⟨#[]⟩), .ls [.sc (.string ⟨#[]⟩), .sc (.int .i64 0), .sc (.bool false), .sc (.bool false), .sc (.int .i64 0), .sc (.int .i64 0), .sc (.string ⟨#[]⟩)] [], .ls [.sc (.string ⟨#[]⟩)] [], .sc (.string ⟨#[]⟩), .sc (.string ⟨#[]⟩)] (x.map eRec) (i := i) (by simpa using h)
    simp [wrapS (show i < 9223372036854775807 by omega), vRecS, eRec, h] at this ⊢
    rw [← this]
  · simp [wrapS (show i < 9223372036854775807 by omega)]; omega
set_option maxHeartbeats 1000000 in
set_option maxRecDepth 8000 in
theorem eqRecS_ok (x : List GRec) (hs : ∀ n ∈ wRecS x, n ≤ 1048576) : VC Tryz.prog 27 [vRecS x, vRecS x] [(false, [(.s, .sc (.bool true))])] := by
  refine vc_of_ew good hm [0,1,4,10,5,14,26] Tryz.func27 rfl (by kernel_rfl) (by kernel_rfl) rfl ?_
  have hl : x.length ≤ 1048576 := hs _ (by simp [wRecS])
  simp [Tryz.f27, vRecS]
  refine ew_loop (fun E => ∃ i : Nat, i ≤ x.length ∧ E = { nt := 27, sl := [(0, vRecS x), (1, vRecS x), (5, int .i64 i)], bx := [], rt := [] }) (fun E => x.length - (E.num 5).toNat) _ (Gh.keep _ [0,1,5]) ⟨0, by omega, by simp [vRecS]⟩ ?_
  rintro E1 ⟨i, hi, rfl⟩
  simp [vRecS, eRec]
  intro h
  refine ⟨h, .of (eqRec_ok (x[i]?.getD dRec) (fun n hn => hs n (List.mem_cons_of_mem _ (mem_flat (wt := wRec) h hn)))) ?_⟩
  simp
  refine .of _ (Gh.keep _ [0,1,5]) ⟨i + 1, by omega, ?_⟩ ?_
  · simp [wrapS (show i < 9223372036854775807 by omega), vRecS]
  · simp [wrapS (show i < 9223372036854775807 by omega)]; omega

/-! ### Tail -/
structure GTail where
  fBase : Int
  fDb : GDb
  fRecs : List GRec
def eTail (x : GTail) : List Lf := [.sc (.int .i64 x.fBase), .ls [.sc (.string ⟨#[]⟩), .ls [.sc (.string ⟨#[]⟩), .sc (.int .i64 0), .sc (.bool false), .sc (.bool false), .sc (.int .i64 0), .sc (.int .i64 0), .sc (.string ⟨#[]⟩)] [], .ls [.sc (.string ⟨#[]⟩)] []] (x.fDb.fCat.fTables.map eTable), .ls [.ls [.ls [.sc (.int .i64 0), .sc (.int .i64 0), .sc (.string ⟨#[]⟩)] []] []] (x.fDb.fData.map eRows), .ls [.sc (.int .i64 0), .sc (.int .i64 0), .sc (.int .i64 0), .sc (.string ⟨#[]⟩), .ls [.sc (.int .i64 0), .sc (.int .i64 0), .sc (.string ⟨#[]⟩)] [], .ls [.sc (.int .i64 0), .sc (.int .i64 0), .sc (.string ⟨#[]⟩)] [], .sc (.int .i64 0), .sc (.string ⟨#[]⟩), .ls [.sc (.string ⟨#[]⟩), .sc (.int .i64 0), .sc (.bool false), .sc (.bool false), .sc (.int .i64 0), .sc (.int .i64 0), .sc (.string ⟨#[]⟩)] [], .ls [.sc (.string ⟨#[]⟩)] [], .sc (.string ⟨#[]⟩), .sc (.string ⟨#[]⟩)] (x.fRecs.map eRec)]
def cTail (x : GTail) : List LV := [.s (.sc (.int .i64 x.fBase)), .s (.ls [.sc (.string ⟨#[]⟩), .ls [.sc (.string ⟨#[]⟩), .sc (.int .i64 0), .sc (.bool false), .sc (.bool false), .sc (.int .i64 0), .sc (.int .i64 0), .sc (.string ⟨#[]⟩)] [], .ls [.sc (.string ⟨#[]⟩)] []] (x.fDb.fCat.fTables.map eTable)), .s (.ls [.ls [.ls [.sc (.int .i64 0), .sc (.int .i64 0), .sc (.string ⟨#[]⟩)] []] []] (x.fDb.fData.map eRows)), .s (.ls [.sc (.int .i64 0), .sc (.int .i64 0), .sc (.int .i64 0), .sc (.string ⟨#[]⟩), .ls [.sc (.int .i64 0), .sc (.int .i64 0), .sc (.string ⟨#[]⟩)] [], .ls [.sc (.int .i64 0), .sc (.int .i64 0), .sc (.string ⟨#[]⟩)] [], .sc (.int .i64 0), .sc (.string ⟨#[]⟩), .ls [.sc (.string ⟨#[]⟩), .sc (.int .i64 0), .sc (.bool false), .sc (.bool false), .sc (.int .i64 0), .sc (.int .i64 0), .sc (.string ⟨#[]⟩)] [], .ls [.sc (.string ⟨#[]⟩)] [], .sc (.string ⟨#[]⟩), .sc (.string ⟨#[]⟩)] (x.fRecs.map eRec))]
def vTail (x : GTail) : SV := .v true [.s (.sc (.int .i64 x.fBase)), .s (.ls [.sc (.string ⟨#[]⟩), .ls [.sc (.string ⟨#[]⟩), .sc (.int .i64 0), .sc (.bool false), .sc (.bool false), .sc (.int .i64 0), .sc (.int .i64 0), .sc (.string ⟨#[]⟩)] [], .ls [.sc (.string ⟨#[]⟩)] []] (x.fDb.fCat.fTables.map eTable)), .s (.ls [.ls [.ls [.sc (.int .i64 0), .sc (.int .i64 0), .sc (.string ⟨#[]⟩)] []] []] (x.fDb.fData.map eRows)), .s (.ls [.sc (.int .i64 0), .sc (.int .i64 0), .sc (.int .i64 0), .sc (.string ⟨#[]⟩), .ls [.sc (.int .i64 0), .sc (.int .i64 0), .sc (.string ⟨#[]⟩)] [], .ls [.sc (.int .i64 0), .sc (.int .i64 0), .sc (.string ⟨#[]⟩)] [], .sc (.int .i64 0), .sc (.string ⟨#[]⟩), .ls [.sc (.string ⟨#[]⟩), .sc (.int .i64 0), .sc (.bool false), .sc (.bool false), .sc (.int .i64 0), .sc (.int .i64 0), .sc (.string ⟨#[]⟩)] [], .ls [.sc (.string ⟨#[]⟩)] [], .sc (.string ⟨#[]⟩), .sc (.string ⟨#[]⟩)] (x.fRecs.map eRec))]
def dTail : GTail := ⟨0, ⟨⟨[]⟩, []⟩, []⟩
@[simp] theorem row_Tail (l : List GTail) (i : Nat) : (Option.map eTail l[i]?).getD [.sc (.int .i64 0), .ls [.sc (.string ⟨#[]⟩), .ls [.sc (.string ⟨#[]⟩), .sc (.int .i64 0), .sc (.bool false), .sc (.bool false), .sc (.int .i64 0), .sc (.int .i64 0), .sc (.string ⟨#[]⟩)] [], .ls [.sc (.string ⟨#[]⟩)] []] [], .ls [.ls [.ls [.sc (.int .i64 0), .sc (.int .i64 0), .sc (.string ⟨#[]⟩)] []] []] [], .ls [.sc (.int .i64 0), .sc (.int .i64 0), .sc (.int .i64 0), .sc (.string ⟨#[]⟩), .ls [.sc (.int .i64 0), .sc (.int .i64 0), .sc (.string ⟨#[]⟩)] [], .ls [.sc (.int .i64 0), .sc (.int .i64 0), .sc (.string ⟨#[]⟩)] [], .sc (.int .i64 0), .sc (.string ⟨#[]⟩), .ls [.sc (.string ⟨#[]⟩), .sc (.int .i64 0), .sc (.bool false), .sc (.bool false), .sc (.int .i64 0), .sc (.int .i64 0), .sc (.string ⟨#[]⟩)] [], .ls [.sc (.string ⟨#[]⟩)] [], .sc (.string ⟨#[]⟩), .sc (.string ⟨#[]⟩)] []] = eTail (l[i]?.getD dTail) := by cases l[i]? <;> rfl
def wTail (x : GTail) : List Nat := wDb x.fDb ++ (wRecS x.fRecs ++ ([]))
def okTail (x : GTail) : Prop := okI x.fBase ∧ okDb x.fDb ∧ okRecS x.fRecs ∧ True
theorem okw_Tail (x : GTail) (h : okTail x) : ∀ n ∈ wTail x, okM n := by
  obtain ⟨h0, h1, h2, _⟩ := h
  intro n hn
  simp only [wTail, List.mem_cons, List.mem_append, List.not_mem_nil, or_false, false_or] at hn
  rcases hn with hn | hn
  · exact okw_Db _ h1 n hn
  · exact okw_RecS _ h2 n hn
theorem fit_Tail (ls : List Lf) (h : Fit ti ck 64 ls) : ∃ x : GTail, ls = eTail x ∧ okTail x := by
  obtain ⟨c0, r0, rfl, h0, g0⟩ := All2.cons_inv h
  obtain ⟨a0, rfl, b0⟩ := h0.int_inv
  obtain ⟨c1, r1, rfl, h1, g1⟩ := All2.cons_inv g0
  obtain ⟨a1, rfl, b1, b1'⟩ := h1.list eTable okTable fit_Table
  obtain ⟨c2, r2, rfl, h2, g2⟩ := All2.cons_inv g1
  obtain ⟨a2, rfl, b2, b2'⟩ := h2.list eRows okRows fit_Rows
  obtain ⟨c3, r3, rfl, h3, g3⟩ := All2.cons_inv g2
  obtain ⟨a3, rfl, b3, b3'⟩ := h3.list eRec okRec fit_Rec
  obtain rfl := All2.nil_inv g3
  exact ⟨⟨a0, ⟨⟨a1⟩, a2⟩, a3⟩, rfl, ⟨okI_wf b0, ⟨⟨⟨b1, b1'⟩, trivial⟩, ⟨b2, b2'⟩, trivial⟩, ⟨b3, b3'⟩, trivial⟩⟩
def mTail (x : GTail) : ML := [(.s, .sc (.int .i64 x.fBase)), (.o 119 (fun _ => [.s, .o 136 (fun _ => [.s, .s, .s, .s, .s, .s, .s]), .o 9 (fun _ => [.s])]), .ls [.sc (.string ⟨#[]⟩), .ls [.sc (.string ⟨#[]⟩), .sc (.int .i64 0), .sc (.bool false), .sc (.bool false), .sc (.int .i64 0), .sc (.int .i64 0), .sc (.string ⟨#[]⟩)] [], .ls [.sc (.string ⟨#[]⟩)] []] (x.fDb.fCat.fTables.map eTable)), (.o 123 (fun _ => [.o 102 (fun _ => [.o 134 (fun _ => [.s, .s, .s])])]), .ls [.ls [.ls [.sc (.int .i64 0), .sc (.int .i64 0), .sc (.string ⟨#[]⟩)] []] []] (x.fDb.fData.map eRows)), (.o 109 (fun _ => [.s, .s, .s, .s, .o 134 (fun _ => [.s, .s, .s]), .o 134 (fun _ => [.s, .s, .s]), .s, .s, .o 136 (fun _ => [.s, .s, .s, .s, .s, .s, .s]), .o 9 (fun _ => [.s]), .s, .s]), .ls [.sc (.int .i64 0), .sc (.int .i64 0), .sc (.int .i64 0), .sc (.string ⟨#[]⟩), .ls [.sc (.int .i64 0), .sc (.int .i64 0), .sc (.string ⟨#[]⟩)] [], .ls [.sc (.int .i64 0), .sc (.int .i64 0), .sc (.string ⟨#[]⟩)] [], .sc (.int .i64 0), .sc (.string ⟨#[]⟩), .ls [.sc (.string ⟨#[]⟩), .sc (.int .i64 0), .sc (.bool false), .sc (.bool false), .sc (.int .i64 0), .sc (.int .i64 0), .sc (.string ⟨#[]⟩)] [], .ls [.sc (.string ⟨#[]⟩)] [], .sc (.string ⟨#[]⟩), .sc (.string ⟨#[]⟩)] (x.fRecs.map eRec))]
set_option maxHeartbeats 1000000 in
set_option maxRecDepth 8000 in
theorem szTail_ok (x : GTail) (left : Int) (h0 : 0 ≤ left) (h1 : left ≤ 1048576) (hs : ∀ n ∈ wTail x, okM n) : VC Tryz.prog 28 [vTail x, int .i64 left] [(false, [(.s, .sc (.int .i64 (szL (wTail x) left)))])] := by
  refine vc_of_ew good hm [0,1,2,4,10,16] Tryz.func28 rfl (by kernel_rfl) (by kernel_rfl) rfl ?_
  simp [Tryz.f28, vTail]
  refine .of (szDb_ok x.fDb left (by omega) (by omega) (fun n hn => hs n (by simp [wTail, hn]))) ?_
  simp
  have hb0 := szL_le' (l := wDb x.fDb) (left := left) (by omega)
  have hc0 := szL_neg (wDb x.fDb) left (by omega)
  refine ⟨fun hn => ?_, fun hk0 => ?_⟩
  · have e : szL (wTail x) left = -1 := by rw [wTail, szL_app _ _ _ h0, if_pos (by omega)]
    rw [e]
    try omega
  have hq0 : ¬ (szL (wDb x.fDb) left) < 0 := by omega
  have hz0 : 0 ≤ (szL (wDb x.fDb) left) := by omega
  refine .of (szRecS_ok x.fRecs (szL (wDb x.fDb) left) (by omega) (by omega) (fun n hn => hs n (by simp [wTail, hn]))) ?_
  simp
  have hb1 := szL_le' (l := wRecS x.fRecs) (left := (szL (wDb x.fDb) left)) (by omega)
  have hc1 := szL_neg (wRecS x.fRecs) (szL (wDb x.fDb) left) (by omega)
  by_cases hn : (szL (wRecS x.fRecs) (szL (wDb x.fDb) left)) < 0
  · have e : szL (wTail x) left = -1 := by rw [wTail, szL_app _ _ _ h0, if_neg hq0, szL_app _ _ _ hz0, if_pos hn]
    rw [e]
    try omega
  · have e : szL (wTail x) left = (szL (wRecS x.fRecs) (szL (wDb x.fDb) left)) := by rw [wTail, szL_app _ _ _ h0, if_neg hq0, szL_app _ _ _ hz0, if_neg hn]; rfl
    rw [e]
    try omega
set_option maxHeartbeats 1000000 in
set_option maxRecDepth 8000 in
theorem toTail_ok (x : GTail) (hs : ∀ n ∈ wTail x, n ≤ 1048576) : VC Tryz.prog 30 [vTail x] [(true, mTail x)] := by
  refine vc_of_ew good hm [0,1,2,3] Tryz.func30 rfl (by kernel_rfl) (by kernel_rfl) rfl ?_
  simp [Tryz.f30, vTail, mTail]
  refine .of (toDb_ok x.fDb (fun n hn => hs n (by simp [wTail, hn]))) ?_
  simp [mDb]
  refine .of (toRecS_ok x.fRecs (fun n hn => hs n (by simp [wTail, hn]))) ?_
  simp [mRecS]
set_option maxHeartbeats 1000000 in
set_option maxRecDepth 8000 in
theorem eqTail_ok (x : GTail) (hs : ∀ n ∈ wTail x, n ≤ 1048576) : VC Tryz.prog 32 [vTail x, vTail x] [(false, [(.s, .sc (.bool true))])] := by
  refine vc_of_ew good hm [0,1,2,3,4,9,15,21] Tryz.func32 rfl (by kernel_rfl) (by kernel_rfl) rfl ?_
  simp [Tryz.f32, vTail]
  refine .of (eqDb_ok x.fDb (fun n hn => hs n (by simp [wTail, hn]))) ?_
  simp
  refine .of (eqRecS_ok x.fRecs (fun n hn => hs n (by simp [wTail, hn]))) ?_
  simp
end Go.Proofs.YtkciklpdhhcblaaGreat
