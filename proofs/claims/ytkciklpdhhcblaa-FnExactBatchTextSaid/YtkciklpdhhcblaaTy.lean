/- The types of the seat Ytkciklpdhhcblaa and the contracts of the laws' own functions over them; printed by gen_ty.py. -/
import Derived.Test.YtkciklpdhhcblaaTi
import Derived.Test.YtkciklpdhhcblaaSm22
namespace Go.Proofs.Ytkciklpdhhcblaa
open Go Go.Proofs Go.Sm
attribute [local simp] ti
set_option linter.unusedVariables false
set_option linter.unusedSimpArgs false

def okInt (n : Int) : Prop := okI n
theorem fit_Int (ls : List Lf) (h : Fit ti ck 3 ls) : ∃ x : Int, ls = eInt x ∧ okInt x := by
  obtain ⟨x, r, rfl, h1, h2⟩ := All2.cons_inv h
  obtain rfl := All2.nil_inv h2
  obtain ⟨s, rfl, hs⟩ := h1.int_inv
  exact ⟨s, rfl, okI_wf hs⟩
def wStr (s : ByteArray) : List Nat := [s.size]
def okStr (s : ByteArray) : Prop := okM s.size
theorem okw_Str (x : ByteArray) (h : okStr x) : ∀ n ∈ wStr x, okM n := by
  intro n hn
  rcases List.mem_singleton.1 hn with rfl
  exact h
theorem fit_Str (ls : List Lf) (h : Fit ti ck 9 ls) : ∃ x : ByteArray, ls = eStr x ∧ okStr x := by
  obtain ⟨x, r, rfl, h1, h2⟩ := All2.cons_inv h
  obtain rfl := All2.nil_inv h2
  obtain ⟨s, rfl, hs⟩ := h1.str_inv
  exact ⟨s, rfl, hs⟩

/-! ### Val -/
structure GVal where
  fTy : Int
  fN : Int
  fS : ByteArray
def eVal (x : GVal) : List Lf := [.sc (.int .i64 x.fTy), .sc (.int .i64 x.fN), .sc (.string x.fS)]
def cVal (x : GVal) : List LV := [.s (.sc (.int .i64 x.fTy)), .s (.sc (.int .i64 x.fN)), .s (.sc (.string x.fS))]
def vVal (x : GVal) : SV := .v true [.s (.sc (.int .i64 x.fTy)), .s (.sc (.int .i64 x.fN)), .s (.sc (.string x.fS))]
def dVal : GVal := ⟨0, 0, ⟨#[]⟩⟩
@[simp] theorem row_Val (l : List GVal) (i : Nat) : (Option.map eVal l[i]?).getD [.sc (.int .i64 0), .sc (.int .i64 0), .sc (.string ⟨#[]⟩)] = eVal (l[i]?.getD dVal) := by cases l[i]? <;> rfl
def wVal (x : GVal) : List Nat := x.fS.size :: ([])
def okVal (x : GVal) : Prop := okI x.fTy ∧ okI x.fN ∧ okM x.fS.size ∧ True
theorem okw_Val (x : GVal) (h : okVal x) : ∀ n ∈ wVal x, okM n := by
  obtain ⟨h0, h1, h2, _⟩ := h
  intro n hn
  simp only [wVal, List.mem_cons, List.mem_append, List.not_mem_nil, or_false, false_or] at hn
  rcases hn with rfl
  · exact h2
theorem fit_Val (ls : List Lf) (h : Fit ti ck 130 ls) : ∃ x : GVal, ls = eVal x ∧ okVal x := by
  obtain ⟨c0, r0, rfl, h0, g0⟩ := All2.cons_inv h
  obtain ⟨a0, rfl, b0⟩ := h0.int_inv
  obtain ⟨c1, r1, rfl, h1, g1⟩ := All2.cons_inv g0
  obtain ⟨a1, rfl, b1⟩ := h1.int_inv
  obtain ⟨c2, r2, rfl, h2, g2⟩ := All2.cons_inv g1
  obtain ⟨a2, rfl, b2⟩ := h2.str_inv
  obtain rfl := All2.nil_inv g2
  exact ⟨⟨a0, a1, a2⟩, rfl, ⟨okI_wf b0, okI_wf b1, b2, trivial⟩⟩
def mVal (x : GVal) : ML := [(.s, .sc (.int .i64 x.fTy)), (.s, .sc (.int .i64 x.fN)), (.s, .sc (.string x.fS))]
set_option maxHeartbeats 1000000 in
set_option maxRecDepth 8000 in
theorem szVal_ok (x : GVal) (left : Int) (h0 : 0 ≤ left) (h1 : left ≤ 1048576) (hs : ∀ n ∈ wVal x, okM n) : VC Try.prog 130 [vVal x, int .i64 left] [(false, [(.s, .sc (.int .i64 (szL (wVal x) left)))])] := by
  refine vc_of_ew good hm [0,1,2,4,11] Try.func130 rfl (by kernel_rfl) (by kernel_rfl) rfl ?_
  simp [Try.f130, vVal]
  have hb0 : x.fS.size ≤ 9223372036854775807 := hs _ (by simp [wVal])
  rw [wrapI (i := left - (x.fS.size : Nat)) (by omega) (by omega)]
  by_cases hn : (left - (x.fS.size : Nat)) < 0
  · have e : szL (wVal x) left = -1 := by rw [wVal, szL, if_pos hn]
    rw [e]
    try omega
  · have e : szL (wVal x) left = (left - (x.fS.size : Nat)) := by rw [wVal, szL, if_neg hn]; rfl
    rw [e]
    try omega
set_option maxHeartbeats 1000000 in
set_option maxRecDepth 8000 in
theorem toVal_ok (x : GVal) (hs : ∀ n ∈ wVal x, n ≤ 1048576) : VC Try.prog 132 [vVal x] [(true, mVal x)] := by
  refine vc_of_ew good hm [0,1,2,3] Try.func132 rfl (by kernel_rfl) (by kernel_rfl) rfl ?_
  simp [Try.f132, vVal, mVal]
set_option maxHeartbeats 1000000 in
set_option maxRecDepth 8000 in
theorem eqVal_ok (x : GVal) (hs : ∀ n ∈ wVal x, n ≤ 1048576) : VC Try.prog 136 [vVal x, vVal x] [(false, [(.s, .sc (.bool true))])] := by
  refine vc_of_ew good hm [0,1,2,3,4,9,14,19] Try.func136 rfl (by kernel_rfl) (by kernel_rfl) rfl ?_
  simp [Try.f136, vVal]

/-! ### []Val -/
abbrev GValS := List GVal
def eValS (l : List GVal) : List Lf := [.ls [.sc (.int .i64 0), .sc (.int .i64 0), .sc (.string ⟨#[]⟩)] (l.map eVal)]
def vValS (l : List GVal) : SV := list [.sc (.int .i64 0), .sc (.int .i64 0), .sc (.string ⟨#[]⟩)] (l.map eVal)
@[simp] theorem row_ValS (l : List (List GVal)) (i : Nat) : (Option.map eValS l[i]?).getD [.ls [.sc (.int .i64 0), .sc (.int .i64 0), .sc (.string ⟨#[]⟩)] []] = eValS (l[i]?.getD []) := by cases l[i]? <;> rfl
def wValS (l : List GVal) : List Nat := l.length :: l.flatMap wVal
def okValS (l : List GVal) : Prop := okM l.length ∧ ∀ a ∈ l, okVal a
theorem okw_ValS (l : List GVal) (h : okValS l) : ∀ n ∈ wValS l, okM n := by
  intro n hn
  rcases List.mem_cons.1 hn with rfl | hn
  · exact h.1
  · obtain ⟨a, ha, hn⟩ := List.mem_flatMap.1 hn
    exact okw_Val a (h.2 a ha) n hn
theorem fit_ValS (ls : List Lf) (h : Fit ti ck 37 ls) : ∃ x : List GVal, ls = eValS x ∧ okValS x := by
  obtain ⟨x, r, rfl, h1, h2⟩ := All2.cons_inv h
  obtain rfl := All2.nil_inv h2
  obtain ⟨l, rfl, hl, hs⟩ := h1.list eVal okVal fit_Val
  exact ⟨l, rfl, hl, hs⟩
def mValS (x : List GVal) : ML := [(.o 100 (fun _ => [.s, .s, .s]), .ls [.sc (.int .i64 0), .sc (.int .i64 0), .sc (.string ⟨#[]⟩)] (x.map eVal))]
@[simp] theorem ow_ValS (l : List GVal) : Ow (.o 100 (fun _ => [.s, .s, .s])) (.ls [.sc (.int .i64 0), .sc (.int .i64 0), .sc (.string ⟨#[]⟩)] (l.map eVal)) = True := eq_true (Ow_rows (fun x j hj => match j, hj with | 0, _ => .sc | 1, _ => .sc | 2, _ => .sc | n + 3, hj => absurd hj (by simp)) l)
@[simp] theorem full_ValS (l : List GVal) : Full (.o 100 (fun _ => [.s, .s, .s])) (.ls [.sc (.int .i64 0), .sc (.int .i64 0), .sc (.string ⟨#[]⟩)] (l.map eVal)) = True := eq_true (Full_rows (fun x j hj => match j, hj with | 0, _ => .s | 1, _ => .s | 2, _ => .s | n + 3, hj => absurd hj (by simp)) l)
set_option maxHeartbeats 1000000 in
set_option maxRecDepth 8000 in
theorem szValS_ok (x : List GVal) (left : Int) (h0 : 0 ≤ left) (h1 : left ≤ 1048576) (hs : ∀ n ∈ wValS x, okM n) : VC Try.prog 95 [vValS x, int .i64 left] [(false, [(.s, .sc (.int .i64 (szL (wValS x) left)))])] := by
  refine vc_of_ew good hm [0,1,4,11,5,15,25] Try.func95 rfl (by kernel_rfl) (by kernel_rfl) rfl ?_
  have hl : x.length ≤ 9223372036854775807 := hs _ (by simp [wValS])
  simp [Try.f95, vValS]
  rw [wrapI (i := left - x.length) (by omega) (by omega)]
  refine ⟨fun h => by simp [wValS, szL, h], fun hk => ?_⟩
  refine ew_loop (fun E => ∃ i : Nat, i ≤ x.length ∧ 0 ≤ szL ((x.take i).flatMap wVal) (left - x.length) ∧ E = { nt := 27, sl := [(0, vValS x), (1, int .i64 (szL ((x.take i).flatMap wVal) (left - x.length))), (5, int .i64 i)], bx := [], rt := [] }) (fun E => x.length - (E.num 5).toNat) _ (Gh.keep _ [0,1,5]) ⟨0, by omega, by simp [szL]; omega, by simp [szL, vValS]⟩ ?_
  rintro E1 ⟨i, hi, hr0, rfl⟩
  have hr1 := szL_le' (l := (x.take i).flatMap wVal) (left := left - x.length) (by omega)
  simp [vValS, eVal]
  refine ⟨fun h => ?_, fun h => ?_⟩
  · obtain ⟨q1, q2⟩ := szF_step wVal (dVal) h (by omega : 0 ≤ left - x.length) hr0
    have hm : ∀ n ∈ wVal (x[i]?.getD (dVal)), okM n := fun n hn => hs n (List.mem_cons_of_mem _ (mem_flat h hn))
    have hn1 := szL_neg (wVal (x[i]?.getD (dVal))) _ hr0
    refine ⟨h, .of (szVal_ok _ _ hr0 (by omega) hm) ?_⟩
    simp
    refine ⟨fun h2 => ?_, fun h2 => .of _ (Gh.keep _ [0,1,5]) ⟨i + 1, by omega, ?_, ?_⟩ ?_⟩
    · rw [wValS, szL, if_neg (by omega), q1 h2]
    · rw [q2]; exact h2
    · rw [q2]; simp [wrapS (show i < 9223372036854775807 by omega)]
    · simp [wrapS (show i < 9223372036854775807 by omega)]; omega
  · rw [wValS, szL, if_neg (by omega), List.take_of_length_le (by simpa using h)]
set_option maxHeartbeats 1000000 in
set_option maxRecDepth 8000 in
theorem toValS_ok (x : List GVal) (hs : ∀ n ∈ wValS x, n ≤ 1048576) : VC Try.prog 101 [vValS x] [(false, mValS x)] := by
  refine vc_of_ew good hm [0,2,3,4,11] Try.func101 rfl (by kernel_rfl) (by kernel_rfl) rfl ?_
  have hl : x.length ≤ 1048576 := hs _ (by simp [wValS])
  simp [Try.f101, vValS, mValS]
  refine ⟨by omega, ?_⟩
  refine ew_loop (fun E => ∃ i : Nat, i ≤ x.length ∧ E = { nt := 23, sl := [(0, vValS x), (3, .v false [.r [7]]), (4, int .i64 i)], bx := [], rt := [(7, .o 100 (fun _ => [.s, .s, .s]), .ls [.sc (.int .i64 0), .sc (.int .i64 0), .sc (.string ⟨#[]⟩)] (fillR [.sc (.int .i64 0), .sc (.int .i64 0), .sc (.string ⟨#[]⟩)] (x.map eVal) i))] }) (fun E => x.length - (E.num 4).toNat) _ (Gh.keep _ [0,3,4]) ⟨0, by omega, by simp [vValS, fillR]⟩ ?_
  rintro E1 ⟨i, hi, rfl⟩
  have hfl : (fillR [.sc (.int .i64 0), .sc (.int .i64 0), .sc (.string ⟨#[]⟩)] (x.map eVal) i).length = x.length := by rw [fillR_len _ _ (by simpa using hi)]; simp
  simp [vValS, eVal] at hfl ⊢
  try simp [hfl]
  refine ⟨fun h => ⟨h, .of (toVal_ok (x[i]?.getD dVal) (fun n hn => hs n (List.mem_cons_of_mem _ (mem_flat (wt := wVal) h hn)))) ?_⟩, fun h => fillR_all _ _ (by simpa using h)⟩
  simp [mVal]
  try simp [hfl, h]
  refine .of _ (Gh.keep _ [0,3,4]) ⟨i + 1, by omega, ?_⟩ ?_
  · have := fillR_set [.sc (.int .i64 0), .sc (.int .i64 0), .sc (.string ⟨#[]⟩)] (x.map eVal) (i := i) (by simpa using h)
    simp [wrapS (show i < 9223372036854775807 by omega), vValS, eVal, h] at this ⊢
    rw [← this]
  · simp [wrapS (show i < 9223372036854775807 by omega)]; omega
set_option maxHeartbeats 1000000 in
set_option maxRecDepth 8000 in
theorem eqValS_ok (x : List GVal) (hs : ∀ n ∈ wValS x, n ≤ 1048576) : VC Try.prog 107 [vValS x, vValS x] [(false, [(.s, .sc (.bool true))])] := by
  refine vc_of_ew good hm [0,1,4,10,5,14,26] Try.func107 rfl (by kernel_rfl) (by kernel_rfl) rfl ?_
  have hl : x.length ≤ 1048576 := hs _ (by simp [wValS])
  simp [Try.f107, vValS]
  refine ew_loop (fun E => ∃ i : Nat, i ≤ x.length ∧ E = { nt := 27, sl := [(0, vValS x), (1, vValS x), (5, int .i64 i)], bx := [], rt := [] }) (fun E => x.length - (E.num 5).toNat) _ (Gh.keep _ [0,1,5]) ⟨0, by omega, by simp [vValS]⟩ ?_
  rintro E1 ⟨i, hi, rfl⟩
  simp [vValS, eVal]
  intro h
  refine ⟨h, .of (eqVal_ok (x[i]?.getD dVal) (fun n hn => hs n (List.mem_cons_of_mem _ (mem_flat (wt := wVal) h hn)))) ?_⟩
  simp
  refine .of _ (Gh.keep _ [0,1,5]) ⟨i + 1, by omega, ?_⟩ ?_
  · simp [wrapS (show i < 9223372036854775807 by omega), vValS]
  · simp [wrapS (show i < 9223372036854775807 by omega)]; omega

/-! ### Row -/
structure GRow where
  fVals : List GVal
def eRow (x : GRow) : List Lf := [.ls [.sc (.int .i64 0), .sc (.int .i64 0), .sc (.string ⟨#[]⟩)] (x.fVals.map eVal)]
def cRow (x : GRow) : List LV := [.s (.ls [.sc (.int .i64 0), .sc (.int .i64 0), .sc (.string ⟨#[]⟩)] (x.fVals.map eVal))]
def vRow (x : GRow) : SV := .v true [.s (.ls [.sc (.int .i64 0), .sc (.int .i64 0), .sc (.string ⟨#[]⟩)] (x.fVals.map eVal))]
def dRow : GRow := ⟨[]⟩
@[simp] theorem row_Row (l : List GRow) (i : Nat) : (Option.map eRow l[i]?).getD [.ls [.sc (.int .i64 0), .sc (.int .i64 0), .sc (.string ⟨#[]⟩)] []] = eRow (l[i]?.getD dRow) := by cases l[i]? <;> rfl
def wRow (x : GRow) : List Nat := wValS x.fVals ++ ([])
def okRow (x : GRow) : Prop := okValS x.fVals ∧ True
theorem okw_Row (x : GRow) (h : okRow x) : ∀ n ∈ wRow x, okM n := by
  obtain ⟨h0, _⟩ := h
  intro n hn
  simp only [wRow, List.mem_cons, List.mem_append, List.not_mem_nil, or_false, false_or] at hn
  rcases hn with hn
  · exact okw_ValS _ h0 n hn
theorem fit_Row (ls : List Lf) (h : Fit ti ck 39 ls) : ∃ x : GRow, ls = eRow x ∧ okRow x := by
  obtain ⟨c0, r0, rfl, h0, g0⟩ := All2.cons_inv h
  obtain ⟨a0, rfl, b0, b0'⟩ := h0.list eVal okVal fit_Val
  obtain rfl := All2.nil_inv g0
  exact ⟨⟨a0⟩, rfl, ⟨⟨b0, b0'⟩, trivial⟩⟩
def mRow (x : GRow) : ML := [(.o 100 (fun _ => [.s, .s, .s]), .ls [.sc (.int .i64 0), .sc (.int .i64 0), .sc (.string ⟨#[]⟩)] (x.fVals.map eVal))]
set_option maxHeartbeats 1000000 in
set_option maxRecDepth 8000 in
theorem szRow_ok (x : GRow) (left : Int) (h0 : 0 ≤ left) (h1 : left ≤ 1048576) (hs : ∀ n ∈ wRow x, okM n) : VC Try.prog 96 [vRow x, int .i64 left] [(false, [(.s, .sc (.int .i64 (szL (wRow x) left)))])] := by
  refine vc_of_ew good hm [0,1,2,4,10] Try.func96 rfl (by kernel_rfl) (by kernel_rfl) rfl ?_
  simp [Try.f96, vRow]
  refine .of (szValS_ok x.fVals left (by omega) (by omega) (fun n hn => hs n (by simp [wRow, hn]))) ?_
  simp
  have hb0 := szL_le' (l := wValS x.fVals) (left := left) (by omega)
  have hc0 := szL_neg (wValS x.fVals) left (by omega)
  by_cases hn : (szL (wValS x.fVals) left) < 0
  · have e : szL (wRow x) left = -1 := by rw [wRow, szL_app _ _ _ h0, if_pos hn]
    rw [e]
    try omega
  · have e : szL (wRow x) left = (szL (wValS x.fVals) left) := by rw [wRow, szL_app _ _ _ h0, if_neg hn]; rfl
    rw [e]
    try omega
set_option maxHeartbeats 1000000 in
set_option maxRecDepth 8000 in
theorem toRow_ok (x : GRow) (hs : ∀ n ∈ wRow x, n ≤ 1048576) : VC Try.prog 102 [vRow x] [(true, mRow x)] := by
  refine vc_of_ew good hm [0,1,2,3] Try.func102 rfl (by kernel_rfl) (by kernel_rfl) rfl ?_
  simp [Try.f102, vRow, mRow]
  refine .of (toValS_ok x.fVals (fun n hn => hs n (by simp [wRow, hn]))) ?_
  simp [mValS]
set_option maxHeartbeats 1000000 in
set_option maxRecDepth 8000 in
theorem eqRow_ok (x : GRow) (hs : ∀ n ∈ wRow x, n ≤ 1048576) : VC Try.prog 108 [vRow x, vRow x] [(false, [(.s, .sc (.bool true))])] := by
  refine vc_of_ew good hm [0,1,2,3,4,10] Try.func108 rfl (by kernel_rfl) (by kernel_rfl) rfl ?_
  simp [Try.f108, vRow]
  refine .of (eqValS_ok x.fVals (fun n hn => hs n (by simp [wRow, hn]))) ?_
  simp

/-! ### Col -/
structure GCol where
  fName : ByteArray
  fTy : Int
  fNot : Bool
  fHas : Bool
  fDef : GVal
def eCol (x : GCol) : List Lf := [.sc (.string x.fName), .sc (.int .i64 x.fTy), .sc (.bool x.fNot), .sc (.bool x.fHas), .sc (.int .i64 x.fDef.fTy), .sc (.int .i64 x.fDef.fN), .sc (.string x.fDef.fS)]
def cCol (x : GCol) : List LV := [.s (.sc (.string x.fName)), .s (.sc (.int .i64 x.fTy)), .s (.sc (.bool x.fNot)), .s (.sc (.bool x.fHas)), .s (.sc (.int .i64 x.fDef.fTy)), .s (.sc (.int .i64 x.fDef.fN)), .s (.sc (.string x.fDef.fS))]
def vCol (x : GCol) : SV := .v true [.s (.sc (.string x.fName)), .s (.sc (.int .i64 x.fTy)), .s (.sc (.bool x.fNot)), .s (.sc (.bool x.fHas)), .s (.sc (.int .i64 x.fDef.fTy)), .s (.sc (.int .i64 x.fDef.fN)), .s (.sc (.string x.fDef.fS))]
def dCol : GCol := ⟨⟨#[]⟩, 0, false, false, ⟨0, 0, ⟨#[]⟩⟩⟩
@[simp] theorem row_Col (l : List GCol) (i : Nat) : (Option.map eCol l[i]?).getD [.sc (.string ⟨#[]⟩), .sc (.int .i64 0), .sc (.bool false), .sc (.bool false), .sc (.int .i64 0), .sc (.int .i64 0), .sc (.string ⟨#[]⟩)] = eCol (l[i]?.getD dCol) := by cases l[i]? <;> rfl
def wCol (x : GCol) : List Nat := x.fName.size :: (wVal x.fDef ++ ([]))
def okCol (x : GCol) : Prop := okM x.fName.size ∧ okI x.fTy ∧ okVal x.fDef ∧ True
theorem okw_Col (x : GCol) (h : okCol x) : ∀ n ∈ wCol x, okM n := by
  obtain ⟨h0, h1, h4, _⟩ := h
  intro n hn
  simp only [wCol, List.mem_cons, List.mem_append, List.not_mem_nil, or_false, false_or] at hn
  rcases hn with rfl | hn
  · exact h0
  · exact okw_Val _ h4 n hn
theorem fit_Col (ls : List Lf) (h : Fit ti ck 132 ls) : ∃ x : GCol, ls = eCol x ∧ okCol x := by
  obtain ⟨c0, r0, rfl, h0, g0⟩ := All2.cons_inv h
  obtain ⟨a0, rfl, b0⟩ := h0.str_inv
  obtain ⟨c1, r1, rfl, h1, g1⟩ := All2.cons_inv g0
  obtain ⟨a1, rfl, b1⟩ := h1.int_inv
  obtain ⟨c2, r2, rfl, h2, g2⟩ := All2.cons_inv g1
  obtain ⟨a2, rfl⟩ := h2.bool_inv
  obtain ⟨c3, r3, rfl, h3, g3⟩ := All2.cons_inv g2
  obtain ⟨a3, rfl⟩ := h3.bool_inv
  obtain ⟨c4, r4, rfl, h4, g4⟩ := All2.cons_inv g3
  obtain ⟨a4, rfl, b4⟩ := h4.int_inv
  obtain ⟨c5, r5, rfl, h5, g5⟩ := All2.cons_inv g4
  obtain ⟨a5, rfl, b5⟩ := h5.int_inv
  obtain ⟨c6, r6, rfl, h6, g6⟩ := All2.cons_inv g5
  obtain ⟨a6, rfl, b6⟩ := h6.str_inv
  obtain rfl := All2.nil_inv g6
  exact ⟨⟨a0, a1, a2, a3, ⟨a4, a5, a6⟩⟩, rfl, ⟨b0, okI_wf b1, ⟨okI_wf b4, okI_wf b5, b6, trivial⟩, trivial⟩⟩
def mCol (x : GCol) : ML := [(.s, .sc (.string x.fName)), (.s, .sc (.int .i64 x.fTy)), (.s, .sc (.bool x.fNot)), (.s, .sc (.bool x.fHas)), (.s, .sc (.int .i64 x.fDef.fTy)), (.s, .sc (.int .i64 x.fDef.fN)), (.s, .sc (.string x.fDef.fS))]
set_option maxHeartbeats 1000000 in
set_option maxRecDepth 8000 in
theorem szCol_ok (x : GCol) (left : Int) (h0 : 0 ≤ left) (h1 : left ≤ 1048576) (hs : ∀ n ∈ wCol x, okM n) : VC Try.prog 83 [vCol x, int .i64 left] [(false, [(.s, .sc (.int .i64 (szL (wCol x) left)))])] := by
  refine vc_of_ew good hm [0,1,2,4,11,17] Try.func83 rfl (by kernel_rfl) (by kernel_rfl) rfl ?_
  simp [Try.f83, vCol]
  have hb0 : x.fName.size ≤ 9223372036854775807 := hs _ (by simp [wCol])
  rw [wrapI (i := left - (x.fName.size : Nat)) (by omega) (by omega)]
  refine ⟨fun hn => ?_, fun hk0 => ?_⟩
  · have e : szL (wCol x) left = -1 := by rw [wCol, szL, if_pos (by omega)]
    rw [e]
    try omega
  have hq0 : ¬ (left - (x.fName.size : Nat)) < 0 := by omega
  have hz0 : 0 ≤ (left - (x.fName.size : Nat)) := by omega
  refine .of (szVal_ok x.fDef (left - (x.fName.size : Nat)) (by omega) (by omega) (fun n hn => hs n (by simp [wCol, hn]))) ?_
  simp
  have hb1 := szL_le' (l := wVal x.fDef) (left := (left - (x.fName.size : Nat))) (by omega)
  have hc1 := szL_neg (wVal x.fDef) (left - (x.fName.size : Nat)) (by omega)
  by_cases hn : (szL (wVal x.fDef) (left - (x.fName.size : Nat))) < 0
  · have e : szL (wCol x) left = -1 := by rw [wCol, szL, if_neg hq0, szL_app _ _ _ hz0, if_pos hn]
    rw [e]
    try omega
  · have e : szL (wCol x) left = (szL (wVal x.fDef) (left - (x.fName.size : Nat))) := by rw [wCol, szL, if_neg hq0, szL_app _ _ _ hz0, if_neg hn]; rfl
    rw [e]
    try omega
set_option maxHeartbeats 1000000 in
set_option maxRecDepth 8000 in
theorem toCol_ok (x : GCol) (hs : ∀ n ∈ wCol x, n ≤ 1048576) : VC Try.prog 86 [vCol x] [(true, mCol x)] := by
  refine vc_of_ew good hm [0,1,2,3] Try.func86 rfl (by kernel_rfl) (by kernel_rfl) rfl ?_
  simp [Try.f86, vCol, mCol]
  refine .of (toVal_ok x.fDef (fun n hn => hs n (by simp [wCol, hn]))) ?_
  simp [mVal]
set_option maxHeartbeats 1000000 in
set_option maxRecDepth 8000 in
theorem eqCol_ok (x : GCol) (hs : ∀ n ∈ wCol x, n ≤ 1048576) : VC Try.prog 94 [vCol x, vCol x] [(false, [(.s, .sc (.bool true))])] := by
  refine vc_of_ew good hm [0,1,2,3,4,9,14,19,24,30] Try.func94 rfl (by kernel_rfl) (by kernel_rfl) rfl ?_
  simp [Try.f94, vCol]
  refine .of (eqVal_ok x.fDef (fun n hn => hs n (by simp [wCol, hn]))) ?_
  simp

/-! ### []Col -/
abbrev GColS := List GCol
def eColS (l : List GCol) : List Lf := [.ls [.sc (.string ⟨#[]⟩), .sc (.int .i64 0), .sc (.bool false), .sc (.bool false), .sc (.int .i64 0), .sc (.int .i64 0), .sc (.string ⟨#[]⟩)] (l.map eCol)]
def vColS (l : List GCol) : SV := list [.sc (.string ⟨#[]⟩), .sc (.int .i64 0), .sc (.bool false), .sc (.bool false), .sc (.int .i64 0), .sc (.int .i64 0), .sc (.string ⟨#[]⟩)] (l.map eCol)
@[simp] theorem row_ColS (l : List (List GCol)) (i : Nat) : (Option.map eColS l[i]?).getD [.ls [.sc (.string ⟨#[]⟩), .sc (.int .i64 0), .sc (.bool false), .sc (.bool false), .sc (.int .i64 0), .sc (.int .i64 0), .sc (.string ⟨#[]⟩)] []] = eColS (l[i]?.getD []) := by cases l[i]? <;> rfl
def wColS (l : List GCol) : List Nat := l.length :: l.flatMap wCol
def okColS (l : List GCol) : Prop := okM l.length ∧ ∀ a ∈ l, okCol a
theorem okw_ColS (l : List GCol) (h : okColS l) : ∀ n ∈ wColS l, okM n := by
  intro n hn
  rcases List.mem_cons.1 hn with rfl | hn
  · exact h.1
  · obtain ⟨a, ha, hn⟩ := List.mem_flatMap.1 hn
    exact okw_Col a (h.2 a ha) n hn
theorem fit_ColS (ls : List Lf) (h : Fit ti ck 23 ls) : ∃ x : List GCol, ls = eColS x ∧ okColS x := by
  obtain ⟨x, r, rfl, h1, h2⟩ := All2.cons_inv h
  obtain rfl := All2.nil_inv h2
  obtain ⟨l, rfl, hl, hs⟩ := h1.list eCol okCol fit_Col
  exact ⟨l, rfl, hl, hs⟩
def mColS (x : List GCol) : ML := [(.o 102 (fun _ => [.s, .s, .s, .s, .s, .s, .s]), .ls [.sc (.string ⟨#[]⟩), .sc (.int .i64 0), .sc (.bool false), .sc (.bool false), .sc (.int .i64 0), .sc (.int .i64 0), .sc (.string ⟨#[]⟩)] (x.map eCol))]
@[simp] theorem ow_ColS (l : List GCol) : Ow (.o 102 (fun _ => [.s, .s, .s, .s, .s, .s, .s])) (.ls [.sc (.string ⟨#[]⟩), .sc (.int .i64 0), .sc (.bool false), .sc (.bool false), .sc (.int .i64 0), .sc (.int .i64 0), .sc (.string ⟨#[]⟩)] (l.map eCol)) = True := eq_true (Ow_rows (fun x j hj => match j, hj with | 0, _ => .sc | 1, _ => .sc | 2, _ => .sc | 3, _ => .sc | 4, _ => .sc | 5, _ => .sc | 6, _ => .sc | n + 7, hj => absurd hj (by simp)) l)
@[simp] theorem full_ColS (l : List GCol) : Full (.o 102 (fun _ => [.s, .s, .s, .s, .s, .s, .s])) (.ls [.sc (.string ⟨#[]⟩), .sc (.int .i64 0), .sc (.bool false), .sc (.bool false), .sc (.int .i64 0), .sc (.int .i64 0), .sc (.string ⟨#[]⟩)] (l.map eCol)) = True := eq_true (Full_rows (fun x j hj => match j, hj with | 0, _ => .s | 1, _ => .s | 2, _ => .s | 3, _ => .s | 4, _ => .s | 5, _ => .s | 6, _ => .s | n + 7, hj => absurd hj (by simp)) l)
set_option maxHeartbeats 1000000 in
set_option maxRecDepth 8000 in
theorem szColS_ok (x : List GCol) (left : Int) (h0 : 0 ≤ left) (h1 : left ≤ 1048576) (hs : ∀ n ∈ wColS x, okM n) : VC Try.prog 39 [vColS x, int .i64 left] [(false, [(.s, .sc (.int .i64 (szL (wColS x) left)))])] := by
  refine vc_of_ew good hm [0,1,4,11,5,15,25] Try.func39 rfl (by kernel_rfl) (by kernel_rfl) rfl ?_
  have hl : x.length ≤ 9223372036854775807 := hs _ (by simp [wColS])
  simp [Try.f39, vColS]
  rw [wrapI (i := left - x.length) (by omega) (by omega)]
  refine ⟨fun h => by simp [wColS, szL, h], fun hk => ?_⟩
  refine ew_loop (fun E => ∃ i : Nat, i ≤ x.length ∧ 0 ≤ szL ((x.take i).flatMap wCol) (left - x.length) ∧ E = { nt := 27, sl := [(0, vColS x), (1, int .i64 (szL ((x.take i).flatMap wCol) (left - x.length))), (5, int .i64 i)], bx := [], rt := [] }) (fun E => x.length - (E.num 5).toNat) _ (Gh.keep _ [0,1,5]) ⟨0, by omega, by simp [szL]; omega, by simp [szL, vColS]⟩ ?_
  rintro E1 ⟨i, hi, hr0, rfl⟩
  have hr1 := szL_le' (l := (x.take i).flatMap wCol) (left := left - x.length) (by omega)
  simp [vColS, eCol]
  refine ⟨fun h => ?_, fun h => ?_⟩
  · obtain ⟨q1, q2⟩ := szF_step wCol (dCol) h (by omega : 0 ≤ left - x.length) hr0
    have hm : ∀ n ∈ wCol (x[i]?.getD (dCol)), okM n := fun n hn => hs n (List.mem_cons_of_mem _ (mem_flat h hn))
    have hn1 := szL_neg (wCol (x[i]?.getD (dCol))) _ hr0
    refine ⟨h, .of (szCol_ok _ _ hr0 (by omega) hm) ?_⟩
    simp
    refine ⟨fun h2 => ?_, fun h2 => .of _ (Gh.keep _ [0,1,5]) ⟨i + 1, by omega, ?_, ?_⟩ ?_⟩
    · rw [wColS, szL, if_neg (by omega), q1 h2]
    · rw [q2]; exact h2
    · rw [q2]; simp [wrapS (show i < 9223372036854775807 by omega)]
    · simp [wrapS (show i < 9223372036854775807 by omega)]; omega
  · rw [wColS, szL, if_neg (by omega), List.take_of_length_le (by simpa using h)]
set_option maxHeartbeats 1000000 in
set_option maxRecDepth 8000 in
theorem toColS_ok (x : List GCol) (hs : ∀ n ∈ wColS x, n ≤ 1048576) : VC Try.prog 45 [vColS x] [(false, mColS x)] := by
  refine vc_of_ew good hm [0,2,3,4,11] Try.func45 rfl (by kernel_rfl) (by kernel_rfl) rfl ?_
  have hl : x.length ≤ 1048576 := hs _ (by simp [wColS])
  simp [Try.f45, vColS, mColS]
  refine ⟨by omega, ?_⟩
  refine ew_loop (fun E => ∃ i : Nat, i ≤ x.length ∧ E = { nt := 23, sl := [(0, vColS x), (3, .v false [.r [7]]), (4, int .i64 i)], bx := [], rt := [(7, .o 102 (fun _ => [.s, .s, .s, .s, .s, .s, .s]), .ls [.sc (.string ⟨#[]⟩), .sc (.int .i64 0), .sc (.bool false), .sc (.bool false), .sc (.int .i64 0), .sc (.int .i64 0), .sc (.string ⟨#[]⟩)] (fillR [.sc (.string ⟨#[]⟩), .sc (.int .i64 0), .sc (.bool false), .sc (.bool false), .sc (.int .i64 0), .sc (.int .i64 0), .sc (.string ⟨#[]⟩)] (x.map eCol) i))] }) (fun E => x.length - (E.num 4).toNat) _ (Gh.keep _ [0,3,4]) ⟨0, by omega, by simp [vColS, fillR]⟩ ?_
  rintro E1 ⟨i, hi, rfl⟩
  have hfl : (fillR [.sc (.string ⟨#[]⟩), .sc (.int .i64 0), .sc (.bool false), .sc (.bool false), .sc (.int .i64 0), .sc (.int .i64 0), .sc (.string ⟨#[]⟩)] (x.map eCol) i).length = x.length := by rw [fillR_len _ _ (by simpa using hi)]; simp
  simp [vColS, eCol] at hfl ⊢
  try simp [hfl]
  refine ⟨fun h => ⟨h, .of (toCol_ok (x[i]?.getD dCol) (fun n hn => hs n (List.mem_cons_of_mem _ (mem_flat (wt := wCol) h hn)))) ?_⟩, fun h => fillR_all _ _ (by simpa using h)⟩
  simp [mCol]
  try simp [hfl, h]
  refine .of _ (Gh.keep _ [0,3,4]) ⟨i + 1, by omega, ?_⟩ ?_
  · have := fillR_set [.sc (.string ⟨#[]⟩), .sc (.int .i64 0), .sc (.bool false), .sc (.bool false), .sc (.int .i64 0), .sc (.int .i64 0), .sc (.string ⟨#[]⟩)] (x.map eCol) (i := i) (by simpa using h)
    simp [wrapS (show i < 9223372036854775807 by omega), vColS, eCol, h] at this ⊢
    rw [← this]
  · simp [wrapS (show i < 9223372036854775807 by omega)]; omega
set_option maxHeartbeats 1000000 in
set_option maxRecDepth 8000 in
theorem eqColS_ok (x : List GCol) (hs : ∀ n ∈ wColS x, n ≤ 1048576) : VC Try.prog 53 [vColS x, vColS x] [(false, [(.s, .sc (.bool true))])] := by
  refine vc_of_ew good hm [0,1,4,10,5,14,26] Try.func53 rfl (by kernel_rfl) (by kernel_rfl) rfl ?_
  have hl : x.length ≤ 1048576 := hs _ (by simp [wColS])
  simp [Try.f53, vColS]
  refine ew_loop (fun E => ∃ i : Nat, i ≤ x.length ∧ E = { nt := 27, sl := [(0, vColS x), (1, vColS x), (5, int .i64 i)], bx := [], rt := [] }) (fun E => x.length - (E.num 5).toNat) _ (Gh.keep _ [0,1,5]) ⟨0, by omega, by simp [vColS]⟩ ?_
  rintro E1 ⟨i, hi, rfl⟩
  simp [vColS, eCol]
  intro h
  refine ⟨h, .of (eqCol_ok (x[i]?.getD dCol) (fun n hn => hs n (List.mem_cons_of_mem _ (mem_flat (wt := wCol) h hn)))) ?_⟩
  simp
  refine .of _ (Gh.keep _ [0,1,5]) ⟨i + 1, by omega, ?_⟩ ?_
  · simp [wrapS (show i < 9223372036854775807 by omega), vColS]
  · simp [wrapS (show i < 9223372036854775807 by omega)]; omega

/-! ### []string -/
abbrev GStrS := List ByteArray
def eStrS (l : List ByteArray) : List Lf := [.ls [.sc (.string ⟨#[]⟩)] (l.map eStr)]
def vStrS (l : List ByteArray) : SV := list [.sc (.string ⟨#[]⟩)] (l.map eStr)
@[simp] theorem row_StrS (l : List (List ByteArray)) (i : Nat) : (Option.map eStrS l[i]?).getD [.ls [.sc (.string ⟨#[]⟩)] []] = eStrS (l[i]?.getD []) := by cases l[i]? <;> rfl
def wStrS (l : List ByteArray) : List Nat := l.length :: l.flatMap wStr
def okStrS (l : List ByteArray) : Prop := okM l.length ∧ ∀ a ∈ l, okStr a
theorem okw_StrS (l : List ByteArray) (h : okStrS l) : ∀ n ∈ wStrS l, okM n := by
  intro n hn
  rcases List.mem_cons.1 hn with rfl | hn
  · exact h.1
  · obtain ⟨a, ha, hn⟩ := List.mem_flatMap.1 hn
    exact okw_Str a (h.2 a ha) n hn
theorem fit_StrS (ls : List Lf) (h : Fit ti ck 22 ls) : ∃ x : List ByteArray, ls = eStrS x ∧ okStrS x := by
  obtain ⟨x, r, rfl, h1, h2⟩ := All2.cons_inv h
  obtain rfl := All2.nil_inv h2
  obtain ⟨l, rfl, hl, hs⟩ := h1.list eStr okStr fit_Str
  exact ⟨l, rfl, hl, hs⟩
def mStrS (x : List ByteArray) : ML := [(.o 9 (fun _ => [.s]), .ls [.sc (.string ⟨#[]⟩)] (x.map eStr))]
@[simp] theorem ow_StrS (l : List ByteArray) : Ow (.o 9 (fun _ => [.s])) (.ls [.sc (.string ⟨#[]⟩)] (l.map eStr)) = True := eq_true (Ow_rows (fun x j hj => match j, hj with | 0, _ => .sc | n + 1, hj => absurd hj (by simp)) l)
@[simp] theorem full_StrS (l : List ByteArray) : Full (.o 9 (fun _ => [.s])) (.ls [.sc (.string ⟨#[]⟩)] (l.map eStr)) = True := eq_true (Full_rows (fun x j hj => match j, hj with | 0, _ => .s | n + 1, hj => absurd hj (by simp)) l)
set_option maxHeartbeats 1000000 in
set_option maxRecDepth 8000 in
theorem szStrS_ok (x : List ByteArray) (left : Int) (h0 : 0 ≤ left) (h1 : left ≤ 1048576) (hs : ∀ n ∈ wStrS x, okM n) : VC Try.prog 10 [vStrS x, int .i64 left] [(false, [(.s, .sc (.int .i64 (szL (wStrS x) left)))])] := by
  refine vc_of_ew good hm [0,1,4,11,5,15,26] Try.func10 rfl (by kernel_rfl) (by kernel_rfl) rfl ?_
  have hl : x.length ≤ 9223372036854775807 := hs _ (by simp [wStrS])
  simp [Try.f10, vStrS]
  rw [wrapI (i := left - x.length) (by omega) (by omega)]
  refine ⟨fun h => by simp [wStrS, szL, h], fun hk => ?_⟩
  refine ew_loop (fun E => ∃ i : Nat, i ≤ x.length ∧ 0 ≤ szL ((x.take i).flatMap wStr) (left - x.length) ∧ E = { nt := 28, sl := [(0, vStrS x), (1, int .i64 (szL ((x.take i).flatMap wStr) (left - x.length))), (5, int .i64 i)], bx := [], rt := [] }) (fun E => x.length - (E.num 5).toNat) _ (Gh.keep _ [0,1,5]) ⟨0, by omega, by simp [szL]; omega, by simp [szL, vStrS]⟩ ?_
  rintro E1 ⟨i, hi, hr0, rfl⟩
  have hr1 := szL_le' (l := (x.take i).flatMap wStr) (left := left - x.length) (by omega)
  simp [vStrS, eStr]
  refine ⟨fun h => ?_, fun h => ?_⟩
  · obtain ⟨q1, q2⟩ := szF_step wStr (⟨#[]⟩) h (by omega : 0 ≤ left - x.length) hr0
    have hm : ∀ n ∈ wStr (x[i]?.getD (⟨#[]⟩)), okM n := fun n hn => hs n (List.mem_cons_of_mem _ (mem_flat h hn))
    have hb : (x[i]?.getD (⟨#[]⟩ : ByteArray)).size ≤ 9223372036854775807 := hm _ (by simp [wStr])
    simp only [wStr, szL] at q1 q2
    try simp [eStr]
    rw [wrapI (i := szL ((x.take i).flatMap wStr) (left - x.length) - ((x[i]?.getD (⟨#[]⟩ : ByteArray)).size : Nat)) (by omega) (by omega)]
    refine ⟨h, fun h2 => ?_, fun h2 => .of _ (Gh.keep _ [0,1,5]) ⟨i + 1, by omega, ?_, ?_⟩ ?_⟩
    · simp [h2] at q1; rw [wStrS, szL, if_neg (by omega), q1]
    · rw [q2, if_neg (by omega)]; exact h2
    · rw [q2, if_neg (by omega)]; simp [wrapS (show i < 9223372036854775807 by omega)]
    · simp [wrapS (show i < 9223372036854775807 by omega)]; omega
  · rw [wStrS, szL, if_neg (by omega), List.take_of_length_le (by simpa using h)]
set_option maxHeartbeats 1000000 in
set_option maxRecDepth 8000 in
theorem toStrS_ok (x : List ByteArray) (hs : ∀ n ∈ wStrS x, n ≤ 1048576) : VC Try.prog 13 [vStrS x] [(false, mStrS x)] := by
  refine vc_of_ew good hm [0,2,3,4,11] Try.func13 rfl (by kernel_rfl) (by kernel_rfl) rfl ?_
  have hl : x.length ≤ 1048576 := hs _ (by simp [wStrS])
  simp [Try.f13, vStrS, mStrS]
  refine ⟨by omega, ?_⟩
  refine ew_loop (fun E => ∃ i : Nat, i ≤ x.length ∧ E = { nt := 22, sl := [(0, vStrS x), (3, .v false [.r [7]]), (4, int .i64 i)], bx := [], rt := [(7, .o 9 (fun _ => [.s]), .ls [.sc (.string ⟨#[]⟩)] (fillR [.sc (.string ⟨#[]⟩)] (x.map eStr) i))] }) (fun E => x.length - (E.num 4).toNat) _ (Gh.keep _ [0,3,4]) ⟨0, by omega, by simp [vStrS, fillR]⟩ ?_
  rintro E1 ⟨i, hi, rfl⟩
  have hfl : (fillR [.sc (.string ⟨#[]⟩)] (x.map eStr) i).length = x.length := by rw [fillR_len _ _ (by simpa using hi)]; simp
  simp [vStrS, eStr] at hfl ⊢
  try simp [hfl]
  refine ⟨fun h => ?_, fun h => fillR_all _ _ (by simpa using h)⟩
  simp [eStr, hfl, h]
  refine .of _ (Gh.keep _ [0,3,4]) ⟨i + 1, by omega, ?_⟩ ?_
  · have := fillR_set [.sc (.string ⟨#[]⟩)] (x.map eStr) (i := i) (by simpa using h)
    simp [wrapS (show i < 9223372036854775807 by omega), vStrS, eStr, h] at this ⊢
    rw [← this]
  · simp [wrapS (show i < 9223372036854775807 by omega)]; omega
set_option maxHeartbeats 1000000 in
set_option maxRecDepth 8000 in
theorem eqStrS_ok (x : List ByteArray) (hs : ∀ n ∈ wStrS x, n ≤ 1048576) : VC Try.prog 16 [vStrS x, vStrS x] [(false, [(.s, .sc (.bool true))])] := by
  refine vc_of_ew good hm [0,1,4,10,5,14,25] Try.func16 rfl (by kernel_rfl) (by kernel_rfl) rfl ?_
  have hl : x.length ≤ 1048576 := hs _ (by simp [wStrS])
  simp [Try.f16, vStrS]
  refine ew_loop (fun E => ∃ i : Nat, i ≤ x.length ∧ E = { nt := 26, sl := [(0, vStrS x), (1, vStrS x), (5, int .i64 i)], bx := [], rt := [] }) (fun E => x.length - (E.num 5).toNat) _ (Gh.keep _ [0,1,5]) ⟨0, by omega, by simp [vStrS]⟩ ?_
  rintro E1 ⟨i, hi, rfl⟩
  simp [vStrS, eStr]
  intro h
  simp [eStr, h]
  refine .of _ (Gh.keep _ [0,1,5]) ⟨i + 1, by omega, ?_⟩ ?_
  · simp [wrapS (show i < 9223372036854775807 by omega), vStrS]
  · simp [wrapS (show i < 9223372036854775807 by omega)]; omega

/-! ### Ddl -/
structure GDdl where
  fKind : Int
  fTable : ByteArray
  fCols : List GCol
  fKeys : List ByteArray
  fName : ByteArray
  fTo : ByteArray
def eDdl (x : GDdl) : List Lf := [.sc (.int .i64 x.fKind), .sc (.string x.fTable), .ls [.sc (.string ⟨#[]⟩), .sc (.int .i64 0), .sc (.bool false), .sc (.bool false), .sc (.int .i64 0), .sc (.int .i64 0), .sc (.string ⟨#[]⟩)] (x.fCols.map eCol), .ls [.sc (.string ⟨#[]⟩)] (x.fKeys.map eStr), .sc (.string x.fName), .sc (.string x.fTo)]
def cDdl (x : GDdl) : List LV := [.s (.sc (.int .i64 x.fKind)), .s (.sc (.string x.fTable)), .s (.ls [.sc (.string ⟨#[]⟩), .sc (.int .i64 0), .sc (.bool false), .sc (.bool false), .sc (.int .i64 0), .sc (.int .i64 0), .sc (.string ⟨#[]⟩)] (x.fCols.map eCol)), .s (.ls [.sc (.string ⟨#[]⟩)] (x.fKeys.map eStr)), .s (.sc (.string x.fName)), .s (.sc (.string x.fTo))]
def vDdl (x : GDdl) : SV := .v true [.s (.sc (.int .i64 x.fKind)), .s (.sc (.string x.fTable)), .s (.ls [.sc (.string ⟨#[]⟩), .sc (.int .i64 0), .sc (.bool false), .sc (.bool false), .sc (.int .i64 0), .sc (.int .i64 0), .sc (.string ⟨#[]⟩)] (x.fCols.map eCol)), .s (.ls [.sc (.string ⟨#[]⟩)] (x.fKeys.map eStr)), .s (.sc (.string x.fName)), .s (.sc (.string x.fTo))]
def dDdl : GDdl := ⟨0, ⟨#[]⟩, [], [], ⟨#[]⟩, ⟨#[]⟩⟩
@[simp] theorem row_Ddl (l : List GDdl) (i : Nat) : (Option.map eDdl l[i]?).getD [.sc (.int .i64 0), .sc (.string ⟨#[]⟩), .ls [.sc (.string ⟨#[]⟩), .sc (.int .i64 0), .sc (.bool false), .sc (.bool false), .sc (.int .i64 0), .sc (.int .i64 0), .sc (.string ⟨#[]⟩)] [], .ls [.sc (.string ⟨#[]⟩)] [], .sc (.string ⟨#[]⟩), .sc (.string ⟨#[]⟩)] = eDdl (l[i]?.getD dDdl) := by cases l[i]? <;> rfl
def wDdl (x : GDdl) : List Nat := x.fTable.size :: (wColS x.fCols ++ (wStrS x.fKeys ++ (x.fName.size :: (x.fTo.size :: ([])))))
def okDdl (x : GDdl) : Prop := okI x.fKind ∧ okM x.fTable.size ∧ okColS x.fCols ∧ okStrS x.fKeys ∧ okM x.fName.size ∧ okM x.fTo.size ∧ True
theorem okw_Ddl (x : GDdl) (h : okDdl x) : ∀ n ∈ wDdl x, okM n := by
  obtain ⟨h0, h1, h2, h3, h4, h5, _⟩ := h
  intro n hn
  simp only [wDdl, List.mem_cons, List.mem_append, List.not_mem_nil, or_false, false_or] at hn
  rcases hn with rfl | hn | hn | rfl | rfl
  · exact h1
  · exact okw_ColS _ h2 n hn
  · exact okw_StrS _ h3 n hn
  · exact h4
  · exact h5
theorem fit_Ddl (ls : List Lf) (h : Fit ti ck 41 ls) : ∃ x : GDdl, ls = eDdl x ∧ okDdl x := by
  obtain ⟨c0, r0, rfl, h0, g0⟩ := All2.cons_inv h
  obtain ⟨a0, rfl, b0⟩ := h0.int_inv
  obtain ⟨c1, r1, rfl, h1, g1⟩ := All2.cons_inv g0
  obtain ⟨a1, rfl, b1⟩ := h1.str_inv
  obtain ⟨c2, r2, rfl, h2, g2⟩ := All2.cons_inv g1
  obtain ⟨a2, rfl, b2, b2'⟩ := h2.list eCol okCol fit_Col
  obtain ⟨c3, r3, rfl, h3, g3⟩ := All2.cons_inv g2
  obtain ⟨a3, rfl, b3, b3'⟩ := h3.list eStr okStr fit_Str
  obtain ⟨c4, r4, rfl, h4, g4⟩ := All2.cons_inv g3
  obtain ⟨a4, rfl, b4⟩ := h4.str_inv
  obtain ⟨c5, r5, rfl, h5, g5⟩ := All2.cons_inv g4
  obtain ⟨a5, rfl, b5⟩ := h5.str_inv
  obtain rfl := All2.nil_inv g5
  exact ⟨⟨a0, a1, a2, a3, a4, a5⟩, rfl, ⟨okI_wf b0, b1, ⟨b2, b2'⟩, ⟨b3, b3'⟩, b4, b5, trivial⟩⟩
def mDdl (x : GDdl) : ML := [(.s, .sc (.int .i64 x.fKind)), (.s, .sc (.string x.fTable)), (.o 102 (fun _ => [.s, .s, .s, .s, .s, .s, .s]), .ls [.sc (.string ⟨#[]⟩), .sc (.int .i64 0), .sc (.bool false), .sc (.bool false), .sc (.int .i64 0), .sc (.int .i64 0), .sc (.string ⟨#[]⟩)] (x.fCols.map eCol)), (.o 9 (fun _ => [.s]), .ls [.sc (.string ⟨#[]⟩)] (x.fKeys.map eStr)), (.s, .sc (.string x.fName)), (.s, .sc (.string x.fTo))]
set_option maxHeartbeats 1000000 in
set_option maxRecDepth 8000 in
theorem szDdl_ok (x : GDdl) (left : Int) (h0 : 0 ≤ left) (h1 : left ≤ 1048576) (hs : ∀ n ∈ wDdl x, okM n) : VC Try.prog 97 [vDdl x, int .i64 left] [(false, [(.s, .sc (.int .i64 (szL (wDdl x) left)))])] := by
  refine vc_of_ew good hm [0,1,2,4,11,17,23,30,37] Try.func97 rfl (by kernel_rfl) (by kernel_rfl) rfl ?_
  simp [Try.f97, vDdl]
  have hb0 : x.fTable.size ≤ 9223372036854775807 := hs _ (by simp [wDdl])
  rw [wrapI (i := left - (x.fTable.size : Nat)) (by omega) (by omega)]
  refine ⟨fun hn => ?_, fun hk0 => ?_⟩
  · have e : szL (wDdl x) left = -1 := by rw [wDdl, szL, if_pos (by omega)]
    rw [e]
    try omega
  have hq0 : ¬ (left - (x.fTable.size : Nat)) < 0 := by omega
  have hz0 : 0 ≤ (left - (x.fTable.size : Nat)) := by omega
  refine .of (szColS_ok x.fCols (left - (x.fTable.size : Nat)) (by omega) (by omega) (fun n hn => hs n (by simp [wDdl, hn]))) ?_
  simp
  have hb1 := szL_le' (l := wColS x.fCols) (left := (left - (x.fTable.size : Nat))) (by omega)
  have hc1 := szL_neg (wColS x.fCols) (left - (x.fTable.size : Nat)) (by omega)
  refine ⟨fun hn => ?_, fun hk1 => ?_⟩
  · have e : szL (wDdl x) left = -1 := by rw [wDdl, szL, if_neg hq0, szL_app _ _ _ hz0, if_pos (by omega)]
    rw [e]
    try omega
  have hq1 : ¬ (szL (wColS x.fCols) (left - (x.fTable.size : Nat))) < 0 := by omega
  have hz1 : 0 ≤ (szL (wColS x.fCols) (left - (x.fTable.size : Nat))) := by omega
  refine .of (szStrS_ok x.fKeys (szL (wColS x.fCols) (left - (x.fTable.size : Nat))) (by omega) (by omega) (fun n hn => hs n (by simp [wDdl, hn]))) ?_
  simp
  have hb2 := szL_le' (l := wStrS x.fKeys) (left := (szL (wColS x.fCols) (left - (x.fTable.size : Nat)))) (by omega)
  have hc2 := szL_neg (wStrS x.fKeys) (szL (wColS x.fCols) (left - (x.fTable.size : Nat))) (by omega)
  refine ⟨fun hn => ?_, fun hk2 => ?_⟩
  · have e : szL (wDdl x) left = -1 := by rw [wDdl, szL, if_neg hq0, szL_app _ _ _ hz0, if_neg hq1, szL_app _ _ _ hz1, if_pos (by omega)]
    rw [e]
    try omega
  have hq2 : ¬ (szL (wStrS x.fKeys) (szL (wColS x.fCols) (left - (x.fTable.size : Nat)))) < 0 := by omega
  have hz2 : 0 ≤ (szL (wStrS x.fKeys) (szL (wColS x.fCols) (left - (x.fTable.size : Nat)))) := by omega
  have hb3 : x.fName.size ≤ 9223372036854775807 := hs _ (by simp [wDdl])
  rw [wrapI (i := (szL (wStrS x.fKeys) (szL (wColS x.fCols) (left - (x.fTable.size : Nat)))) - (x.fName.size : Nat)) (by omega) (by omega)]
  refine ⟨fun hn => ?_, fun hk3 => ?_⟩
  · have e : szL (wDdl x) left = -1 := by rw [wDdl, szL, if_neg hq0, szL_app _ _ _ hz0, if_neg hq1, szL_app _ _ _ hz1, if_neg hq2, szL, if_pos (by omega)]
    rw [e]
    try omega
  have hq3 : ¬ ((szL (wStrS x.fKeys) (szL (wColS x.fCols) (left - (x.fTable.size : Nat)))) - (x.fName.size : Nat)) < 0 := by omega
  have hz3 : 0 ≤ ((szL (wStrS x.fKeys) (szL (wColS x.fCols) (left - (x.fTable.size : Nat)))) - (x.fName.size : Nat)) := by omega
  have hb4 : x.fTo.size ≤ 9223372036854775807 := hs _ (by simp [wDdl])
  rw [wrapI (i := ((szL (wStrS x.fKeys) (szL (wColS x.fCols) (left - (x.fTable.size : Nat)))) - (x.fName.size : Nat)) - (x.fTo.size : Nat)) (by omega) (by omega)]
  by_cases hn : (((szL (wStrS x.fKeys) (szL (wColS x.fCols) (left - (x.fTable.size : Nat)))) - (x.fName.size : Nat)) - (x.fTo.size : Nat)) < 0
  · have e : szL (wDdl x) left = -1 := by rw [wDdl, szL, if_neg hq0, szL_app _ _ _ hz0, if_neg hq1, szL_app _ _ _ hz1, if_neg hq2, szL, if_neg hq3, szL, if_pos hn]
    rw [e]
    try omega
  · have e : szL (wDdl x) left = (((szL (wStrS x.fKeys) (szL (wColS x.fCols) (left - (x.fTable.size : Nat)))) - (x.fName.size : Nat)) - (x.fTo.size : Nat)) := by rw [wDdl, szL, if_neg hq0, szL_app _ _ _ hz0, if_neg hq1, szL_app _ _ _ hz1, if_neg hq2, szL, if_neg hq3, szL, if_neg hn]; rfl
    rw [e]
    try omega
set_option maxHeartbeats 1000000 in
set_option maxRecDepth 8000 in
theorem toDdl_ok (x : GDdl) (hs : ∀ n ∈ wDdl x, n ≤ 1048576) : VC Try.prog 103 [vDdl x] [(true, mDdl x)] := by
  refine vc_of_ew good hm [0,1,2,3] Try.func103 rfl (by kernel_rfl) (by kernel_rfl) rfl ?_
  simp [Try.f103, vDdl, mDdl]
  refine .of (toColS_ok x.fCols (fun n hn => hs n (by simp [wDdl, hn]))) ?_
  simp [mColS]
  refine .of (toStrS_ok x.fKeys (fun n hn => hs n (by simp [wDdl, hn]))) ?_
  simp [mStrS]
set_option maxHeartbeats 1000000 in
set_option maxRecDepth 8000 in
theorem eqDdl_ok (x : GDdl) (hs : ∀ n ∈ wDdl x, n ≤ 1048576) : VC Try.prog 109 [vDdl x, vDdl x] [(false, [(.s, .sc (.bool true))])] := by
  refine vc_of_ew good hm [0,1,2,3,4,9,14,20,26,31,36] Try.func109 rfl (by kernel_rfl) (by kernel_rfl) rfl ?_
  simp [Try.f109, vDdl]
  refine .of (eqColS_ok x.fCols (fun n hn => hs n (by simp [wDdl, hn]))) ?_
  simp
  refine .of (eqStrS_ok x.fKeys (fun n hn => hs n (by simp [wDdl, hn]))) ?_
  simp

/-! ### Stmt -/
structure GStmt where
  fKind : Int
  fTable : ByteArray
  fKey : List GVal
  fRow : GRow
  fDdl : GDdl
def eStmt (x : GStmt) : List Lf := [.sc (.int .i64 x.fKind), .sc (.string x.fTable), .ls [.sc (.int .i64 0), .sc (.int .i64 0), .sc (.string ⟨#[]⟩)] (x.fKey.map eVal), .ls [.sc (.int .i64 0), .sc (.int .i64 0), .sc (.string ⟨#[]⟩)] (x.fRow.fVals.map eVal), .sc (.int .i64 x.fDdl.fKind), .sc (.string x.fDdl.fTable), .ls [.sc (.string ⟨#[]⟩), .sc (.int .i64 0), .sc (.bool false), .sc (.bool false), .sc (.int .i64 0), .sc (.int .i64 0), .sc (.string ⟨#[]⟩)] (x.fDdl.fCols.map eCol), .ls [.sc (.string ⟨#[]⟩)] (x.fDdl.fKeys.map eStr), .sc (.string x.fDdl.fName), .sc (.string x.fDdl.fTo)]
def cStmt (x : GStmt) : List LV := [.s (.sc (.int .i64 x.fKind)), .s (.sc (.string x.fTable)), .s (.ls [.sc (.int .i64 0), .sc (.int .i64 0), .sc (.string ⟨#[]⟩)] (x.fKey.map eVal)), .s (.ls [.sc (.int .i64 0), .sc (.int .i64 0), .sc (.string ⟨#[]⟩)] (x.fRow.fVals.map eVal)), .s (.sc (.int .i64 x.fDdl.fKind)), .s (.sc (.string x.fDdl.fTable)), .s (.ls [.sc (.string ⟨#[]⟩), .sc (.int .i64 0), .sc (.bool false), .sc (.bool false), .sc (.int .i64 0), .sc (.int .i64 0), .sc (.string ⟨#[]⟩)] (x.fDdl.fCols.map eCol)), .s (.ls [.sc (.string ⟨#[]⟩)] (x.fDdl.fKeys.map eStr)), .s (.sc (.string x.fDdl.fName)), .s (.sc (.string x.fDdl.fTo))]
def vStmt (x : GStmt) : SV := .v true [.s (.sc (.int .i64 x.fKind)), .s (.sc (.string x.fTable)), .s (.ls [.sc (.int .i64 0), .sc (.int .i64 0), .sc (.string ⟨#[]⟩)] (x.fKey.map eVal)), .s (.ls [.sc (.int .i64 0), .sc (.int .i64 0), .sc (.string ⟨#[]⟩)] (x.fRow.fVals.map eVal)), .s (.sc (.int .i64 x.fDdl.fKind)), .s (.sc (.string x.fDdl.fTable)), .s (.ls [.sc (.string ⟨#[]⟩), .sc (.int .i64 0), .sc (.bool false), .sc (.bool false), .sc (.int .i64 0), .sc (.int .i64 0), .sc (.string ⟨#[]⟩)] (x.fDdl.fCols.map eCol)), .s (.ls [.sc (.string ⟨#[]⟩)] (x.fDdl.fKeys.map eStr)), .s (.sc (.string x.fDdl.fName)), .s (.sc (.string x.fDdl.fTo))]
def dStmt : GStmt := ⟨0, ⟨#[]⟩, [], ⟨[]⟩, ⟨0, ⟨#[]⟩, [], [], ⟨#[]⟩, ⟨#[]⟩⟩⟩
@[simp] theorem row_Stmt (l : List GStmt) (i : Nat) : (Option.map eStmt l[i]?).getD [.sc (.int .i64 0), .sc (.string ⟨#[]⟩), .ls [.sc (.int .i64 0), .sc (.int .i64 0), .sc (.string ⟨#[]⟩)] [], .ls [.sc (.int .i64 0), .sc (.int .i64 0), .sc (.string ⟨#[]⟩)] [], .sc (.int .i64 0), .sc (.string ⟨#[]⟩), .ls [.sc (.string ⟨#[]⟩), .sc (.int .i64 0), .sc (.bool false), .sc (.bool false), .sc (.int .i64 0), .sc (.int .i64 0), .sc (.string ⟨#[]⟩)] [], .ls [.sc (.string ⟨#[]⟩)] [], .sc (.string ⟨#[]⟩), .sc (.string ⟨#[]⟩)] = eStmt (l[i]?.getD dStmt) := by cases l[i]? <;> rfl
def wStmt (x : GStmt) : List Nat := x.fTable.size :: (wValS x.fKey ++ (wRow x.fRow ++ (wDdl x.fDdl ++ ([]))))
def okStmt (x : GStmt) : Prop := okI x.fKind ∧ okM x.fTable.size ∧ okValS x.fKey ∧ okRow x.fRow ∧ okDdl x.fDdl ∧ True
theorem okw_Stmt (x : GStmt) (h : okStmt x) : ∀ n ∈ wStmt x, okM n := by
  obtain ⟨h0, h1, h2, h3, h4, _⟩ := h
  intro n hn
  simp only [wStmt, List.mem_cons, List.mem_append, List.not_mem_nil, or_false, false_or] at hn
  rcases hn with rfl | hn | hn | hn
  · exact h1
  · exact okw_ValS _ h2 n hn
  · exact okw_Row _ h3 n hn
  · exact okw_Ddl _ h4 n hn
theorem fit_Stmt (ls : List Lf) (h : Fit ti ck 43 ls) : ∃ x : GStmt, ls = eStmt x ∧ okStmt x := by
  obtain ⟨c0, r0, rfl, h0, g0⟩ := All2.cons_inv h
  obtain ⟨a0, rfl, b0⟩ := h0.int_inv
  obtain ⟨c1, r1, rfl, h1, g1⟩ := All2.cons_inv g0
  obtain ⟨a1, rfl, b1⟩ := h1.str_inv
  obtain ⟨c2, r2, rfl, h2, g2⟩ := All2.cons_inv g1
  obtain ⟨a2, rfl, b2, b2'⟩ := h2.list eVal okVal fit_Val
  obtain ⟨c3, r3, rfl, h3, g3⟩ := All2.cons_inv g2
  obtain ⟨a3, rfl, b3, b3'⟩ := h3.list eVal okVal fit_Val
  obtain ⟨c4, r4, rfl, h4, g4⟩ := All2.cons_inv g3
  obtain ⟨a4, rfl, b4⟩ := h4.int_inv
  obtain ⟨c5, r5, rfl, h5, g5⟩ := All2.cons_inv g4
  obtain ⟨a5, rfl, b5⟩ := h5.str_inv
  obtain ⟨c6, r6, rfl, h6, g6⟩ := All2.cons_inv g5
  obtain ⟨a6, rfl, b6, b6'⟩ := h6.list eCol okCol fit_Col
  obtain ⟨c7, r7, rfl, h7, g7⟩ := All2.cons_inv g6
  obtain ⟨a7, rfl, b7, b7'⟩ := h7.list eStr okStr fit_Str
  obtain ⟨c8, r8, rfl, h8, g8⟩ := All2.cons_inv g7
  obtain ⟨a8, rfl, b8⟩ := h8.str_inv
  obtain ⟨c9, r9, rfl, h9, g9⟩ := All2.cons_inv g8
  obtain ⟨a9, rfl, b9⟩ := h9.str_inv
  obtain rfl := All2.nil_inv g9
  exact ⟨⟨a0, a1, a2, ⟨a3⟩, ⟨a4, a5, a6, a7, a8, a9⟩⟩, rfl, ⟨okI_wf b0, b1, ⟨b2, b2'⟩, ⟨⟨b3, b3'⟩, trivial⟩, ⟨okI_wf b4, b5, ⟨b6, b6'⟩, ⟨b7, b7'⟩, b8, b9, trivial⟩, trivial⟩⟩
def mStmt (x : GStmt) : ML := [(.s, .sc (.int .i64 x.fKind)), (.s, .sc (.string x.fTable)), (.o 100 (fun _ => [.s, .s, .s]), .ls [.sc (.int .i64 0), .sc (.int .i64 0), .sc (.string ⟨#[]⟩)] (x.fKey.map eVal)), (.o 100 (fun _ => [.s, .s, .s]), .ls [.sc (.int .i64 0), .sc (.int .i64 0), .sc (.string ⟨#[]⟩)] (x.fRow.fVals.map eVal)), (.s, .sc (.int .i64 x.fDdl.fKind)), (.s, .sc (.string x.fDdl.fTable)), (.o 102 (fun _ => [.s, .s, .s, .s, .s, .s, .s]), .ls [.sc (.string ⟨#[]⟩), .sc (.int .i64 0), .sc (.bool false), .sc (.bool false), .sc (.int .i64 0), .sc (.int .i64 0), .sc (.string ⟨#[]⟩)] (x.fDdl.fCols.map eCol)), (.o 9 (fun _ => [.s]), .ls [.sc (.string ⟨#[]⟩)] (x.fDdl.fKeys.map eStr)), (.s, .sc (.string x.fDdl.fName)), (.s, .sc (.string x.fDdl.fTo))]
set_option maxHeartbeats 1000000 in
set_option maxRecDepth 8000 in
theorem szStmt_ok (x : GStmt) (left : Int) (h0 : 0 ≤ left) (h1 : left ≤ 1048576) (hs : ∀ n ∈ wStmt x, okM n) : VC Try.prog 54 [vStmt x, int .i64 left] [(false, [(.s, .sc (.int .i64 (szL (wStmt x) left)))])] := by
  refine vc_of_ew good hm [0,1,2,4,11,17,23,29] Try.func54 rfl (by kernel_rfl) (by kernel_rfl) rfl ?_
  simp [Try.f54, vStmt]
  have hb0 : x.fTable.size ≤ 9223372036854775807 := hs _ (by simp [wStmt])
  rw [wrapI (i := left - (x.fTable.size : Nat)) (by omega) (by omega)]
  refine ⟨fun hn => ?_, fun hk0 => ?_⟩
  · have e : szL (wStmt x) left = -1 := by rw [wStmt, szL, if_pos (by omega)]
    rw [e]
    try omega
  have hq0 : ¬ (left - (x.fTable.size : Nat)) < 0 := by omega
  have hz0 : 0 ≤ (left - (x.fTable.size : Nat)) := by omega
  refine .of (szValS_ok x.fKey (left - (x.fTable.size : Nat)) (by omega) (by omega) (fun n hn => hs n (by simp [wStmt, hn]))) ?_
  simp
  have hb1 := szL_le' (l := wValS x.fKey) (left := (left - (x.fTable.size : Nat))) (by omega)
  have hc1 := szL_neg (wValS x.fKey) (left - (x.fTable.size : Nat)) (by omega)
  refine ⟨fun hn => ?_, fun hk1 => ?_⟩
  · have e : szL (wStmt x) left = -1 := by rw [wStmt, szL, if_neg hq0, szL_app _ _ _ hz0, if_pos (by omega)]
    rw [e]
    try omega
  have hq1 : ¬ (szL (wValS x.fKey) (left - (x.fTable.size : Nat))) < 0 := by omega
  have hz1 : 0 ≤ (szL (wValS x.fKey) (left - (x.fTable.size : Nat))) := by omega
  refine .of (szRow_ok x.fRow (szL (wValS x.fKey) (left - (x.fTable.size : Nat))) (by omega) (by omega) (fun n hn => hs n (by simp [wStmt, hn]))) ?_
  simp
  have hb2 := szL_le' (l := wRow x.fRow) (left := (szL (wValS x.fKey) (left - (x.fTable.size : Nat)))) (by omega)
  have hc2 := szL_neg (wRow x.fRow) (szL (wValS x.fKey) (left - (x.fTable.size : Nat))) (by omega)
  refine ⟨fun hn => ?_, fun hk2 => ?_⟩
  · have e : szL (wStmt x) left = -1 := by rw [wStmt, szL, if_neg hq0, szL_app _ _ _ hz0, if_neg hq1, szL_app _ _ _ hz1, if_pos (by omega)]
    rw [e]
    try omega
  have hq2 : ¬ (szL (wRow x.fRow) (szL (wValS x.fKey) (left - (x.fTable.size : Nat)))) < 0 := by omega
  have hz2 : 0 ≤ (szL (wRow x.fRow) (szL (wValS x.fKey) (left - (x.fTable.size : Nat)))) := by omega
  refine .of (szDdl_ok x.fDdl (szL (wRow x.fRow) (szL (wValS x.fKey) (left - (x.fTable.size : Nat)))) (by omega) (by omega) (fun n hn => hs n (by simp [wStmt, hn]))) ?_
  simp
  have hb3 := szL_le' (l := wDdl x.fDdl) (left := (szL (wRow x.fRow) (szL (wValS x.fKey) (left - (x.fTable.size : Nat))))) (by omega)
  have hc3 := szL_neg (wDdl x.fDdl) (szL (wRow x.fRow) (szL (wValS x.fKey) (left - (x.fTable.size : Nat)))) (by omega)
  by_cases hn : (szL (wDdl x.fDdl) (szL (wRow x.fRow) (szL (wValS x.fKey) (left - (x.fTable.size : Nat))))) < 0
  · have e : szL (wStmt x) left = -1 := by rw [wStmt, szL, if_neg hq0, szL_app _ _ _ hz0, if_neg hq1, szL_app _ _ _ hz1, if_neg hq2, szL_app _ _ _ hz2, if_pos hn]
    rw [e]
    try omega
  · have e : szL (wStmt x) left = (szL (wDdl x.fDdl) (szL (wRow x.fRow) (szL (wValS x.fKey) (left - (x.fTable.size : Nat))))) := by rw [wStmt, szL, if_neg hq0, szL_app _ _ _ hz0, if_neg hq1, szL_app _ _ _ hz1, if_neg hq2, szL_app _ _ _ hz2, if_neg hn]; rfl
    rw [e]
    try omega
set_option maxHeartbeats 1000000 in
set_option maxRecDepth 8000 in
theorem toStmt_ok (x : GStmt) (hs : ∀ n ∈ wStmt x, n ≤ 1048576) : VC Try.prog 57 [vStmt x] [(true, mStmt x)] := by
  refine vc_of_ew good hm [0,1,2,3] Try.func57 rfl (by kernel_rfl) (by kernel_rfl) rfl ?_
  simp [Try.f57, vStmt, mStmt]
  refine .of (toValS_ok x.fKey (fun n hn => hs n (by simp [wStmt, hn]))) ?_
  simp [mValS]
  refine .of (toRow_ok x.fRow (fun n hn => hs n (by simp [wStmt, hn]))) ?_
  simp [mRow]
  refine .of (toDdl_ok x.fDdl (fun n hn => hs n (by simp [wStmt, hn]))) ?_
  simp [mDdl]
set_option maxHeartbeats 1000000 in
set_option maxRecDepth 8000 in
theorem eqStmt_ok (x : GStmt) (hs : ∀ n ∈ wStmt x, n ≤ 1048576) : VC Try.prog 61 [vStmt x, vStmt x] [(false, [(.s, .sc (.bool true))])] := by
  refine vc_of_ew good hm [0,1,2,3,4,9,14,20,26,32] Try.func61 rfl (by kernel_rfl) (by kernel_rfl) rfl ?_
  simp [Try.f61, vStmt]
  refine .of (eqValS_ok x.fKey (fun n hn => hs n (by simp [wStmt, hn]))) ?_
  simp
  refine .of (eqRow_ok x.fRow (fun n hn => hs n (by simp [wStmt, hn]))) ?_
  simp
  refine .of (eqDdl_ok x.fDdl (fun n hn => hs n (by simp [wStmt, hn]))) ?_
  simp

/-! ### Part -/
structure GPart where
  fStmt : GStmt
  fCols : List ByteArray
  fKeys : List ByteArray
def ePart (x : GPart) : List Lf := [.sc (.int .i64 x.fStmt.fKind), .sc (.string x.fStmt.fTable), .ls [.sc (.int .i64 0), .sc (.int .i64 0), .sc (.string ⟨#[]⟩)] (x.fStmt.fKey.map eVal), .ls [.sc (.int .i64 0), .sc (.int .i64 0), .sc (.string ⟨#[]⟩)] (x.fStmt.fRow.fVals.map eVal), .sc (.int .i64 x.fStmt.fDdl.fKind), .sc (.string x.fStmt.fDdl.fTable), .ls [.sc (.string ⟨#[]⟩), .sc (.int .i64 0), .sc (.bool false), .sc (.bool false), .sc (.int .i64 0), .sc (.int .i64 0), .sc (.string ⟨#[]⟩)] (x.fStmt.fDdl.fCols.map eCol), .ls [.sc (.string ⟨#[]⟩)] (x.fStmt.fDdl.fKeys.map eStr), .sc (.string x.fStmt.fDdl.fName), .sc (.string x.fStmt.fDdl.fTo), .ls [.sc (.string ⟨#[]⟩)] (x.fCols.map eStr), .ls [.sc (.string ⟨#[]⟩)] (x.fKeys.map eStr)]
def cPart (x : GPart) : List LV := [.s (.sc (.int .i64 x.fStmt.fKind)), .s (.sc (.string x.fStmt.fTable)), .s (.ls [.sc (.int .i64 0), .sc (.int .i64 0), .sc (.string ⟨#[]⟩)] (x.fStmt.fKey.map eVal)), .s (.ls [.sc (.int .i64 0), .sc (.int .i64 0), .sc (.string ⟨#[]⟩)] (x.fStmt.fRow.fVals.map eVal)), .s (.sc (.int .i64 x.fStmt.fDdl.fKind)), .s (.sc (.string x.fStmt.fDdl.fTable)), .s (.ls [.sc (.string ⟨#[]⟩), .sc (.int .i64 0), .sc (.bool false), .sc (.bool false), .sc (.int .i64 0), .sc (.int .i64 0), .sc (.string ⟨#[]⟩)] (x.fStmt.fDdl.fCols.map eCol)), .s (.ls [.sc (.string ⟨#[]⟩)] (x.fStmt.fDdl.fKeys.map eStr)), .s (.sc (.string x.fStmt.fDdl.fName)), .s (.sc (.string x.fStmt.fDdl.fTo)), .s (.ls [.sc (.string ⟨#[]⟩)] (x.fCols.map eStr)), .s (.ls [.sc (.string ⟨#[]⟩)] (x.fKeys.map eStr))]
def vPart (x : GPart) : SV := .v true [.s (.sc (.int .i64 x.fStmt.fKind)), .s (.sc (.string x.fStmt.fTable)), .s (.ls [.sc (.int .i64 0), .sc (.int .i64 0), .sc (.string ⟨#[]⟩)] (x.fStmt.fKey.map eVal)), .s (.ls [.sc (.int .i64 0), .sc (.int .i64 0), .sc (.string ⟨#[]⟩)] (x.fStmt.fRow.fVals.map eVal)), .s (.sc (.int .i64 x.fStmt.fDdl.fKind)), .s (.sc (.string x.fStmt.fDdl.fTable)), .s (.ls [.sc (.string ⟨#[]⟩), .sc (.int .i64 0), .sc (.bool false), .sc (.bool false), .sc (.int .i64 0), .sc (.int .i64 0), .sc (.string ⟨#[]⟩)] (x.fStmt.fDdl.fCols.map eCol)), .s (.ls [.sc (.string ⟨#[]⟩)] (x.fStmt.fDdl.fKeys.map eStr)), .s (.sc (.string x.fStmt.fDdl.fName)), .s (.sc (.string x.fStmt.fDdl.fTo)), .s (.ls [.sc (.string ⟨#[]⟩)] (x.fCols.map eStr)), .s (.ls [.sc (.string ⟨#[]⟩)] (x.fKeys.map eStr))]
def dPart : GPart := ⟨⟨0, ⟨#[]⟩, [], ⟨[]⟩, ⟨0, ⟨#[]⟩, [], [], ⟨#[]⟩, ⟨#[]⟩⟩⟩, [], []⟩
@[simp] theorem row_Part (l : List GPart) (i : Nat) : (Option.map ePart l[i]?).getD [.sc (.int .i64 0), .sc (.string ⟨#[]⟩), .ls [.sc (.int .i64 0), .sc (.int .i64 0), .sc (.string ⟨#[]⟩)] [], .ls [.sc (.int .i64 0), .sc (.int .i64 0), .sc (.string ⟨#[]⟩)] [], .sc (.int .i64 0), .sc (.string ⟨#[]⟩), .ls [.sc (.string ⟨#[]⟩), .sc (.int .i64 0), .sc (.bool false), .sc (.bool false), .sc (.int .i64 0), .sc (.int .i64 0), .sc (.string ⟨#[]⟩)] [], .ls [.sc (.string ⟨#[]⟩)] [], .sc (.string ⟨#[]⟩), .sc (.string ⟨#[]⟩), .ls [.sc (.string ⟨#[]⟩)] [], .ls [.sc (.string ⟨#[]⟩)] []] = ePart (l[i]?.getD dPart) := by cases l[i]? <;> rfl
def wPart (x : GPart) : List Nat := wStmt x.fStmt ++ (wStrS x.fCols ++ (wStrS x.fKeys ++ ([])))
def okPart (x : GPart) : Prop := okStmt x.fStmt ∧ okStrS x.fCols ∧ okStrS x.fKeys ∧ True
theorem okw_Part (x : GPart) (h : okPart x) : ∀ n ∈ wPart x, okM n := by
  obtain ⟨h0, h1, h2, _⟩ := h
  intro n hn
  simp only [wPart, List.mem_cons, List.mem_append, List.not_mem_nil, or_false, false_or] at hn
  rcases hn with hn | hn | hn
  · exact okw_Stmt _ h0 n hn
  · exact okw_StrS _ h1 n hn
  · exact okw_StrS _ h2 n hn
theorem fit_Part (ls : List Lf) (h : Fit ti ck 151 ls) : ∃ x : GPart, ls = ePart x ∧ okPart x := by
  obtain ⟨c0, r0, rfl, h0, g0⟩ := All2.cons_inv h
  obtain ⟨a0, rfl, b0⟩ := h0.int_inv
  obtain ⟨c1, r1, rfl, h1, g1⟩ := All2.cons_inv g0
  obtain ⟨a1, rfl, b1⟩ := h1.str_inv
  obtain ⟨c2, r2, rfl, h2, g2⟩ := All2.cons_inv g1
  obtain ⟨a2, rfl, b2, b2'⟩ := h2.list eVal okVal fit_Val
  obtain ⟨c3, r3, rfl, h3, g3⟩ := All2.cons_inv g2
  obtain ⟨a3, rfl, b3, b3'⟩ := h3.list eVal okVal fit_Val
  obtain ⟨c4, r4, rfl, h4, g4⟩ := All2.cons_inv g3
  obtain ⟨a4, rfl, b4⟩ := h4.int_inv
  obtain ⟨c5, r5, rfl, h5, g5⟩ := All2.cons_inv g4
  obtain ⟨a5, rfl, b5⟩ := h5.str_inv
  obtain ⟨c6, r6, rfl, h6, g6⟩ := All2.cons_inv g5
  obtain ⟨a6, rfl, b6, b6'⟩ := h6.list eCol okCol fit_Col
  obtain ⟨c7, r7, rfl, h7, g7⟩ := All2.cons_inv g6
  obtain ⟨a7, rfl, b7, b7'⟩ := h7.list eStr okStr fit_Str
  obtain ⟨c8, r8, rfl, h8, g8⟩ := All2.cons_inv g7
  obtain ⟨a8, rfl, b8⟩ := h8.str_inv
  obtain ⟨c9, r9, rfl, h9, g9⟩ := All2.cons_inv g8
  obtain ⟨a9, rfl, b9⟩ := h9.str_inv
  obtain ⟨c10, r10, rfl, h10, g10⟩ := All2.cons_inv g9
  obtain ⟨a10, rfl, b10, b10'⟩ := h10.list eStr okStr fit_Str
  obtain ⟨c11, r11, rfl, h11, g11⟩ := All2.cons_inv g10
  obtain ⟨a11, rfl, b11, b11'⟩ := h11.list eStr okStr fit_Str
  obtain rfl := All2.nil_inv g11
  exact ⟨⟨⟨a0, a1, a2, ⟨a3⟩, ⟨a4, a5, a6, a7, a8, a9⟩⟩, a10, a11⟩, rfl, ⟨⟨okI_wf b0, b1, ⟨b2, b2'⟩, ⟨⟨b3, b3'⟩, trivial⟩, ⟨okI_wf b4, b5, ⟨b6, b6'⟩, ⟨b7, b7'⟩, b8, b9, trivial⟩, trivial⟩, ⟨b10, b10'⟩, ⟨b11, b11'⟩, trivial⟩⟩
def mPart (x : GPart) : ML := [(.s, .sc (.int .i64 x.fStmt.fKind)), (.s, .sc (.string x.fStmt.fTable)), (.o 100 (fun _ => [.s, .s, .s]), .ls [.sc (.int .i64 0), .sc (.int .i64 0), .sc (.string ⟨#[]⟩)] (x.fStmt.fKey.map eVal)), (.o 100 (fun _ => [.s, .s, .s]), .ls [.sc (.int .i64 0), .sc (.int .i64 0), .sc (.string ⟨#[]⟩)] (x.fStmt.fRow.fVals.map eVal)), (.s, .sc (.int .i64 x.fStmt.fDdl.fKind)), (.s, .sc (.string x.fStmt.fDdl.fTable)), (.o 102 (fun _ => [.s, .s, .s, .s, .s, .s, .s]), .ls [.sc (.string ⟨#[]⟩), .sc (.int .i64 0), .sc (.bool false), .sc (.bool false), .sc (.int .i64 0), .sc (.int .i64 0), .sc (.string ⟨#[]⟩)] (x.fStmt.fDdl.fCols.map eCol)), (.o 9 (fun _ => [.s]), .ls [.sc (.string ⟨#[]⟩)] (x.fStmt.fDdl.fKeys.map eStr)), (.s, .sc (.string x.fStmt.fDdl.fName)), (.s, .sc (.string x.fStmt.fDdl.fTo)), (.o 9 (fun _ => [.s]), .ls [.sc (.string ⟨#[]⟩)] (x.fCols.map eStr)), (.o 9 (fun _ => [.s]), .ls [.sc (.string ⟨#[]⟩)] (x.fKeys.map eStr))]
set_option maxHeartbeats 1000000 in
set_option maxRecDepth 8000 in
theorem szPart_ok (x : GPart) (left : Int) (h0 : 0 ≤ left) (h1 : left ≤ 1048576) (hs : ∀ n ∈ wPart x, okM n) : VC Try.prog 110 [vPart x, int .i64 left] [(false, [(.s, .sc (.int .i64 (szL (wPart x) left)))])] := by
  refine vc_of_ew good hm [0,1,2,4,10,16,22] Try.func110 rfl (by kernel_rfl) (by kernel_rfl) rfl ?_
  simp [Try.f110, vPart]
  refine .of (szStmt_ok x.fStmt left (by omega) (by omega) (fun n hn => hs n (by simp [wPart, hn]))) ?_
  simp
  have hb0 := szL_le' (l := wStmt x.fStmt) (left := left) (by omega)
  have hc0 := szL_neg (wStmt x.fStmt) left (by omega)
  refine ⟨fun hn => ?_, fun hk0 => ?_⟩
  · have e : szL (wPart x) left = -1 := by rw [wPart, szL_app _ _ _ h0, if_pos (by omega)]
    rw [e]
    try omega
  have hq0 : ¬ (szL (wStmt x.fStmt) left) < 0 := by omega
  have hz0 : 0 ≤ (szL (wStmt x.fStmt) left) := by omega
  refine .of (szStrS_ok x.fCols (szL (wStmt x.fStmt) left) (by omega) (by omega) (fun n hn => hs n (by simp [wPart, hn]))) ?_
  simp
  have hb1 := szL_le' (l := wStrS x.fCols) (left := (szL (wStmt x.fStmt) left)) (by omega)
  have hc1 := szL_neg (wStrS x.fCols) (szL (wStmt x.fStmt) left) (by omega)
  refine ⟨fun hn => ?_, fun hk1 => ?_⟩
  · have e : szL (wPart x) left = -1 := by rw [wPart, szL_app _ _ _ h0, if_neg hq0, szL_app _ _ _ hz0, if_pos (by omega)]
    rw [e]
    try omega
  have hq1 : ¬ (szL (wStrS x.fCols) (szL (wStmt x.fStmt) left)) < 0 := by omega
  have hz1 : 0 ≤ (szL (wStrS x.fCols) (szL (wStmt x.fStmt) left)) := by omega
  refine .of (szStrS_ok x.fKeys (szL (wStrS x.fCols) (szL (wStmt x.fStmt) left)) (by omega) (by omega) (fun n hn => hs n (by simp [wPart, hn]))) ?_
  simp
  have hb2 := szL_le' (l := wStrS x.fKeys) (left := (szL (wStrS x.fCols) (szL (wStmt x.fStmt) left))) (by omega)
  have hc2 := szL_neg (wStrS x.fKeys) (szL (wStrS x.fCols) (szL (wStmt x.fStmt) left)) (by omega)
  by_cases hn : (szL (wStrS x.fKeys) (szL (wStrS x.fCols) (szL (wStmt x.fStmt) left))) < 0
  · have e : szL (wPart x) left = -1 := by rw [wPart, szL_app _ _ _ h0, if_neg hq0, szL_app _ _ _ hz0, if_neg hq1, szL_app _ _ _ hz1, if_pos hn]
    rw [e]
    try omega
  · have e : szL (wPart x) left = (szL (wStrS x.fKeys) (szL (wStrS x.fCols) (szL (wStmt x.fStmt) left))) := by rw [wPart, szL_app _ _ _ h0, if_neg hq0, szL_app _ _ _ hz0, if_neg hq1, szL_app _ _ _ hz1, if_neg hn]; rfl
    rw [e]
    try omega
set_option maxHeartbeats 1000000 in
set_option maxRecDepth 8000 in
theorem toPart_ok (x : GPart) (hs : ∀ n ∈ wPart x, n ≤ 1048576) : VC Try.prog 111 [vPart x] [(true, mPart x)] := by
  refine vc_of_ew good hm [0,1,2,3] Try.func111 rfl (by kernel_rfl) (by kernel_rfl) rfl ?_
  simp [Try.f111, vPart, mPart]
  refine .of (toStmt_ok x.fStmt (fun n hn => hs n (by simp [wPart, hn]))) ?_
  simp [mStmt]
  refine .of (toStrS_ok x.fCols (fun n hn => hs n (by simp [wPart, hn]))) ?_
  simp [mStrS]
  refine .of (toStrS_ok x.fKeys (fun n hn => hs n (by simp [wPart, hn]))) ?_
  simp [mStrS]
set_option maxHeartbeats 1000000 in
set_option maxRecDepth 8000 in
theorem eqPart_ok (x : GPart) (hs : ∀ n ∈ wPart x, n ≤ 1048576) : VC Try.prog 113 [vPart x, vPart x] [(false, [(.s, .sc (.bool true))])] := by
  refine vc_of_ew good hm [0,1,2,3,4,10,16,22] Try.func113 rfl (by kernel_rfl) (by kernel_rfl) rfl ?_
  simp [Try.f113, vPart]
  refine .of (eqStmt_ok x.fStmt (fun n hn => hs n (by simp [wPart, hn]))) ?_
  simp
  refine .of (eqStrS_ok x.fCols (fun n hn => hs n (by simp [wPart, hn]))) ?_
  simp
  refine .of (eqStrS_ok x.fKeys (fun n hn => hs n (by simp [wPart, hn]))) ?_
  simp

/-! ### []Part -/
abbrev GPartS := List GPart
def ePartS (l : List GPart) : List Lf := [.ls [.sc (.int .i64 0), .sc (.string ⟨#[]⟩), .ls [.sc (.int .i64 0), .sc (.int .i64 0), .sc (.string ⟨#[]⟩)] [], .ls [.sc (.int .i64 0), .sc (.int .i64 0), .sc (.string ⟨#[]⟩)] [], .sc (.int .i64 0), .sc (.string ⟨#[]⟩), .ls [.sc (.string ⟨#[]⟩), .sc (.int .i64 0), .sc (.bool false), .sc (.bool false), .sc (.int .i64 0), .sc (.int .i64 0), .sc (.string ⟨#[]⟩)] [], .ls [.sc (.string ⟨#[]⟩)] [], .sc (.string ⟨#[]⟩), .sc (.string ⟨#[]⟩), .ls [.sc (.string ⟨#[]⟩)] [], .ls [.sc (.string ⟨#[]⟩)] []] (l.map ePart)]
def vPartS (l : List GPart) : SV := list [.sc (.int .i64 0), .sc (.string ⟨#[]⟩), .ls [.sc (.int .i64 0), .sc (.int .i64 0), .sc (.string ⟨#[]⟩)] [], .ls [.sc (.int .i64 0), .sc (.int .i64 0), .sc (.string ⟨#[]⟩)] [], .sc (.int .i64 0), .sc (.string ⟨#[]⟩), .ls [.sc (.string ⟨#[]⟩), .sc (.int .i64 0), .sc (.bool false), .sc (.bool false), .sc (.int .i64 0), .sc (.int .i64 0), .sc (.string ⟨#[]⟩)] [], .ls [.sc (.string ⟨#[]⟩)] [], .sc (.string ⟨#[]⟩), .sc (.string ⟨#[]⟩), .ls [.sc (.string ⟨#[]⟩)] [], .ls [.sc (.string ⟨#[]⟩)] []] (l.map ePart)
@[simp] theorem row_PartS (l : List (List GPart)) (i : Nat) : (Option.map ePartS l[i]?).getD [.ls [.sc (.int .i64 0), .sc (.string ⟨#[]⟩), .ls [.sc (.int .i64 0), .sc (.int .i64 0), .sc (.string ⟨#[]⟩)] [], .ls [.sc (.int .i64 0), .sc (.int .i64 0), .sc (.string ⟨#[]⟩)] [], .sc (.int .i64 0), .sc (.string ⟨#[]⟩), .ls [.sc (.string ⟨#[]⟩), .sc (.int .i64 0), .sc (.bool false), .sc (.bool false), .sc (.int .i64 0), .sc (.int .i64 0), .sc (.string ⟨#[]⟩)] [], .ls [.sc (.string ⟨#[]⟩)] [], .sc (.string ⟨#[]⟩), .sc (.string ⟨#[]⟩), .ls [.sc (.string ⟨#[]⟩)] [], .ls [.sc (.string ⟨#[]⟩)] []] []] = ePartS (l[i]?.getD []) := by cases l[i]? <;> rfl
def wPartS (l : List GPart) : List Nat := l.length :: l.flatMap wPart
def okPartS (l : List GPart) : Prop := okM l.length ∧ ∀ a ∈ l, okPart a
theorem okw_PartS (l : List GPart) (h : okPartS l) : ∀ n ∈ wPartS l, okM n := by
  intro n hn
  rcases List.mem_cons.1 hn with rfl | hn
  · exact h.1
  · obtain ⟨a, ha, hn⟩ := List.mem_flatMap.1 hn
    exact okw_Part a (h.2 a ha) n hn
theorem fit_PartS (ls : List Lf) (h : Fit ti ck 60 ls) : ∃ x : List GPart, ls = ePartS x ∧ okPartS x := by
  obtain ⟨x, r, rfl, h1, h2⟩ := All2.cons_inv h
  obtain rfl := All2.nil_inv h2
  obtain ⟨l, rfl, hl, hs⟩ := h1.list ePart okPart fit_Part
  exact ⟨l, rfl, hl, hs⟩
def mPartS (x : List GPart) : ML := [(.o 116 (fun _ => [.s, .s, .o 100 (fun _ => [.s, .s, .s]), .o 100 (fun _ => [.s, .s, .s]), .s, .s, .o 102 (fun _ => [.s, .s, .s, .s, .s, .s, .s]), .o 9 (fun _ => [.s]), .s, .s, .o 9 (fun _ => [.s]), .o 9 (fun _ => [.s])]), .ls [.sc (.int .i64 0), .sc (.string ⟨#[]⟩), .ls [.sc (.int .i64 0), .sc (.int .i64 0), .sc (.string ⟨#[]⟩)] [], .ls [.sc (.int .i64 0), .sc (.int .i64 0), .sc (.string ⟨#[]⟩)] [], .sc (.int .i64 0), .sc (.string ⟨#[]⟩), .ls [.sc (.string ⟨#[]⟩), .sc (.int .i64 0), .sc (.bool false), .sc (.bool false), .sc (.int .i64 0), .sc (.int .i64 0), .sc (.string ⟨#[]⟩)] [], .ls [.sc (.string ⟨#[]⟩)] [], .sc (.string ⟨#[]⟩), .sc (.string ⟨#[]⟩), .ls [.sc (.string ⟨#[]⟩)] [], .ls [.sc (.string ⟨#[]⟩)] []] (x.map ePart))]
@[simp] theorem ow_PartS (l : List GPart) : Ow (.o 116 (fun _ => [.s, .s, .o 100 (fun _ => [.s, .s, .s]), .o 100 (fun _ => [.s, .s, .s]), .s, .s, .o 102 (fun _ => [.s, .s, .s, .s, .s, .s, .s]), .o 9 (fun _ => [.s]), .s, .s, .o 9 (fun _ => [.s]), .o 9 (fun _ => [.s])])) (.ls [.sc (.int .i64 0), .sc (.string ⟨#[]⟩), .ls [.sc (.int .i64 0), .sc (.int .i64 0), .sc (.string ⟨#[]⟩)] [], .ls [.sc (.int .i64 0), .sc (.int .i64 0), .sc (.string ⟨#[]⟩)] [], .sc (.int .i64 0), .sc (.string ⟨#[]⟩), .ls [.sc (.string ⟨#[]⟩), .sc (.int .i64 0), .sc (.bool false), .sc (.bool false), .sc (.int .i64 0), .sc (.int .i64 0), .sc (.string ⟨#[]⟩)] [], .ls [.sc (.string ⟨#[]⟩)] [], .sc (.string ⟨#[]⟩), .sc (.string ⟨#[]⟩), .ls [.sc (.string ⟨#[]⟩)] [], .ls [.sc (.string ⟨#[]⟩)] []] (l.map ePart)) = True := eq_true (Ow_rows (fun x j hj => match j, hj with | 0, _ => .sc | 1, _ => .sc | 2, _ => of_eq_true (ow_ValS x.fStmt.fKey) | 3, _ => of_eq_true (ow_ValS x.fStmt.fRow.fVals) | 4, _ => .sc | 5, _ => .sc | 6, _ => of_eq_true (ow_ColS x.fStmt.fDdl.fCols) | 7, _ => of_eq_true (ow_StrS x.fStmt.fDdl.fKeys) | 8, _ => .sc | 9, _ => .sc | 10, _ => of_eq_true (ow_StrS x.fCols) | 11, _ => of_eq_true (ow_StrS x.fKeys) | n + 12, hj => absurd hj (by simp)) l)
@[simp] theorem full_PartS (l : List GPart) : Full (.o 116 (fun _ => [.s, .s, .o 100 (fun _ => [.s, .s, .s]), .o 100 (fun _ => [.s, .s, .s]), .s, .s, .o 102 (fun _ => [.s, .s, .s, .s, .s, .s, .s]), .o 9 (fun _ => [.s]), .s, .s, .o 9 (fun _ => [.s]), .o 9 (fun _ => [.s])])) (.ls [.sc (.int .i64 0), .sc (.string ⟨#[]⟩), .ls [.sc (.int .i64 0), .sc (.int .i64 0), .sc (.string ⟨#[]⟩)] [], .ls [.sc (.int .i64 0), .sc (.int .i64 0), .sc (.string ⟨#[]⟩)] [], .sc (.int .i64 0), .sc (.string ⟨#[]⟩), .ls [.sc (.string ⟨#[]⟩), .sc (.int .i64 0), .sc (.bool false), .sc (.bool false), .sc (.int .i64 0), .sc (.int .i64 0), .sc (.string ⟨#[]⟩)] [], .ls [.sc (.string ⟨#[]⟩)] [], .sc (.string ⟨#[]⟩), .sc (.string ⟨#[]⟩), .ls [.sc (.string ⟨#[]⟩)] [], .ls [.sc (.string ⟨#[]⟩)] []] (l.map ePart)) = True := eq_true (Full_rows (fun x j hj => match j, hj with | 0, _ => .s | 1, _ => .s | 2, _ => of_eq_true (full_ValS x.fStmt.fKey) | 3, _ => of_eq_true (full_ValS x.fStmt.fRow.fVals) | 4, _ => .s | 5, _ => .s | 6, _ => of_eq_true (full_ColS x.fStmt.fDdl.fCols) | 7, _ => of_eq_true (full_StrS x.fStmt.fDdl.fKeys) | 8, _ => .s | 9, _ => .s | 10, _ => of_eq_true (full_StrS x.fCols) | 11, _ => of_eq_true (full_StrS x.fKeys) | n + 12, hj => absurd hj (by simp)) l)
set_option maxHeartbeats 1000000 in
set_option maxRecDepth 8000 in
theorem szPartS_ok (x : List GPart) (left : Int) (h0 : 0 ≤ left) (h1 : left ≤ 1048576) (hs : ∀ n ∈ wPartS x, okM n) : VC Try.prog 62 [vPartS x, int .i64 left] [(false, [(.s, .sc (.int .i64 (szL (wPartS x) left)))])] := by
  refine vc_of_ew good hm [0,1,4,11,5,15,25] Try.func62 rfl (by kernel_rfl) (by kernel_rfl) rfl ?_
  have hl : x.length ≤ 9223372036854775807 := hs _ (by simp [wPartS])
  simp [Try.f62, vPartS]
  rw [wrapI (i := left - x.length) (by omega) (by omega)]
  refine ⟨fun h => by simp [wPartS, szL, h], fun hk => ?_⟩
  refine ew_loop (fun E => ∃ i : Nat, i ≤ x.length ∧ 0 ≤ szL ((x.take i).flatMap wPart) (left - x.length) ∧ E = { nt := 27, sl := [(0, vPartS x), (1, int .i64 (szL ((x.take i).flatMap wPart) (left - x.length))), (5, int .i64 i)], bx := [], rt := [] }) (fun E => x.length - (E.num 5).toNat) _ (Gh.keep _ [0,1,5]) ⟨0, by omega, by simp [szL]; omega, by simp [szL, vPartS]⟩ ?_
  rintro E1 ⟨i, hi, hr0, rfl⟩
  have hr1 := szL_le' (l := (x.take i).flatMap wPart) (left := left - x.length) (by omega)
  simp [vPartS, ePart]
  refine ⟨fun h => ?_, fun h => ?_⟩
  · obtain ⟨q1, q2⟩ := szF_step wPart (dPart) h (by omega : 0 ≤ left - x.length) hr0
    have hm : ∀ n ∈ wPart (x[i]?.getD (dPart)), okM n := fun n hn => hs n (List.mem_cons_of_mem _ (mem_flat h hn))
    have hn1 := szL_neg (wPart (x[i]?.getD (dPart))) _ hr0
    refine ⟨h, .of (szPart_ok _ _ hr0 (by omega) hm) ?_⟩
    simp
    refine ⟨fun h2 => ?_, fun h2 => .of _ (Gh.keep _ [0,1,5]) ⟨i + 1, by omega, ?_, ?_⟩ ?_⟩
    · rw [wPartS, szL, if_neg (by omega), q1 h2]
    · rw [q2]; exact h2
    · rw [q2]; simp [wrapS (show i < 9223372036854775807 by omega)]
    · simp [wrapS (show i < 9223372036854775807 by omega)]; omega
  · rw [wPartS, szL, if_neg (by omega), List.take_of_length_le (by simpa using h)]
set_option maxHeartbeats 1000000 in
set_option maxRecDepth 8000 in
theorem toPartS_ok (x : List GPart) (hs : ∀ n ∈ wPartS x, n ≤ 1048576) : VC Try.prog 64 [vPartS x] [(false, mPartS x)] := by
  refine vc_of_ew good hm [0,2,3,4,11] Try.func64 rfl (by kernel_rfl) (by kernel_rfl) rfl ?_
  have hl : x.length ≤ 1048576 := hs _ (by simp [wPartS])
  simp [Try.f64, vPartS, mPartS]
  refine ⟨by omega, ?_⟩
  refine ew_loop (fun E => ∃ i : Nat, i ≤ x.length ∧ E = { nt := 23, sl := [(0, vPartS x), (3, .v false [.r [7]]), (4, int .i64 i)], bx := [], rt := [(7, .o 116 (fun _ => [.s, .s, .o 100 (fun _ => [.s, .s, .s]), .o 100 (fun _ => [.s, .s, .s]), .s, .s, .o 102 (fun _ => [.s, .s, .s, .s, .s, .s, .s]), .o 9 (fun _ => [.s]), .s, .s, .o 9 (fun _ => [.s]), .o 9 (fun _ => [.s])]), .ls [.sc (.int .i64 0), .sc (.string ⟨#[]⟩), .ls [.sc (.int .i64 0), .sc (.int .i64 0), .sc (.string ⟨#[]⟩)] [], .ls [.sc (.int .i64 0), .sc (.int .i64 0), .sc (.string ⟨#[]⟩)] [], .sc (.int .i64 0), .sc (.string ⟨#[]⟩), .ls [.sc (.string ⟨#[]⟩), .sc (.int .i64 0), .sc (.bool false), .sc (.bool false), .sc (.int .i64 0), .sc (.int .i64 0), .sc (.string ⟨#[]⟩)] [], .ls [.sc (.string ⟨#[]⟩)] [], .sc (.string ⟨#[]⟩), .sc (.string ⟨#[]⟩), .ls [.sc (.string ⟨#[]⟩)] [], .ls [.sc (.string ⟨#[]⟩)] []] (fillR [.sc (.int .i64 0), .sc (.string ⟨#[]⟩), .ls [.sc (.int .i64 0), .sc (.int .i64 0), .sc (.string ⟨#[]⟩)] [], .ls [.sc (.int .i64 0), .sc (.int .i64 0), .sc (.string ⟨#[]⟩)] [], .sc (.int .i64 0), .sc (.string ⟨#[]⟩), .ls [.sc (.string ⟨#[]⟩), .sc (.int .i64 0), .sc (.bool false), .sc (.bool false), .sc (.int .i64 0), .sc (.int .i64 0), .sc (.string ⟨#[]⟩)] [], .ls [.sc (.string ⟨#[]⟩)] [], .sc (.string ⟨#[]⟩), .sc (.string ⟨#[]⟩), .ls [.sc (.string ⟨#[]⟩)] [], .ls [.sc (.string ⟨#[]⟩)] []] (x.map ePart) i))] }) (fun E => x.length - (E.num 4).toNat) _ (Gh.keep _ [0,3,4]) ⟨0, by omega, by simp [vPartS, fillR]⟩ ?_
  rintro E1 ⟨i, hi, rfl⟩
  have hfl : (fillR [.sc (.int .i64 0), .sc (.string ⟨#[]⟩), .ls [.sc (.int .i64 0), .sc (.int .i64 0), .sc (.string ⟨#[]⟩)] [], .ls [.sc (.int .i64 0), .sc (.int .i64 0), .sc (.string ⟨#[]⟩)] [], .sc (.int .i64 0), .sc (.string ⟨#[]⟩), .ls [.sc (.string ⟨#[]⟩), .sc (.int .i64 0), .sc (.bool false), .sc (.bool false), .sc (.int .i64 0), .sc (.int .i64 0), .sc (.string ⟨#[]⟩)] [], .ls [.sc (.string ⟨#[]⟩)] [], .sc (.string ⟨#[]⟩), .sc (.string ⟨#[]⟩), .ls [.sc (.string ⟨#[]⟩)] [], .ls [.sc (.string ⟨#[]⟩)] []] (x.map ePart) i).length = x.length := by rw [fillR_len _ _ (by simpa using hi)]; simp
  simp [vPartS, ePart] at hfl ⊢
  try simp [hfl]
  refine ⟨fun h => ⟨h, .of (toPart_ok (x[i]?.getD dPart) (fun n hn => hs n (List.mem_cons_of_mem _ (mem_flat (wt := wPart) h hn)))) ?_⟩, fun h => fillR_all _ _ (by simpa using h)⟩
  simp [mPart]
  try simp [hfl, h]
  refine .of _ (Gh.keep _ [0,3,4]) ⟨i + 1, by omega, ?_⟩ ?_
  · have := fillR_set [.sc (.int .i64 0), .sc (.string ⟨#[]⟩), .ls [.sc (.int .i64 0), .sc (.int .i64 0), .sc (.string ⟨#[]⟩)] [], .ls [.sc (.int .i64 0), .sc (.int .i64 0), .sc (.string ⟨#[]⟩)] [], .sc (.int .i64 0), .sc (.string ⟨#[]⟩), .ls [.sc (.string ⟨#[]⟩), .sc (.int .i64 0), .sc (.bool false), .sc (.bool false), .sc (.int .i64 0), .sc (.int .i64 0), .sc (.string ⟨#[]⟩)] [], .ls [.sc (.string ⟨#[]⟩)] [], .sc (.string ⟨#[]⟩), .sc (.string ⟨#[]⟩), .ls [.sc (.string ⟨#[]⟩)] [], .ls [.sc (.string ⟨#[]⟩)] []] (x.map ePart) (i := i) (by simpa using h)
    simp [wrapS (show i < 9223372036854775807 by omega), vPartS, ePart, h] at this ⊢
    rw [← this]
  · simp [wrapS (show i < 9223372036854775807 by omega)]; omega
set_option maxHeartbeats 1000000 in
set_option maxRecDepth 8000 in
theorem eqPartS_ok (x : List GPart) (hs : ∀ n ∈ wPartS x, n ≤ 1048576) : VC Try.prog 66 [vPartS x, vPartS x] [(false, [(.s, .sc (.bool true))])] := by
  refine vc_of_ew good hm [0,1,4,10,5,14,26] Try.func66 rfl (by kernel_rfl) (by kernel_rfl) rfl ?_
  have hl : x.length ≤ 1048576 := hs _ (by simp [wPartS])
  simp [Try.f66, vPartS]
  refine ew_loop (fun E => ∃ i : Nat, i ≤ x.length ∧ E = { nt := 27, sl := [(0, vPartS x), (1, vPartS x), (5, int .i64 i)], bx := [], rt := [] }) (fun E => x.length - (E.num 5).toNat) _ (Gh.keep _ [0,1,5]) ⟨0, by omega, by simp [vPartS]⟩ ?_
  rintro E1 ⟨i, hi, rfl⟩
  simp [vPartS, ePart]
  intro h
  refine ⟨h, .of (eqPart_ok (x[i]?.getD dPart) (fun n hn => hs n (List.mem_cons_of_mem _ (mem_flat (wt := wPart) h hn)))) ?_⟩
  simp
  refine .of _ (Gh.keep _ [0,1,5]) ⟨i + 1, by omega, ?_⟩ ?_
  · simp [wrapS (show i < 9223372036854775807 by omega), vPartS]
  · simp [wrapS (show i < 9223372036854775807 by omega)]; omega

/-! ### Batch -/
structure GBatch where
  fLsn : Int
  fPrev : Int
  fParts : List GPart
def eBatch (x : GBatch) : List Lf := [.sc (.int .i64 x.fLsn), .sc (.int .i64 x.fPrev), .ls [.sc (.int .i64 0), .sc (.string ⟨#[]⟩), .ls [.sc (.int .i64 0), .sc (.int .i64 0), .sc (.string ⟨#[]⟩)] [], .ls [.sc (.int .i64 0), .sc (.int .i64 0), .sc (.string ⟨#[]⟩)] [], .sc (.int .i64 0), .sc (.string ⟨#[]⟩), .ls [.sc (.string ⟨#[]⟩), .sc (.int .i64 0), .sc (.bool false), .sc (.bool false), .sc (.int .i64 0), .sc (.int .i64 0), .sc (.string ⟨#[]⟩)] [], .ls [.sc (.string ⟨#[]⟩)] [], .sc (.string ⟨#[]⟩), .sc (.string ⟨#[]⟩), .ls [.sc (.string ⟨#[]⟩)] [], .ls [.sc (.string ⟨#[]⟩)] []] (x.fParts.map ePart)]
def cBatch (x : GBatch) : List LV := [.s (.sc (.int .i64 x.fLsn)), .s (.sc (.int .i64 x.fPrev)), .s (.ls [.sc (.int .i64 0), .sc (.string ⟨#[]⟩), .ls [.sc (.int .i64 0), .sc (.int .i64 0), .sc (.string ⟨#[]⟩)] [], .ls [.sc (.int .i64 0), .sc (.int .i64 0), .sc (.string ⟨#[]⟩)] [], .sc (.int .i64 0), .sc (.string ⟨#[]⟩), .ls [.sc (.string ⟨#[]⟩), .sc (.int .i64 0), .sc (.bool false), .sc (.bool false), .sc (.int .i64 0), .sc (.int .i64 0), .sc (.string ⟨#[]⟩)] [], .ls [.sc (.string ⟨#[]⟩)] [], .sc (.string ⟨#[]⟩), .sc (.string ⟨#[]⟩), .ls [.sc (.string ⟨#[]⟩)] [], .ls [.sc (.string ⟨#[]⟩)] []] (x.fParts.map ePart))]
def vBatch (x : GBatch) : SV := .v true [.s (.sc (.int .i64 x.fLsn)), .s (.sc (.int .i64 x.fPrev)), .s (.ls [.sc (.int .i64 0), .sc (.string ⟨#[]⟩), .ls [.sc (.int .i64 0), .sc (.int .i64 0), .sc (.string ⟨#[]⟩)] [], .ls [.sc (.int .i64 0), .sc (.int .i64 0), .sc (.string ⟨#[]⟩)] [], .sc (.int .i64 0), .sc (.string ⟨#[]⟩), .ls [.sc (.string ⟨#[]⟩), .sc (.int .i64 0), .sc (.bool false), .sc (.bool false), .sc (.int .i64 0), .sc (.int .i64 0), .sc (.string ⟨#[]⟩)] [], .ls [.sc (.string ⟨#[]⟩)] [], .sc (.string ⟨#[]⟩), .sc (.string ⟨#[]⟩), .ls [.sc (.string ⟨#[]⟩)] [], .ls [.sc (.string ⟨#[]⟩)] []] (x.fParts.map ePart))]
def dBatch : GBatch := ⟨0, 0, []⟩
@[simp] theorem row_Batch (l : List GBatch) (i : Nat) : (Option.map eBatch l[i]?).getD [.sc (.int .i64 0), .sc (.int .i64 0), .ls [.sc (.int .i64 0), .sc (.string ⟨#[]⟩), .ls [.sc (.int .i64 0), .sc (.int .i64 0), .sc (.string ⟨#[]⟩)] [], .ls [.sc (.int .i64 0), .sc (.int .i64 0), .sc (.string ⟨#[]⟩)] [], .sc (.int .i64 0), .sc (.string ⟨#[]⟩), .ls [.sc (.string ⟨#[]⟩), .sc (.int .i64 0), .sc (.bool false), .sc (.bool false), .sc (.int .i64 0), .sc (.int .i64 0), .sc (.string ⟨#[]⟩)] [], .ls [.sc (.string ⟨#[]⟩)] [], .sc (.string ⟨#[]⟩), .sc (.string ⟨#[]⟩), .ls [.sc (.string ⟨#[]⟩)] [], .ls [.sc (.string ⟨#[]⟩)] []] []] = eBatch (l[i]?.getD dBatch) := by cases l[i]? <;> rfl
def wBatch (x : GBatch) : List Nat := wPartS x.fParts ++ ([])
def okBatch (x : GBatch) : Prop := okI x.fLsn ∧ okI x.fPrev ∧ okPartS x.fParts ∧ True
theorem okw_Batch (x : GBatch) (h : okBatch x) : ∀ n ∈ wBatch x, okM n := by
  obtain ⟨h0, h1, h2, _⟩ := h
  intro n hn
  simp only [wBatch, List.mem_cons, List.mem_append, List.not_mem_nil, or_false, false_or] at hn
  rcases hn with hn
  · exact okw_PartS _ h2 n hn
theorem fit_Batch (ls : List Lf) (h : Fit ti ck 62 ls) : ∃ x : GBatch, ls = eBatch x ∧ okBatch x := by
  obtain ⟨c0, r0, rfl, h0, g0⟩ := All2.cons_inv h
  obtain ⟨a0, rfl, b0⟩ := h0.int_inv
  obtain ⟨c1, r1, rfl, h1, g1⟩ := All2.cons_inv g0
  obtain ⟨a1, rfl, b1⟩ := h1.int_inv
  obtain ⟨c2, r2, rfl, h2, g2⟩ := All2.cons_inv g1
  obtain ⟨a2, rfl, b2, b2'⟩ := h2.list ePart okPart fit_Part
  obtain rfl := All2.nil_inv g2
  exact ⟨⟨a0, a1, a2⟩, rfl, ⟨okI_wf b0, okI_wf b1, ⟨b2, b2'⟩, trivial⟩⟩
def mBatch (x : GBatch) : ML := [(.s, .sc (.int .i64 x.fLsn)), (.s, .sc (.int .i64 x.fPrev)), (.o 116 (fun _ => [.s, .s, .o 100 (fun _ => [.s, .s, .s]), .o 100 (fun _ => [.s, .s, .s]), .s, .s, .o 102 (fun _ => [.s, .s, .s, .s, .s, .s, .s]), .o 9 (fun _ => [.s]), .s, .s, .o 9 (fun _ => [.s]), .o 9 (fun _ => [.s])]), .ls [.sc (.int .i64 0), .sc (.string ⟨#[]⟩), .ls [.sc (.int .i64 0), .sc (.int .i64 0), .sc (.string ⟨#[]⟩)] [], .ls [.sc (.int .i64 0), .sc (.int .i64 0), .sc (.string ⟨#[]⟩)] [], .sc (.int .i64 0), .sc (.string ⟨#[]⟩), .ls [.sc (.string ⟨#[]⟩), .sc (.int .i64 0), .sc (.bool false), .sc (.bool false), .sc (.int .i64 0), .sc (.int .i64 0), .sc (.string ⟨#[]⟩)] [], .ls [.sc (.string ⟨#[]⟩)] [], .sc (.string ⟨#[]⟩), .sc (.string ⟨#[]⟩), .ls [.sc (.string ⟨#[]⟩)] [], .ls [.sc (.string ⟨#[]⟩)] []] (x.fParts.map ePart))]
set_option maxHeartbeats 1000000 in
set_option maxRecDepth 8000 in
theorem szBatch_ok (x : GBatch) (left : Int) (h0 : 0 ≤ left) (h1 : left ≤ 1048576) (hs : ∀ n ∈ wBatch x, okM n) : VC Try.prog 23 [vBatch x, int .i64 left] [(false, [(.s, .sc (.int .i64 (szL (wBatch x) left)))])] := by
  refine vc_of_ew good hm [0,1,2,4,10] Try.func23 rfl (by kernel_rfl) (by kernel_rfl) rfl ?_
  simp [Try.f23, vBatch]
  refine .of (szPartS_ok x.fParts left (by omega) (by omega) (fun n hn => hs n (by simp [wBatch, hn]))) ?_
  simp
  have hb0 := szL_le' (l := wPartS x.fParts) (left := left) (by omega)
  have hc0 := szL_neg (wPartS x.fParts) left (by omega)
  by_cases hn : (szL (wPartS x.fParts) left) < 0
  · have e : szL (wBatch x) left = -1 := by rw [wBatch, szL_app _ _ _ h0, if_pos hn]
    rw [e]
    try omega
  · have e : szL (wBatch x) left = (szL (wPartS x.fParts) left) := by rw [wBatch, szL_app _ _ _ h0, if_neg hn]; rfl
    rw [e]
    try omega
set_option maxHeartbeats 1000000 in
set_option maxRecDepth 8000 in
theorem toBatch_ok (x : GBatch) (hs : ∀ n ∈ wBatch x, n ≤ 1048576) : VC Try.prog 25 [vBatch x] [(true, mBatch x)] := by
  refine vc_of_ew good hm [0,1,2,3] Try.func25 rfl (by kernel_rfl) (by kernel_rfl) rfl ?_
  simp [Try.f25, vBatch, mBatch]
  refine .of (toPartS_ok x.fParts (fun n hn => hs n (by simp [wBatch, hn]))) ?_
  simp [mPartS]
set_option maxHeartbeats 1000000 in
set_option maxRecDepth 8000 in
theorem eqBatch_ok (x : GBatch) (hs : ∀ n ∈ wBatch x, n ≤ 1048576) : VC Try.prog 27 [vBatch x, vBatch x] [(false, [(.s, .sc (.bool true))])] := by
  refine vc_of_ew good hm [0,1,2,3,4,9,14,20] Try.func27 rfl (by kernel_rfl) (by kernel_rfl) rfl ?_
  simp [Try.f27, vBatch]
  refine .of (eqPartS_ok x.fParts (fun n hn => hs n (by simp [wBatch, hn]))) ?_
  simp

/-! ### Table -/
structure GTable where
  fName : ByteArray
  fCols : List GCol
  fKeys : List ByteArray
def eTable (x : GTable) : List Lf := [.sc (.string x.fName), .ls [.sc (.string ⟨#[]⟩), .sc (.int .i64 0), .sc (.bool false), .sc (.bool false), .sc (.int .i64 0), .sc (.int .i64 0), .sc (.string ⟨#[]⟩)] (x.fCols.map eCol), .ls [.sc (.string ⟨#[]⟩)] (x.fKeys.map eStr)]
def cTable (x : GTable) : List LV := [.s (.sc (.string x.fName)), .s (.ls [.sc (.string ⟨#[]⟩), .sc (.int .i64 0), .sc (.bool false), .sc (.bool false), .sc (.int .i64 0), .sc (.int .i64 0), .sc (.string ⟨#[]⟩)] (x.fCols.map eCol)), .s (.ls [.sc (.string ⟨#[]⟩)] (x.fKeys.map eStr))]
def vTable (x : GTable) : SV := .v true [.s (.sc (.string x.fName)), .s (.ls [.sc (.string ⟨#[]⟩), .sc (.int .i64 0), .sc (.bool false), .sc (.bool false), .sc (.int .i64 0), .sc (.int .i64 0), .sc (.string ⟨#[]⟩)] (x.fCols.map eCol)), .s (.ls [.sc (.string ⟨#[]⟩)] (x.fKeys.map eStr))]
def dTable : GTable := ⟨⟨#[]⟩, [], []⟩
@[simp] theorem row_Table (l : List GTable) (i : Nat) : (Option.map eTable l[i]?).getD [.sc (.string ⟨#[]⟩), .ls [.sc (.string ⟨#[]⟩), .sc (.int .i64 0), .sc (.bool false), .sc (.bool false), .sc (.int .i64 0), .sc (.int .i64 0), .sc (.string ⟨#[]⟩)] [], .ls [.sc (.string ⟨#[]⟩)] []] = eTable (l[i]?.getD dTable) := by cases l[i]? <;> rfl
def wTable (x : GTable) : List Nat := x.fName.size :: (wColS x.fCols ++ (wStrS x.fKeys ++ ([])))
def okTable (x : GTable) : Prop := okM x.fName.size ∧ okColS x.fCols ∧ okStrS x.fKeys ∧ True
theorem okw_Table (x : GTable) (h : okTable x) : ∀ n ∈ wTable x, okM n := by
  obtain ⟨h0, h1, h2, _⟩ := h
  intro n hn
  simp only [wTable, List.mem_cons, List.mem_append, List.not_mem_nil, or_false, false_or] at hn
  rcases hn with rfl | hn | hn
  · exact h0
  · exact okw_ColS _ h1 n hn
  · exact okw_StrS _ h2 n hn
theorem fit_Table (ls : List Lf) (h : Fit ti ck 25 ls) : ∃ x : GTable, ls = eTable x ∧ okTable x := by
  obtain ⟨c0, r0, rfl, h0, g0⟩ := All2.cons_inv h
  obtain ⟨a0, rfl, b0⟩ := h0.str_inv
  obtain ⟨c1, r1, rfl, h1, g1⟩ := All2.cons_inv g0
  obtain ⟨a1, rfl, b1, b1'⟩ := h1.list eCol okCol fit_Col
  obtain ⟨c2, r2, rfl, h2, g2⟩ := All2.cons_inv g1
  obtain ⟨a2, rfl, b2, b2'⟩ := h2.list eStr okStr fit_Str
  obtain rfl := All2.nil_inv g2
  exact ⟨⟨a0, a1, a2⟩, rfl, ⟨b0, ⟨b1, b1'⟩, ⟨b2, b2'⟩, trivial⟩⟩
def mTable (x : GTable) : ML := [(.s, .sc (.string x.fName)), (.o 102 (fun _ => [.s, .s, .s, .s, .s, .s, .s]), .ls [.sc (.string ⟨#[]⟩), .sc (.int .i64 0), .sc (.bool false), .sc (.bool false), .sc (.int .i64 0), .sc (.int .i64 0), .sc (.string ⟨#[]⟩)] (x.fCols.map eCol)), (.o 9 (fun _ => [.s]), .ls [.sc (.string ⟨#[]⟩)] (x.fKeys.map eStr))]
set_option maxHeartbeats 1000000 in
set_option maxRecDepth 8000 in
theorem szTable_ok (x : GTable) (left : Int) (h0 : 0 ≤ left) (h1 : left ≤ 1048576) (hs : ∀ n ∈ wTable x, okM n) : VC Try.prog 11 [vTable x, int .i64 left] [(false, [(.s, .sc (.int .i64 (szL (wTable x) left)))])] := by
  refine vc_of_ew good hm [0,1,2,4,11,17,23] Try.func11 rfl (by kernel_rfl) (by kernel_rfl) rfl ?_
  simp [Try.f11, vTable]
  have hb0 : x.fName.size ≤ 9223372036854775807 := hs _ (by simp [wTable])
  rw [wrapI (i := left - (x.fName.size : Nat)) (by omega) (by omega)]
  refine ⟨fun hn => ?_, fun hk0 => ?_⟩
  · have e : szL (wTable x) left = -1 := by rw [wTable, szL, if_pos (by omega)]
    rw [e]
    try omega
  have hq0 : ¬ (left - (x.fName.size : Nat)) < 0 := by omega
  have hz0 : 0 ≤ (left - (x.fName.size : Nat)) := by omega
  refine .of (szColS_ok x.fCols (left - (x.fName.size : Nat)) (by omega) (by omega) (fun n hn => hs n (by simp [wTable, hn]))) ?_
  simp
  have hb1 := szL_le' (l := wColS x.fCols) (left := (left - (x.fName.size : Nat))) (by omega)
  have hc1 := szL_neg (wColS x.fCols) (left - (x.fName.size : Nat)) (by omega)
  refine ⟨fun hn => ?_, fun hk1 => ?_⟩
  · have e : szL (wTable x) left = -1 := by rw [wTable, szL, if_neg hq0, szL_app _ _ _ hz0, if_pos (by omega)]
    rw [e]
    try omega
  have hq1 : ¬ (szL (wColS x.fCols) (left - (x.fName.size : Nat))) < 0 := by omega
  have hz1 : 0 ≤ (szL (wColS x.fCols) (left - (x.fName.size : Nat))) := by omega
  refine .of (szStrS_ok x.fKeys (szL (wColS x.fCols) (left - (x.fName.size : Nat))) (by omega) (by omega) (fun n hn => hs n (by simp [wTable, hn]))) ?_
  simp
  have hb2 := szL_le' (l := wStrS x.fKeys) (left := (szL (wColS x.fCols) (left - (x.fName.size : Nat)))) (by omega)
  have hc2 := szL_neg (wStrS x.fKeys) (szL (wColS x.fCols) (left - (x.fName.size : Nat))) (by omega)
  by_cases hn : (szL (wStrS x.fKeys) (szL (wColS x.fCols) (left - (x.fName.size : Nat)))) < 0
  · have e : szL (wTable x) left = -1 := by rw [wTable, szL, if_neg hq0, szL_app _ _ _ hz0, if_neg hq1, szL_app _ _ _ hz1, if_pos hn]
    rw [e]
    try omega
  · have e : szL (wTable x) left = (szL (wStrS x.fKeys) (szL (wColS x.fCols) (left - (x.fName.size : Nat)))) := by rw [wTable, szL, if_neg hq0, szL_app _ _ _ hz0, if_neg hq1, szL_app _ _ _ hz1, if_neg hn]; rfl
    rw [e]
    try omega
set_option maxHeartbeats 1000000 in
set_option maxRecDepth 8000 in
theorem toTable_ok (x : GTable) (hs : ∀ n ∈ wTable x, n ≤ 1048576) : VC Try.prog 14 [vTable x] [(true, mTable x)] := by
  refine vc_of_ew good hm [0,1,2,3] Try.func14 rfl (by kernel_rfl) (by kernel_rfl) rfl ?_
  simp [Try.f14, vTable, mTable]
  refine .of (toColS_ok x.fCols (fun n hn => hs n (by simp [wTable, hn]))) ?_
  simp [mColS]
  refine .of (toStrS_ok x.fKeys (fun n hn => hs n (by simp [wTable, hn]))) ?_
  simp [mStrS]
set_option maxHeartbeats 1000000 in
set_option maxRecDepth 8000 in
theorem eqTable_ok (x : GTable) (hs : ∀ n ∈ wTable x, n ≤ 1048576) : VC Try.prog 17 [vTable x, vTable x] [(false, [(.s, .sc (.bool true))])] := by
  refine vc_of_ew good hm [0,1,2,3,4,9,15,21] Try.func17 rfl (by kernel_rfl) (by kernel_rfl) rfl ?_
  simp [Try.f17, vTable]
  refine .of (eqColS_ok x.fCols (fun n hn => hs n (by simp [wTable, hn]))) ?_
  simp
  refine .of (eqStrS_ok x.fKeys (fun n hn => hs n (by simp [wTable, hn]))) ?_
  simp

/-! ### []Table -/
abbrev GTableS := List GTable
def eTableS (l : List GTable) : List Lf := [.ls [.sc (.string ⟨#[]⟩), .ls [.sc (.string ⟨#[]⟩), .sc (.int .i64 0), .sc (.bool false), .sc (.bool false), .sc (.int .i64 0), .sc (.int .i64 0), .sc (.string ⟨#[]⟩)] [], .ls [.sc (.string ⟨#[]⟩)] []] (l.map eTable)]
def vTableS (l : List GTable) : SV := list [.sc (.string ⟨#[]⟩), .ls [.sc (.string ⟨#[]⟩), .sc (.int .i64 0), .sc (.bool false), .sc (.bool false), .sc (.int .i64 0), .sc (.int .i64 0), .sc (.string ⟨#[]⟩)] [], .ls [.sc (.string ⟨#[]⟩)] []] (l.map eTable)
@[simp] theorem row_TableS (l : List (List GTable)) (i : Nat) : (Option.map eTableS l[i]?).getD [.ls [.sc (.string ⟨#[]⟩), .ls [.sc (.string ⟨#[]⟩), .sc (.int .i64 0), .sc (.bool false), .sc (.bool false), .sc (.int .i64 0), .sc (.int .i64 0), .sc (.string ⟨#[]⟩)] [], .ls [.sc (.string ⟨#[]⟩)] []] []] = eTableS (l[i]?.getD []) := by cases l[i]? <;> rfl
def wTableS (l : List GTable) : List Nat := l.length :: l.flatMap wTable
def okTableS (l : List GTable) : Prop := okM l.length ∧ ∀ a ∈ l, okTable a
theorem okw_TableS (l : List GTable) (h : okTableS l) : ∀ n ∈ wTableS l, okM n := by
  intro n hn
  rcases List.mem_cons.1 hn with rfl | hn
  · exact h.1
  · obtain ⟨a, ha, hn⟩ := List.mem_flatMap.1 hn
    exact okw_Table a (h.2 a ha) n hn
theorem fit_TableS (ls : List Lf) (h : Fit ti ck 71 ls) : ∃ x : List GTable, ls = eTableS x ∧ okTableS x := by
  obtain ⟨x, r, rfl, h1, h2⟩ := All2.cons_inv h
  obtain rfl := All2.nil_inv h2
  obtain ⟨l, rfl, hl, hs⟩ := h1.list eTable okTable fit_Table
  exact ⟨l, rfl, hl, hs⟩
def mTableS (x : List GTable) : ML := [(.o 32 (fun _ => [.s, .o 102 (fun _ => [.s, .s, .s, .s, .s, .s, .s]), .o 9 (fun _ => [.s])]), .ls [.sc (.string ⟨#[]⟩), .ls [.sc (.string ⟨#[]⟩), .sc (.int .i64 0), .sc (.bool false), .sc (.bool false), .sc (.int .i64 0), .sc (.int .i64 0), .sc (.string ⟨#[]⟩)] [], .ls [.sc (.string ⟨#[]⟩)] []] (x.map eTable))]
@[simp] theorem ow_TableS (l : List GTable) : Ow (.o 32 (fun _ => [.s, .o 102 (fun _ => [.s, .s, .s, .s, .s, .s, .s]), .o 9 (fun _ => [.s])])) (.ls [.sc (.string ⟨#[]⟩), .ls [.sc (.string ⟨#[]⟩), .sc (.int .i64 0), .sc (.bool false), .sc (.bool false), .sc (.int .i64 0), .sc (.int .i64 0), .sc (.string ⟨#[]⟩)] [], .ls [.sc (.string ⟨#[]⟩)] []] (l.map eTable)) = True := eq_true (Ow_rows (fun x j hj => match j, hj with | 0, _ => .sc | 1, _ => of_eq_true (ow_ColS x.fCols) | 2, _ => of_eq_true (ow_StrS x.fKeys) | n + 3, hj => absurd hj (by simp)) l)
@[simp] theorem full_TableS (l : List GTable) : Full (.o 32 (fun _ => [.s, .o 102 (fun _ => [.s, .s, .s, .s, .s, .s, .s]), .o 9 (fun _ => [.s])])) (.ls [.sc (.string ⟨#[]⟩), .ls [.sc (.string ⟨#[]⟩), .sc (.int .i64 0), .sc (.bool false), .sc (.bool false), .sc (.int .i64 0), .sc (.int .i64 0), .sc (.string ⟨#[]⟩)] [], .ls [.sc (.string ⟨#[]⟩)] []] (l.map eTable)) = True := eq_true (Full_rows (fun x j hj => match j, hj with | 0, _ => .s | 1, _ => of_eq_true (full_ColS x.fCols) | 2, _ => of_eq_true (full_StrS x.fKeys) | n + 3, hj => absurd hj (by simp)) l)
set_option maxHeartbeats 1000000 in
set_option maxRecDepth 8000 in
theorem szTableS_ok (x : List GTable) (left : Int) (h0 : 0 ≤ left) (h1 : left ≤ 1048576) (hs : ∀ n ∈ wTableS x, okM n) : VC Try.prog 141 [vTableS x, int .i64 left] [(false, [(.s, .sc (.int .i64 (szL (wTableS x) left)))])] := by
  refine vc_of_ew good hm [0,1,4,11,5,15,25] Try.func141 rfl (by kernel_rfl) (by kernel_rfl) rfl ?_
  have hl : x.length ≤ 9223372036854775807 := hs _ (by simp [wTableS])
  simp [Try.f141, vTableS]
  rw [wrapI (i := left - x.length) (by omega) (by omega)]
  refine ⟨fun h => by simp [wTableS, szL, h], fun hk => ?_⟩
  refine ew_loop (fun E => ∃ i : Nat, i ≤ x.length ∧ 0 ≤ szL ((x.take i).flatMap wTable) (left - x.length) ∧ E = { nt := 27, sl := [(0, vTableS x), (1, int .i64 (szL ((x.take i).flatMap wTable) (left - x.length))), (5, int .i64 i)], bx := [], rt := [] }) (fun E => x.length - (E.num 5).toNat) _ (Gh.keep _ [0,1,5]) ⟨0, by omega, by simp [szL]; omega, by simp [szL, vTableS]⟩ ?_
  rintro E1 ⟨i, hi, hr0, rfl⟩
  have hr1 := szL_le' (l := (x.take i).flatMap wTable) (left := left - x.length) (by omega)
  simp [vTableS, eTable]
  refine ⟨fun h => ?_, fun h => ?_⟩
  · obtain ⟨q1, q2⟩ := szF_step wTable (dTable) h (by omega : 0 ≤ left - x.length) hr0
    have hm : ∀ n ∈ wTable (x[i]?.getD (dTable)), okM n := fun n hn => hs n (List.mem_cons_of_mem _ (mem_flat h hn))
    have hn1 := szL_neg (wTable (x[i]?.getD (dTable))) _ hr0
    refine ⟨h, .of (szTable_ok _ _ hr0 (by omega) hm) ?_⟩
    simp
    refine ⟨fun h2 => ?_, fun h2 => .of _ (Gh.keep _ [0,1,5]) ⟨i + 1, by omega, ?_, ?_⟩ ?_⟩
    · rw [wTableS, szL, if_neg (by omega), q1 h2]
    · rw [q2]; exact h2
    · rw [q2]; simp [wrapS (show i < 9223372036854775807 by omega)]
    · simp [wrapS (show i < 9223372036854775807 by omega)]; omega
  · rw [wTableS, szL, if_neg (by omega), List.take_of_length_le (by simpa using h)]
set_option maxHeartbeats 1000000 in
set_option maxRecDepth 8000 in
theorem toTableS_ok (x : List GTable) (hs : ∀ n ∈ wTableS x, n ≤ 1048576) : VC Try.prog 146 [vTableS x] [(false, mTableS x)] := by
  refine vc_of_ew good hm [0,2,3,4,11] Try.func146 rfl (by kernel_rfl) (by kernel_rfl) rfl ?_
  have hl : x.length ≤ 1048576 := hs _ (by simp [wTableS])
  simp [Try.f146, vTableS, mTableS]
  refine ⟨by omega, ?_⟩
  refine ew_loop (fun E => ∃ i : Nat, i ≤ x.length ∧ E = { nt := 23, sl := [(0, vTableS x), (3, .v false [.r [7]]), (4, int .i64 i)], bx := [], rt := [(7, .o 32 (fun _ => [.s, .o 102 (fun _ => [.s, .s, .s, .s, .s, .s, .s]), .o 9 (fun _ => [.s])]), .ls [.sc (.string ⟨#[]⟩), .ls [.sc (.string ⟨#[]⟩), .sc (.int .i64 0), .sc (.bool false), .sc (.bool false), .sc (.int .i64 0), .sc (.int .i64 0), .sc (.string ⟨#[]⟩)] [], .ls [.sc (.string ⟨#[]⟩)] []] (fillR [.sc (.string ⟨#[]⟩), .ls [.sc (.string ⟨#[]⟩), .sc (.int .i64 0), .sc (.bool false), .sc (.bool false), .sc (.int .i64 0), .sc (.int .i64 0), .sc (.string ⟨#[]⟩)] [], .ls [.sc (.string ⟨#[]⟩)] []] (x.map eTable) i))] }) (fun E => x.length - (E.num 4).toNat) _ (Gh.keep _ [0,3,4]) ⟨0, by omega, by simp [vTableS, fillR]⟩ ?_
  rintro E1 ⟨i, hi, rfl⟩
  have hfl : (fillR [.sc (.string ⟨#[]⟩), .ls [.sc (.string ⟨#[]⟩), .sc (.int .i64 0), .sc (.bool false), .sc (.bool false), .sc (.int .i64 0), .sc (.int .i64 0), .sc (.string ⟨#[]⟩)] [], .ls [.sc (.string ⟨#[]⟩)] []] (x.map eTable) i).length = x.length := by rw [fillR_len _ _ (by simpa using hi)]; simp
  simp [vTableS, eTable] at hfl ⊢
  try simp [hfl]
  refine ⟨fun h => ⟨h, .of (toTable_ok (x[i]?.getD dTable) (fun n hn => hs n (List.mem_cons_of_mem _ (mem_flat (wt := wTable) h hn)))) ?_⟩, fun h => fillR_all _ _ (by simpa using h)⟩
  simp [mTable]
  try simp [hfl, h]
  refine .of _ (Gh.keep _ [0,3,4]) ⟨i + 1, by omega, ?_⟩ ?_
  · have := fillR_set [.sc (.string ⟨#[]⟩), .ls [.sc (.string ⟨#[]⟩), .sc (.int .i64 0), .sc (.bool false), .sc (.bool false), .sc (.int .i64 0), .sc (.int .i64 0), .sc (.string ⟨#[]⟩)] [], .ls [.sc (.string ⟨#[]⟩)] []] (x.map eTable) (i := i) (by simpa using h)
    simp [wrapS (show i < 9223372036854775807 by omega), vTableS, eTable, h] at this ⊢
    rw [← this]
  · simp [wrapS (show i < 9223372036854775807 by omega)]; omega
set_option maxHeartbeats 1000000 in
set_option maxRecDepth 8000 in
theorem eqTableS_ok (x : List GTable) (hs : ∀ n ∈ wTableS x, n ≤ 1048576) : VC Try.prog 151 [vTableS x, vTableS x] [(false, [(.s, .sc (.bool true))])] := by
  refine vc_of_ew good hm [0,1,4,10,5,14,26] Try.func151 rfl (by kernel_rfl) (by kernel_rfl) rfl ?_
  have hl : x.length ≤ 1048576 := hs _ (by simp [wTableS])
  simp [Try.f151, vTableS]
  refine ew_loop (fun E => ∃ i : Nat, i ≤ x.length ∧ E = { nt := 27, sl := [(0, vTableS x), (1, vTableS x), (5, int .i64 i)], bx := [], rt := [] }) (fun E => x.length - (E.num 5).toNat) _ (Gh.keep _ [0,1,5]) ⟨0, by omega, by simp [vTableS]⟩ ?_
  rintro E1 ⟨i, hi, rfl⟩
  simp [vTableS, eTable]
  intro h
  refine ⟨h, .of (eqTable_ok (x[i]?.getD dTable) (fun n hn => hs n (List.mem_cons_of_mem _ (mem_flat (wt := wTable) h hn)))) ?_⟩
  simp
  refine .of _ (Gh.keep _ [0,1,5]) ⟨i + 1, by omega, ?_⟩ ?_
  · simp [wrapS (show i < 9223372036854775807 by omega), vTableS]
  · simp [wrapS (show i < 9223372036854775807 by omega)]; omega

/-! ### Cat -/
structure GCat where
  fTables : List GTable
def eCat (x : GCat) : List Lf := [.ls [.sc (.string ⟨#[]⟩), .ls [.sc (.string ⟨#[]⟩), .sc (.int .i64 0), .sc (.bool false), .sc (.bool false), .sc (.int .i64 0), .sc (.int .i64 0), .sc (.string ⟨#[]⟩)] [], .ls [.sc (.string ⟨#[]⟩)] []] (x.fTables.map eTable)]
def cCat (x : GCat) : List LV := [.s (.ls [.sc (.string ⟨#[]⟩), .ls [.sc (.string ⟨#[]⟩), .sc (.int .i64 0), .sc (.bool false), .sc (.bool false), .sc (.int .i64 0), .sc (.int .i64 0), .sc (.string ⟨#[]⟩)] [], .ls [.sc (.string ⟨#[]⟩)] []] (x.fTables.map eTable))]
def vCat (x : GCat) : SV := .v true [.s (.ls [.sc (.string ⟨#[]⟩), .ls [.sc (.string ⟨#[]⟩), .sc (.int .i64 0), .sc (.bool false), .sc (.bool false), .sc (.int .i64 0), .sc (.int .i64 0), .sc (.string ⟨#[]⟩)] [], .ls [.sc (.string ⟨#[]⟩)] []] (x.fTables.map eTable))]
def dCat : GCat := ⟨[]⟩
@[simp] theorem row_Cat (l : List GCat) (i : Nat) : (Option.map eCat l[i]?).getD [.ls [.sc (.string ⟨#[]⟩), .ls [.sc (.string ⟨#[]⟩), .sc (.int .i64 0), .sc (.bool false), .sc (.bool false), .sc (.int .i64 0), .sc (.int .i64 0), .sc (.string ⟨#[]⟩)] [], .ls [.sc (.string ⟨#[]⟩)] []] []] = eCat (l[i]?.getD dCat) := by cases l[i]? <;> rfl
def wCat (x : GCat) : List Nat := wTableS x.fTables ++ ([])
def okCat (x : GCat) : Prop := okTableS x.fTables ∧ True
theorem okw_Cat (x : GCat) (h : okCat x) : ∀ n ∈ wCat x, okM n := by
  obtain ⟨h0, _⟩ := h
  intro n hn
  simp only [wCat, List.mem_cons, List.mem_append, List.not_mem_nil, or_false, false_or] at hn
  rcases hn with hn
  · exact okw_TableS _ h0 n hn
theorem fit_Cat (ls : List Lf) (h : Fit ti ck 73 ls) : ∃ x : GCat, ls = eCat x ∧ okCat x := by
  obtain ⟨c0, r0, rfl, h0, g0⟩ := All2.cons_inv h
  obtain ⟨a0, rfl, b0, b0'⟩ := h0.list eTable okTable fit_Table
  obtain rfl := All2.nil_inv g0
  exact ⟨⟨a0⟩, rfl, ⟨⟨b0, b0'⟩, trivial⟩⟩
def mCat (x : GCat) : ML := [(.o 32 (fun _ => [.s, .o 102 (fun _ => [.s, .s, .s, .s, .s, .s, .s]), .o 9 (fun _ => [.s])]), .ls [.sc (.string ⟨#[]⟩), .ls [.sc (.string ⟨#[]⟩), .sc (.int .i64 0), .sc (.bool false), .sc (.bool false), .sc (.int .i64 0), .sc (.int .i64 0), .sc (.string ⟨#[]⟩)] [], .ls [.sc (.string ⟨#[]⟩)] []] (x.fTables.map eTable))]
set_option maxHeartbeats 1000000 in
set_option maxRecDepth 8000 in
theorem szCat_ok (x : GCat) (left : Int) (h0 : 0 ≤ left) (h1 : left ≤ 1048576) (hs : ∀ n ∈ wCat x, okM n) : VC Try.prog 114 [vCat x, int .i64 left] [(false, [(.s, .sc (.int .i64 (szL (wCat x) left)))])] := by
  refine vc_of_ew good hm [0,1,2,4,10] Try.func114 rfl (by kernel_rfl) (by kernel_rfl) rfl ?_
  simp [Try.f114, vCat]
  refine .of (szTableS_ok x.fTables left (by omega) (by omega) (fun n hn => hs n (by simp [wCat, hn]))) ?_
  simp
  have hb0 := szL_le' (l := wTableS x.fTables) (left := left) (by omega)
  have hc0 := szL_neg (wTableS x.fTables) left (by omega)
  by_cases hn : (szL (wTableS x.fTables) left) < 0
  · have e : szL (wCat x) left = -1 := by rw [wCat, szL_app _ _ _ h0, if_pos hn]
    rw [e]
    try omega
  · have e : szL (wCat x) left = (szL (wTableS x.fTables) left) := by rw [wCat, szL_app _ _ _ h0, if_neg hn]; rfl
    rw [e]
    try omega
set_option maxHeartbeats 1000000 in
set_option maxRecDepth 8000 in
theorem toCat_ok (x : GCat) (hs : ∀ n ∈ wCat x, n ≤ 1048576) : VC Try.prog 118 [vCat x] [(true, mCat x)] := by
  refine vc_of_ew good hm [0,1,2,3] Try.func118 rfl (by kernel_rfl) (by kernel_rfl) rfl ?_
  simp [Try.f118, vCat, mCat]
  refine .of (toTableS_ok x.fTables (fun n hn => hs n (by simp [wCat, hn]))) ?_
  simp [mTableS]
set_option maxHeartbeats 1000000 in
set_option maxRecDepth 8000 in
theorem eqCat_ok (x : GCat) (hs : ∀ n ∈ wCat x, n ≤ 1048576) : VC Try.prog 122 [vCat x, vCat x] [(false, [(.s, .sc (.bool true))])] := by
  refine vc_of_ew good hm [0,1,2,3,4,10] Try.func122 rfl (by kernel_rfl) (by kernel_rfl) rfl ?_
  simp [Try.f122, vCat]
  refine .of (eqTableS_ok x.fTables (fun n hn => hs n (by simp [wCat, hn]))) ?_
  simp

/-! ### []Row -/
abbrev GRowS := List GRow
def eRowS (l : List GRow) : List Lf := [.ls [.ls [.sc (.int .i64 0), .sc (.int .i64 0), .sc (.string ⟨#[]⟩)] []] (l.map eRow)]
def vRowS (l : List GRow) : SV := list [.ls [.sc (.int .i64 0), .sc (.int .i64 0), .sc (.string ⟨#[]⟩)] []] (l.map eRow)
@[simp] theorem row_RowS (l : List (List GRow)) (i : Nat) : (Option.map eRowS l[i]?).getD [.ls [.ls [.sc (.int .i64 0), .sc (.int .i64 0), .sc (.string ⟨#[]⟩)] []] []] = eRowS (l[i]?.getD []) := by cases l[i]? <;> rfl
def wRowS (l : List GRow) : List Nat := l.length :: l.flatMap wRow
def okRowS (l : List GRow) : Prop := okM l.length ∧ ∀ a ∈ l, okRow a
theorem okw_RowS (l : List GRow) (h : okRowS l) : ∀ n ∈ wRowS l, okM n := by
  intro n hn
  rcases List.mem_cons.1 hn with rfl | hn
  · exact h.1
  · obtain ⟨a, ha, hn⟩ := List.mem_flatMap.1 hn
    exact okw_Row a (h.2 a ha) n hn
theorem fit_RowS (ls : List Lf) (h : Fit ti ck 178 ls) : ∃ x : List GRow, ls = eRowS x ∧ okRowS x := by
  obtain ⟨x, r, rfl, h1, h2⟩ := All2.cons_inv h
  obtain rfl := All2.nil_inv h2
  obtain ⟨l, rfl, hl, hs⟩ := h1.list eRow okRow fit_Row
  exact ⟨l, rfl, hl, hs⟩
def mRowS (x : List GRow) : ML := [(.o 50 (fun _ => [.o 100 (fun _ => [.s, .s, .s])]), .ls [.ls [.sc (.int .i64 0), .sc (.int .i64 0), .sc (.string ⟨#[]⟩)] []] (x.map eRow))]
@[simp] theorem ow_RowS (l : List GRow) : Ow (.o 50 (fun _ => [.o 100 (fun _ => [.s, .s, .s])])) (.ls [.ls [.sc (.int .i64 0), .sc (.int .i64 0), .sc (.string ⟨#[]⟩)] []] (l.map eRow)) = True := eq_true (Ow_rows (fun x j hj => match j, hj with | 0, _ => of_eq_true (ow_ValS x.fVals) | n + 1, hj => absurd hj (by simp)) l)
@[simp] theorem full_RowS (l : List GRow) : Full (.o 50 (fun _ => [.o 100 (fun _ => [.s, .s, .s])])) (.ls [.ls [.sc (.int .i64 0), .sc (.int .i64 0), .sc (.string ⟨#[]⟩)] []] (l.map eRow)) = True := eq_true (Full_rows (fun x j hj => match j, hj with | 0, _ => of_eq_true (full_ValS x.fVals) | n + 1, hj => absurd hj (by simp)) l)
set_option maxHeartbeats 1000000 in
set_option maxRecDepth 8000 in
theorem szRowS_ok (x : List GRow) (left : Int) (h0 : 0 ≤ left) (h1 : left ≤ 1048576) (hs : ∀ n ∈ wRowS x, okM n) : VC Try.prog 159 [vRowS x, int .i64 left] [(false, [(.s, .sc (.int .i64 (szL (wRowS x) left)))])] := by
  refine vc_of_ew good hm [0,1,4,11,5,15,25] Try.func159 rfl (by kernel_rfl) (by kernel_rfl) rfl ?_
  have hl : x.length ≤ 9223372036854775807 := hs _ (by simp [wRowS])
  simp [Try.f159, vRowS]
  rw [wrapI (i := left - x.length) (by omega) (by omega)]
  refine ⟨fun h => by simp [wRowS, szL, h], fun hk => ?_⟩
  refine ew_loop (fun E => ∃ i : Nat, i ≤ x.length ∧ 0 ≤ szL ((x.take i).flatMap wRow) (left - x.length) ∧ E = { nt := 27, sl := [(0, vRowS x), (1, int .i64 (szL ((x.take i).flatMap wRow) (left - x.length))), (5, int .i64 i)], bx := [], rt := [] }) (fun E => x.length - (E.num 5).toNat) _ (Gh.keep _ [0,1,5]) ⟨0, by omega, by simp [szL]; omega, by simp [szL, vRowS]⟩ ?_
  rintro E1 ⟨i, hi, hr0, rfl⟩
  have hr1 := szL_le' (l := (x.take i).flatMap wRow) (left := left - x.length) (by omega)
  simp [vRowS, eRow]
  refine ⟨fun h => ?_, fun h => ?_⟩
  · obtain ⟨q1, q2⟩ := szF_step wRow (dRow) h (by omega : 0 ≤ left - x.length) hr0
    have hm : ∀ n ∈ wRow (x[i]?.getD (dRow)), okM n := fun n hn => hs n (List.mem_cons_of_mem _ (mem_flat h hn))
    have hn1 := szL_neg (wRow (x[i]?.getD (dRow))) _ hr0
    refine ⟨h, .of (szRow_ok _ _ hr0 (by omega) hm) ?_⟩
    simp
    refine ⟨fun h2 => ?_, fun h2 => .of _ (Gh.keep _ [0,1,5]) ⟨i + 1, by omega, ?_, ?_⟩ ?_⟩
    · rw [wRowS, szL, if_neg (by omega), q1 h2]
    · rw [q2]; exact h2
    · rw [q2]; simp [wrapS (show i < 9223372036854775807 by omega)]
    · simp [wrapS (show i < 9223372036854775807 by omega)]; omega
  · rw [wRowS, szL, if_neg (by omega), List.take_of_length_le (by simpa using h)]
set_option maxHeartbeats 1000000 in
set_option maxRecDepth 8000 in
theorem toRowS_ok (x : List GRow) (hs : ∀ n ∈ wRowS x, n ≤ 1048576) : VC Try.prog 162 [vRowS x] [(false, mRowS x)] := by
  refine vc_of_ew good hm [0,2,3,4,11] Try.func162 rfl (by kernel_rfl) (by kernel_rfl) rfl ?_
  have hl : x.length ≤ 1048576 := hs _ (by simp [wRowS])
  simp [Try.f162, vRowS, mRowS]
  refine ⟨by omega, ?_⟩
  refine ew_loop (fun E => ∃ i : Nat, i ≤ x.length ∧ E = { nt := 23, sl := [(0, vRowS x), (3, .v false [.r [7]]), (4, int .i64 i)], bx := [], rt := [(7, .o 50 (fun _ => [.o 100 (fun _ => [.s, .s, .s])]), .ls [.ls [.sc (.int .i64 0), .sc (.int .i64 0), .sc (.string ⟨#[]⟩)] []] (fillR [.ls [.sc (.int .i64 0), .sc (.int .i64 0), .sc (.string ⟨#[]⟩)] []] (x.map eRow) i))] }) (fun E => x.length - (E.num 4).toNat) _ (Gh.keep _ [0,3,4]) ⟨0, by omega, by simp [vRowS, fillR]⟩ ?_
  rintro E1 ⟨i, hi, rfl⟩
  have hfl : (fillR [.ls [.sc (.int .i64 0), .sc (.int .i64 0), .sc (.string ⟨#[]⟩)] []] (x.map eRow) i).length = x.length := by rw [fillR_len _ _ (by simpa using hi)]; simp
  simp [vRowS, eRow] at hfl ⊢
  try simp [hfl]
  refine ⟨fun h => ⟨h, .of (toRow_ok (x[i]?.getD dRow) (fun n hn => hs n (List.mem_cons_of_mem _ (mem_flat (wt := wRow) h hn)))) ?_⟩, fun h => fillR_all _ _ (by simpa using h)⟩
  simp [mRow]
  try simp [hfl, h]
  refine .of _ (Gh.keep _ [0,3,4]) ⟨i + 1, by omega, ?_⟩ ?_
  · have := fillR_set [.ls [.sc (.int .i64 0), .sc (.int .i64 0), .sc (.string ⟨#[]⟩)] []] (x.map eRow) (i := i) (by simpa using h)
    simp [wrapS (show i < 9223372036854775807 by omega), vRowS, eRow, h] at this ⊢
    rw [← this]
  · simp [wrapS (show i < 9223372036854775807 by omega)]; omega
set_option maxHeartbeats 1000000 in
set_option maxRecDepth 8000 in
theorem eqRowS_ok (x : List GRow) (hs : ∀ n ∈ wRowS x, n ≤ 1048576) : VC Try.prog 165 [vRowS x, vRowS x] [(false, [(.s, .sc (.bool true))])] := by
  refine vc_of_ew good hm [0,1,4,10,5,14,26] Try.func165 rfl (by kernel_rfl) (by kernel_rfl) rfl ?_
  have hl : x.length ≤ 1048576 := hs _ (by simp [wRowS])
  simp [Try.f165, vRowS]
  refine ew_loop (fun E => ∃ i : Nat, i ≤ x.length ∧ E = { nt := 27, sl := [(0, vRowS x), (1, vRowS x), (5, int .i64 i)], bx := [], rt := [] }) (fun E => x.length - (E.num 5).toNat) _ (Gh.keep _ [0,1,5]) ⟨0, by omega, by simp [vRowS]⟩ ?_
  rintro E1 ⟨i, hi, rfl⟩
  simp [vRowS, eRow]
  intro h
  refine ⟨h, .of (eqRow_ok (x[i]?.getD dRow) (fun n hn => hs n (List.mem_cons_of_mem _ (mem_flat (wt := wRow) h hn)))) ?_⟩
  simp
  refine .of _ (Gh.keep _ [0,1,5]) ⟨i + 1, by omega, ?_⟩ ?_
  · simp [wrapS (show i < 9223372036854775807 by omega), vRowS]
  · simp [wrapS (show i < 9223372036854775807 by omega)]; omega

/-! ### Rows -/
structure GRows where
  fRows : List GRow
def eRows (x : GRows) : List Lf := [.ls [.ls [.sc (.int .i64 0), .sc (.int .i64 0), .sc (.string ⟨#[]⟩)] []] (x.fRows.map eRow)]
def cRows (x : GRows) : List LV := [.s (.ls [.ls [.sc (.int .i64 0), .sc (.int .i64 0), .sc (.string ⟨#[]⟩)] []] (x.fRows.map eRow))]
def vRows (x : GRows) : SV := .v true [.s (.ls [.ls [.sc (.int .i64 0), .sc (.int .i64 0), .sc (.string ⟨#[]⟩)] []] (x.fRows.map eRow))]
def dRows : GRows := ⟨[]⟩
@[simp] theorem row_Rows (l : List GRows) (i : Nat) : (Option.map eRows l[i]?).getD [.ls [.ls [.sc (.int .i64 0), .sc (.int .i64 0), .sc (.string ⟨#[]⟩)] []] []] = eRows (l[i]?.getD dRows) := by cases l[i]? <;> rfl
def wRows (x : GRows) : List Nat := wRowS x.fRows ++ ([])
def okRows (x : GRows) : Prop := okRowS x.fRows ∧ True
theorem okw_Rows (x : GRows) (h : okRows x) : ∀ n ∈ wRows x, okM n := by
  obtain ⟨h0, _⟩ := h
  intro n hn
  simp only [wRows, List.mem_cons, List.mem_append, List.not_mem_nil, or_false, false_or] at hn
  rcases hn with hn
  · exact okw_RowS _ h0 n hn
theorem fit_Rows (ls : List Lf) (h : Fit ti ck 180 ls) : ∃ x : GRows, ls = eRows x ∧ okRows x := by
  obtain ⟨c0, r0, rfl, h0, g0⟩ := All2.cons_inv h
  obtain ⟨a0, rfl, b0, b0'⟩ := h0.list eRow okRow fit_Row
  obtain rfl := All2.nil_inv g0
  exact ⟨⟨a0⟩, rfl, ⟨⟨b0, b0'⟩, trivial⟩⟩
def mRows (x : GRows) : ML := [(.o 50 (fun _ => [.o 100 (fun _ => [.s, .s, .s])]), .ls [.ls [.sc (.int .i64 0), .sc (.int .i64 0), .sc (.string ⟨#[]⟩)] []] (x.fRows.map eRow))]
set_option maxHeartbeats 1000000 in
set_option maxRecDepth 8000 in
theorem szRows_ok (x : GRows) (left : Int) (h0 : 0 ≤ left) (h1 : left ≤ 1048576) (hs : ∀ n ∈ wRows x, okM n) : VC Try.prog 142 [vRows x, int .i64 left] [(false, [(.s, .sc (.int .i64 (szL (wRows x) left)))])] := by
  refine vc_of_ew good hm [0,1,2,4,10] Try.func142 rfl (by kernel_rfl) (by kernel_rfl) rfl ?_
  simp [Try.f142, vRows]
  refine .of (szRowS_ok x.fRows left (by omega) (by omega) (fun n hn => hs n (by simp [wRows, hn]))) ?_
  simp
  have hb0 := szL_le' (l := wRowS x.fRows) (left := left) (by omega)
  have hc0 := szL_neg (wRowS x.fRows) left (by omega)
  by_cases hn : (szL (wRowS x.fRows) left) < 0
  · have e : szL (wRows x) left = -1 := by rw [wRows, szL_app _ _ _ h0, if_pos hn]
    rw [e]
    try omega
  · have e : szL (wRows x) left = (szL (wRowS x.fRows) left) := by rw [wRows, szL_app _ _ _ h0, if_neg hn]; rfl
    rw [e]
    try omega
set_option maxHeartbeats 1000000 in
set_option maxRecDepth 8000 in
theorem toRows_ok (x : GRows) (hs : ∀ n ∈ wRows x, n ≤ 1048576) : VC Try.prog 147 [vRows x] [(true, mRows x)] := by
  refine vc_of_ew good hm [0,1,2,3] Try.func147 rfl (by kernel_rfl) (by kernel_rfl) rfl ?_
  simp [Try.f147, vRows, mRows]
  refine .of (toRowS_ok x.fRows (fun n hn => hs n (by simp [wRows, hn]))) ?_
  simp [mRowS]
set_option maxHeartbeats 1000000 in
set_option maxRecDepth 8000 in
theorem eqRows_ok (x : GRows) (hs : ∀ n ∈ wRows x, n ≤ 1048576) : VC Try.prog 152 [vRows x, vRows x] [(false, [(.s, .sc (.bool true))])] := by
  refine vc_of_ew good hm [0,1,2,3,4,10] Try.func152 rfl (by kernel_rfl) (by kernel_rfl) rfl ?_
  simp [Try.f152, vRows]
  refine .of (eqRowS_ok x.fRows (fun n hn => hs n (by simp [wRows, hn]))) ?_
  simp

/-! ### []Rows -/
abbrev GRowsS := List GRows
def eRowsS (l : List GRows) : List Lf := [.ls [.ls [.ls [.sc (.int .i64 0), .sc (.int .i64 0), .sc (.string ⟨#[]⟩)] []] []] (l.map eRows)]
def vRowsS (l : List GRows) : SV := list [.ls [.ls [.sc (.int .i64 0), .sc (.int .i64 0), .sc (.string ⟨#[]⟩)] []] []] (l.map eRows)
@[simp] theorem row_RowsS (l : List (List GRows)) (i : Nat) : (Option.map eRowsS l[i]?).getD [.ls [.ls [.ls [.sc (.int .i64 0), .sc (.int .i64 0), .sc (.string ⟨#[]⟩)] []] []] []] = eRowsS (l[i]?.getD []) := by cases l[i]? <;> rfl
def wRowsS (l : List GRows) : List Nat := l.length :: l.flatMap wRows
def okRowsS (l : List GRows) : Prop := okM l.length ∧ ∀ a ∈ l, okRows a
theorem okw_RowsS (l : List GRows) (h : okRowsS l) : ∀ n ∈ wRowsS l, okM n := by
  intro n hn
  rcases List.mem_cons.1 hn with rfl | hn
  · exact h.1
  · obtain ⟨a, ha, hn⟩ := List.mem_flatMap.1 hn
    exact okw_Rows a (h.2 a ha) n hn
theorem fit_RowsS (ls : List Lf) (h : Fit ti ck 74 ls) : ∃ x : List GRows, ls = eRowsS x ∧ okRowsS x := by
  obtain ⟨x, r, rfl, h1, h2⟩ := All2.cons_inv h
  obtain rfl := All2.nil_inv h2
  obtain ⟨l, rfl, hl, hs⟩ := h1.list eRows okRows fit_Rows
  exact ⟨l, rfl, hl, hs⟩
def mRowsS (x : List GRows) : ML := [(.o 159 (fun _ => [.o 50 (fun _ => [.o 100 (fun _ => [.s, .s, .s])])]), .ls [.ls [.ls [.sc (.int .i64 0), .sc (.int .i64 0), .sc (.string ⟨#[]⟩)] []] []] (x.map eRows))]
@[simp] theorem ow_RowsS (l : List GRows) : Ow (.o 159 (fun _ => [.o 50 (fun _ => [.o 100 (fun _ => [.s, .s, .s])])])) (.ls [.ls [.ls [.sc (.int .i64 0), .sc (.int .i64 0), .sc (.string ⟨#[]⟩)] []] []] (l.map eRows)) = True := eq_true (Ow_rows (fun x j hj => match j, hj with | 0, _ => of_eq_true (ow_RowS x.fRows) | n + 1, hj => absurd hj (by simp)) l)
@[simp] theorem full_RowsS (l : List GRows) : Full (.o 159 (fun _ => [.o 50 (fun _ => [.o 100 (fun _ => [.s, .s, .s])])])) (.ls [.ls [.ls [.sc (.int .i64 0), .sc (.int .i64 0), .sc (.string ⟨#[]⟩)] []] []] (l.map eRows)) = True := eq_true (Full_rows (fun x j hj => match j, hj with | 0, _ => of_eq_true (full_RowS x.fRows) | n + 1, hj => absurd hj (by simp)) l)
set_option maxHeartbeats 1000000 in
set_option maxRecDepth 8000 in
theorem szRowsS_ok (x : List GRows) (left : Int) (h0 : 0 ≤ left) (h1 : left ≤ 1048576) (hs : ∀ n ∈ wRowsS x, okM n) : VC Try.prog 115 [vRowsS x, int .i64 left] [(false, [(.s, .sc (.int .i64 (szL (wRowsS x) left)))])] := by
  refine vc_of_ew good hm [0,1,4,11,5,15,25] Try.func115 rfl (by kernel_rfl) (by kernel_rfl) rfl ?_
  have hl : x.length ≤ 9223372036854775807 := hs _ (by simp [wRowsS])
  simp [Try.f115, vRowsS]
  rw [wrapI (i := left - x.length) (by omega) (by omega)]
  refine ⟨fun h => by simp [wRowsS, szL, h], fun hk => ?_⟩
  refine ew_loop (fun E => ∃ i : Nat, i ≤ x.length ∧ 0 ≤ szL ((x.take i).flatMap wRows) (left - x.length) ∧ E = { nt := 27, sl := [(0, vRowsS x), (1, int .i64 (szL ((x.take i).flatMap wRows) (left - x.length))), (5, int .i64 i)], bx := [], rt := [] }) (fun E => x.length - (E.num 5).toNat) _ (Gh.keep _ [0,1,5]) ⟨0, by omega, by simp [szL]; omega, by simp [szL, vRowsS]⟩ ?_
  rintro E1 ⟨i, hi, hr0, rfl⟩
  have hr1 := szL_le' (l := (x.take i).flatMap wRows) (left := left - x.length) (by omega)
  simp [vRowsS, eRows]
  refine ⟨fun h => ?_, fun h => ?_⟩
  · obtain ⟨q1, q2⟩ := szF_step wRows (dRows) h (by omega : 0 ≤ left - x.length) hr0
    have hm : ∀ n ∈ wRows (x[i]?.getD (dRows)), okM n := fun n hn => hs n (List.mem_cons_of_mem _ (mem_flat h hn))
    have hn1 := szL_neg (wRows (x[i]?.getD (dRows))) _ hr0
    refine ⟨h, .of (szRows_ok _ _ hr0 (by omega) hm) ?_⟩
    simp
    refine ⟨fun h2 => ?_, fun h2 => .of _ (Gh.keep _ [0,1,5]) ⟨i + 1, by omega, ?_, ?_⟩ ?_⟩
    · rw [wRowsS, szL, if_neg (by omega), q1 h2]
    · rw [q2]; exact h2
    · rw [q2]; simp [wrapS (show i < 9223372036854775807 by omega)]
    · simp [wrapS (show i < 9223372036854775807 by omega)]; omega
  · rw [wRowsS, szL, if_neg (by omega), List.take_of_length_le (by simpa using h)]
set_option maxHeartbeats 1000000 in
set_option maxRecDepth 8000 in
theorem toRowsS_ok (x : List GRows) (hs : ∀ n ∈ wRowsS x, n ≤ 1048576) : VC Try.prog 119 [vRowsS x] [(false, mRowsS x)] := by
  refine vc_of_ew good hm [0,2,3,4,11] Try.func119 rfl (by kernel_rfl) (by kernel_rfl) rfl ?_
  have hl : x.length ≤ 1048576 := hs _ (by simp [wRowsS])
  simp [Try.f119, vRowsS, mRowsS]
  refine ⟨by omega, ?_⟩
  refine ew_loop (fun E => ∃ i : Nat, i ≤ x.length ∧ E = { nt := 23, sl := [(0, vRowsS x), (3, .v false [.r [7]]), (4, int .i64 i)], bx := [], rt := [(7, .o 159 (fun _ => [.o 50 (fun _ => [.o 100 (fun _ => [.s, .s, .s])])]), .ls [.ls [.ls [.sc (.int .i64 0), .sc (.int .i64 0), .sc (.string ⟨#[]⟩)] []] []] (fillR [.ls [.ls [.sc (.int .i64 0), .sc (.int .i64 0), .sc (.string ⟨#[]⟩)] []] []] (x.map eRows) i))] }) (fun E => x.length - (E.num 4).toNat) _ (Gh.keep _ [0,3,4]) ⟨0, by omega, by simp [vRowsS, fillR]⟩ ?_
  rintro E1 ⟨i, hi, rfl⟩
  have hfl : (fillR [.ls [.ls [.sc (.int .i64 0), .sc (.int .i64 0), .sc (.string ⟨#[]⟩)] []] []] (x.map eRows) i).length = x.length := by rw [fillR_len _ _ (by simpa using hi)]; simp
  simp [vRowsS, eRows] at hfl ⊢
  try simp [hfl]
  refine ⟨fun h => ⟨h, .of (toRows_ok (x[i]?.getD dRows) (fun n hn => hs n (List.mem_cons_of_mem _ (mem_flat (wt := wRows) h hn)))) ?_⟩, fun h => fillR_all _ _ (by simpa using h)⟩
  simp [mRows]
  try simp [hfl, h]
  refine .of _ (Gh.keep _ [0,3,4]) ⟨i + 1, by omega, ?_⟩ ?_
  · have := fillR_set [.ls [.ls [.sc (.int .i64 0), .sc (.int .i64 0), .sc (.string ⟨#[]⟩)] []] []] (x.map eRows) (i := i) (by simpa using h)
    simp [wrapS (show i < 9223372036854775807 by omega), vRowsS, eRows, h] at this ⊢
    rw [← this]
  · simp [wrapS (show i < 9223372036854775807 by omega)]; omega
set_option maxHeartbeats 1000000 in
set_option maxRecDepth 8000 in
theorem eqRowsS_ok (x : List GRows) (hs : ∀ n ∈ wRowsS x, n ≤ 1048576) : VC Try.prog 123 [vRowsS x, vRowsS x] [(false, [(.s, .sc (.bool true))])] := by
  refine vc_of_ew good hm [0,1,4,10,5,14,26] Try.func123 rfl (by kernel_rfl) (by kernel_rfl) rfl ?_
  have hl : x.length ≤ 1048576 := hs _ (by simp [wRowsS])
  simp [Try.f123, vRowsS]
  refine ew_loop (fun E => ∃ i : Nat, i ≤ x.length ∧ E = { nt := 27, sl := [(0, vRowsS x), (1, vRowsS x), (5, int .i64 i)], bx := [], rt := [] }) (fun E => x.length - (E.num 5).toNat) _ (Gh.keep _ [0,1,5]) ⟨0, by omega, by simp [vRowsS]⟩ ?_
  rintro E1 ⟨i, hi, rfl⟩
  simp [vRowsS, eRows]
  intro h
  refine ⟨h, .of (eqRows_ok (x[i]?.getD dRows) (fun n hn => hs n (List.mem_cons_of_mem _ (mem_flat (wt := wRows) h hn)))) ?_⟩
  simp
  refine .of _ (Gh.keep _ [0,1,5]) ⟨i + 1, by omega, ?_⟩ ?_
  · simp [wrapS (show i < 9223372036854775807 by omega), vRowsS]
  · simp [wrapS (show i < 9223372036854775807 by omega)]; omega

/-! ### Db -/
structure GDb where
  fCat : GCat
  fData : List GRows
def eDb (x : GDb) : List Lf := [.ls [.sc (.string ⟨#[]⟩), .ls [.sc (.string ⟨#[]⟩), .sc (.int .i64 0), .sc (.bool false), .sc (.bool false), .sc (.int .i64 0), .sc (.int .i64 0), .sc (.string ⟨#[]⟩)] [], .ls [.sc (.string ⟨#[]⟩)] []] (x.fCat.fTables.map eTable), .ls [.ls [.ls [.sc (.int .i64 0), .sc (.int .i64 0), .sc (.string ⟨#[]⟩)] []] []] (x.fData.map eRows)]
def cDb (x : GDb) : List LV := [.s (.ls [.sc (.string ⟨#[]⟩), .ls [.sc (.string ⟨#[]⟩), .sc (.int .i64 0), .sc (.bool false), .sc (.bool false), .sc (.int .i64 0), .sc (.int .i64 0), .sc (.string ⟨#[]⟩)] [], .ls [.sc (.string ⟨#[]⟩)] []] (x.fCat.fTables.map eTable)), .s (.ls [.ls [.ls [.sc (.int .i64 0), .sc (.int .i64 0), .sc (.string ⟨#[]⟩)] []] []] (x.fData.map eRows))]
def vDb (x : GDb) : SV := .v true [.s (.ls [.sc (.string ⟨#[]⟩), .ls [.sc (.string ⟨#[]⟩), .sc (.int .i64 0), .sc (.bool false), .sc (.bool false), .sc (.int .i64 0), .sc (.int .i64 0), .sc (.string ⟨#[]⟩)] [], .ls [.sc (.string ⟨#[]⟩)] []] (x.fCat.fTables.map eTable)), .s (.ls [.ls [.ls [.sc (.int .i64 0), .sc (.int .i64 0), .sc (.string ⟨#[]⟩)] []] []] (x.fData.map eRows))]
def dDb : GDb := ⟨⟨[]⟩, []⟩
@[simp] theorem row_Db (l : List GDb) (i : Nat) : (Option.map eDb l[i]?).getD [.ls [.sc (.string ⟨#[]⟩), .ls [.sc (.string ⟨#[]⟩), .sc (.int .i64 0), .sc (.bool false), .sc (.bool false), .sc (.int .i64 0), .sc (.int .i64 0), .sc (.string ⟨#[]⟩)] [], .ls [.sc (.string ⟨#[]⟩)] []] [], .ls [.ls [.ls [.sc (.int .i64 0), .sc (.int .i64 0), .sc (.string ⟨#[]⟩)] []] []] []] = eDb (l[i]?.getD dDb) := by cases l[i]? <;> rfl
def wDb (x : GDb) : List Nat := wCat x.fCat ++ (wRowsS x.fData ++ ([]))
def okDb (x : GDb) : Prop := okCat x.fCat ∧ okRowsS x.fData ∧ True
theorem okw_Db (x : GDb) (h : okDb x) : ∀ n ∈ wDb x, okM n := by
  obtain ⟨h0, h1, _⟩ := h
  intro n hn
  simp only [wDb, List.mem_cons, List.mem_append, List.not_mem_nil, or_false, false_or] at hn
  rcases hn with hn | hn
  · exact okw_Cat _ h0 n hn
  · exact okw_RowsS _ h1 n hn
theorem fit_Db (ls : List Lf) (h : Fit ti ck 76 ls) : ∃ x : GDb, ls = eDb x ∧ okDb x := by
  obtain ⟨c0, r0, rfl, h0, g0⟩ := All2.cons_inv h
  obtain ⟨a0, rfl, b0, b0'⟩ := h0.list eTable okTable fit_Table
  obtain ⟨c1, r1, rfl, h1, g1⟩ := All2.cons_inv g0
  obtain ⟨a1, rfl, b1, b1'⟩ := h1.list eRows okRows fit_Rows
  obtain rfl := All2.nil_inv g1
  exact ⟨⟨⟨a0⟩, a1⟩, rfl, ⟨⟨⟨b0, b0'⟩, trivial⟩, ⟨b1, b1'⟩, trivial⟩⟩
def mDb (x : GDb) : ML := [(.o 32 (fun _ => [.s, .o 102 (fun _ => [.s, .s, .s, .s, .s, .s, .s]), .o 9 (fun _ => [.s])]), .ls [.sc (.string ⟨#[]⟩), .ls [.sc (.string ⟨#[]⟩), .sc (.int .i64 0), .sc (.bool false), .sc (.bool false), .sc (.int .i64 0), .sc (.int .i64 0), .sc (.string ⟨#[]⟩)] [], .ls [.sc (.string ⟨#[]⟩)] []] (x.fCat.fTables.map eTable)), (.o 159 (fun _ => [.o 50 (fun _ => [.o 100 (fun _ => [.s, .s, .s])])]), .ls [.ls [.ls [.sc (.int .i64 0), .sc (.int .i64 0), .sc (.string ⟨#[]⟩)] []] []] (x.fData.map eRows))]
set_option maxHeartbeats 1000000 in
set_option maxRecDepth 8000 in
theorem szDb_ok (x : GDb) (left : Int) (h0 : 0 ≤ left) (h1 : left ≤ 1048576) (hs : ∀ n ∈ wDb x, okM n) : VC Try.prog 67 [vDb x, int .i64 left] [(false, [(.s, .sc (.int .i64 (szL (wDb x) left)))])] := by
  refine vc_of_ew good hm [0,1,2,4,10,16] Try.func67 rfl (by kernel_rfl) (by kernel_rfl) rfl ?_
  simp [Try.f67, vDb]
  refine .of (szCat_ok x.fCat left (by omega) (by omega) (fun n hn => hs n (by simp [wDb, hn]))) ?_
  simp
  have hb0 := szL_le' (l := wCat x.fCat) (left := left) (by omega)
  have hc0 := szL_neg (wCat x.fCat) left (by omega)
  refine ⟨fun hn => ?_, fun hk0 => ?_⟩
  · have e : szL (wDb x) left = -1 := by rw [wDb, szL_app _ _ _ h0, if_pos (by omega)]
    rw [e]
    try omega
  have hq0 : ¬ (szL (wCat x.fCat) left) < 0 := by omega
  have hz0 : 0 ≤ (szL (wCat x.fCat) left) := by omega
  refine .of (szRowsS_ok x.fData (szL (wCat x.fCat) left) (by omega) (by omega) (fun n hn => hs n (by simp [wDb, hn]))) ?_
  simp
  have hb1 := szL_le' (l := wRowsS x.fData) (left := (szL (wCat x.fCat) left)) (by omega)
  have hc1 := szL_neg (wRowsS x.fData) (szL (wCat x.fCat) left) (by omega)
  by_cases hn : (szL (wRowsS x.fData) (szL (wCat x.fCat) left)) < 0
  · have e : szL (wDb x) left = -1 := by rw [wDb, szL_app _ _ _ h0, if_neg hq0, szL_app _ _ _ hz0, if_pos hn]
    rw [e]
    try omega
  · have e : szL (wDb x) left = (szL (wRowsS x.fData) (szL (wCat x.fCat) left)) := by rw [wDb, szL_app _ _ _ h0, if_neg hq0, szL_app _ _ _ hz0, if_neg hn]; rfl
    rw [e]
    try omega
set_option maxHeartbeats 1000000 in
set_option maxRecDepth 8000 in
theorem toDb_ok (x : GDb) (hs : ∀ n ∈ wDb x, n ≤ 1048576) : VC Try.prog 69 [vDb x] [(true, mDb x)] := by
  refine vc_of_ew good hm [0,1,2,3] Try.func69 rfl (by kernel_rfl) (by kernel_rfl) rfl ?_
  simp [Try.f69, vDb, mDb]
  refine .of (toCat_ok x.fCat (fun n hn => hs n (by simp [wDb, hn]))) ?_
  simp [mCat]
  refine .of (toRowsS_ok x.fData (fun n hn => hs n (by simp [wDb, hn]))) ?_
  simp [mRowsS]
set_option maxHeartbeats 1000000 in
set_option maxRecDepth 8000 in
theorem eqDb_ok (x : GDb) (hs : ∀ n ∈ wDb x, n ≤ 1048576) : VC Try.prog 71 [vDb x, vDb x] [(false, [(.s, .sc (.bool true))])] := by
  refine vc_of_ew good hm [0,1,2,3,4,10,16] Try.func71 rfl (by kernel_rfl) (by kernel_rfl) rfl ?_
  simp [Try.f71, vDb]
  refine .of (eqCat_ok x.fCat (fun n hn => hs n (by simp [wDb, hn]))) ?_
  simp
  refine .of (eqRowsS_ok x.fData (fun n hn => hs n (by simp [wDb, hn]))) ?_
  simp

/-! ### Fol -/
structure GFol where
  fDb : GDb
  fAt : Int
  fHalt : Int
def eFol (x : GFol) : List Lf := [.ls [.sc (.string ⟨#[]⟩), .ls [.sc (.string ⟨#[]⟩), .sc (.int .i64 0), .sc (.bool false), .sc (.bool false), .sc (.int .i64 0), .sc (.int .i64 0), .sc (.string ⟨#[]⟩)] [], .ls [.sc (.string ⟨#[]⟩)] []] (x.fDb.fCat.fTables.map eTable), .ls [.ls [.ls [.sc (.int .i64 0), .sc (.int .i64 0), .sc (.string ⟨#[]⟩)] []] []] (x.fDb.fData.map eRows), .sc (.int .i64 x.fAt), .sc (.int .i64 x.fHalt)]
def cFol (x : GFol) : List LV := [.s (.ls [.sc (.string ⟨#[]⟩), .ls [.sc (.string ⟨#[]⟩), .sc (.int .i64 0), .sc (.bool false), .sc (.bool false), .sc (.int .i64 0), .sc (.int .i64 0), .sc (.string ⟨#[]⟩)] [], .ls [.sc (.string ⟨#[]⟩)] []] (x.fDb.fCat.fTables.map eTable)), .s (.ls [.ls [.ls [.sc (.int .i64 0), .sc (.int .i64 0), .sc (.string ⟨#[]⟩)] []] []] (x.fDb.fData.map eRows)), .s (.sc (.int .i64 x.fAt)), .s (.sc (.int .i64 x.fHalt))]
def vFol (x : GFol) : SV := .v true [.s (.ls [.sc (.string ⟨#[]⟩), .ls [.sc (.string ⟨#[]⟩), .sc (.int .i64 0), .sc (.bool false), .sc (.bool false), .sc (.int .i64 0), .sc (.int .i64 0), .sc (.string ⟨#[]⟩)] [], .ls [.sc (.string ⟨#[]⟩)] []] (x.fDb.fCat.fTables.map eTable)), .s (.ls [.ls [.ls [.sc (.int .i64 0), .sc (.int .i64 0), .sc (.string ⟨#[]⟩)] []] []] (x.fDb.fData.map eRows)), .s (.sc (.int .i64 x.fAt)), .s (.sc (.int .i64 x.fHalt))]
def dFol : GFol := ⟨⟨⟨[]⟩, []⟩, 0, 0⟩
@[simp] theorem row_Fol (l : List GFol) (i : Nat) : (Option.map eFol l[i]?).getD [.ls [.sc (.string ⟨#[]⟩), .ls [.sc (.string ⟨#[]⟩), .sc (.int .i64 0), .sc (.bool false), .sc (.bool false), .sc (.int .i64 0), .sc (.int .i64 0), .sc (.string ⟨#[]⟩)] [], .ls [.sc (.string ⟨#[]⟩)] []] [], .ls [.ls [.ls [.sc (.int .i64 0), .sc (.int .i64 0), .sc (.string ⟨#[]⟩)] []] []] [], .sc (.int .i64 0), .sc (.int .i64 0)] = eFol (l[i]?.getD dFol) := by cases l[i]? <;> rfl
def wFol (x : GFol) : List Nat := wDb x.fDb ++ ([])
def okFol (x : GFol) : Prop := okDb x.fDb ∧ okI x.fAt ∧ okI x.fHalt ∧ True
theorem okw_Fol (x : GFol) (h : okFol x) : ∀ n ∈ wFol x, okM n := by
  obtain ⟨h0, h1, h2, _⟩ := h
  intro n hn
  simp only [wFol, List.mem_cons, List.mem_append, List.not_mem_nil, or_false, false_or] at hn
  rcases hn with hn
  · exact okw_Db _ h0 n hn
theorem fit_Fol (ls : List Lf) (h : Fit ti ck 78 ls) : ∃ x : GFol, ls = eFol x ∧ okFol x := by
  obtain ⟨c0, r0, rfl, h0, g0⟩ := All2.cons_inv h
  obtain ⟨a0, rfl, b0, b0'⟩ := h0.list eTable okTable fit_Table
  obtain ⟨c1, r1, rfl, h1, g1⟩ := All2.cons_inv g0
  obtain ⟨a1, rfl, b1, b1'⟩ := h1.list eRows okRows fit_Rows
  obtain ⟨c2, r2, rfl, h2, g2⟩ := All2.cons_inv g1
  obtain ⟨a2, rfl, b2⟩ := h2.int_inv
  obtain ⟨c3, r3, rfl, h3, g3⟩ := All2.cons_inv g2
  obtain ⟨a3, rfl, b3⟩ := h3.int_inv
  obtain rfl := All2.nil_inv g3
  exact ⟨⟨⟨⟨a0⟩, a1⟩, a2, a3⟩, rfl, ⟨⟨⟨⟨b0, b0'⟩, trivial⟩, ⟨b1, b1'⟩, trivial⟩, okI_wf b2, okI_wf b3, trivial⟩⟩
def mFol (x : GFol) : ML := [(.o 32 (fun _ => [.s, .o 102 (fun _ => [.s, .s, .s, .s, .s, .s, .s]), .o 9 (fun _ => [.s])]), .ls [.sc (.string ⟨#[]⟩), .ls [.sc (.string ⟨#[]⟩), .sc (.int .i64 0), .sc (.bool false), .sc (.bool false), .sc (.int .i64 0), .sc (.int .i64 0), .sc (.string ⟨#[]⟩)] [], .ls [.sc (.string ⟨#[]⟩)] []] (x.fDb.fCat.fTables.map eTable)), (.o 159 (fun _ => [.o 50 (fun _ => [.o 100 (fun _ => [.s, .s, .s])])]), .ls [.ls [.ls [.sc (.int .i64 0), .sc (.int .i64 0), .sc (.string ⟨#[]⟩)] []] []] (x.fDb.fData.map eRows)), (.s, .sc (.int .i64 x.fAt)), (.s, .sc (.int .i64 x.fHalt))]
set_option maxHeartbeats 1000000 in
set_option maxRecDepth 8000 in
theorem szFol_ok (x : GFol) (left : Int) (h0 : 0 ≤ left) (h1 : left ≤ 1048576) (hs : ∀ n ∈ wFol x, okM n) : VC Try.prog 28 [vFol x, int .i64 left] [(false, [(.s, .sc (.int .i64 (szL (wFol x) left)))])] := by
  refine vc_of_ew good hm [0,1,2,4,10] Try.func28 rfl (by kernel_rfl) (by kernel_rfl) rfl ?_
  simp [Try.f28, vFol]
  refine .of (szDb_ok x.fDb left (by omega) (by omega) (fun n hn => hs n (by simp [wFol, hn]))) ?_
  simp
  have hb0 := szL_le' (l := wDb x.fDb) (left := left) (by omega)
  have hc0 := szL_neg (wDb x.fDb) left (by omega)
  by_cases hn : (szL (wDb x.fDb) left) < 0
  · have e : szL (wFol x) left = -1 := by rw [wFol, szL_app _ _ _ h0, if_pos hn]
    rw [e]
    try omega
  · have e : szL (wFol x) left = (szL (wDb x.fDb) left) := by rw [wFol, szL_app _ _ _ h0, if_neg hn]; rfl
    rw [e]
    try omega
set_option maxHeartbeats 1000000 in
set_option maxRecDepth 8000 in
theorem toFol_ok (x : GFol) (hs : ∀ n ∈ wFol x, n ≤ 1048576) : VC Try.prog 30 [vFol x] [(true, mFol x)] := by
  refine vc_of_ew good hm [0,1,2,3] Try.func30 rfl (by kernel_rfl) (by kernel_rfl) rfl ?_
  simp [Try.f30, vFol, mFol]
  refine .of (toDb_ok x.fDb (fun n hn => hs n (by simp [wFol, hn]))) ?_
  simp [mDb]
set_option maxHeartbeats 1000000 in
set_option maxRecDepth 8000 in
theorem eqFol_ok (x : GFol) (hs : ∀ n ∈ wFol x, n ≤ 1048576) : VC Try.prog 32 [vFol x, vFol x] [(false, [(.s, .sc (.bool true))])] := by
  refine vc_of_ew good hm [0,1,2,3,4,10,15,20] Try.func32 rfl (by kernel_rfl) (by kernel_rfl) rfl ?_
  simp [Try.f32, vFol]
  refine .of (eqDb_ok x.fDb (fun n hn => hs n (by simp [wFol, hn]))) ?_
  simp

/-! ### Rec -/
structure GRec where
  fKind : Int
  fXid : Int
  fStmt : GStmt
def eRec (x : GRec) : List Lf := [.sc (.int .i64 x.fKind), .sc (.int .i64 x.fXid), .sc (.int .i64 x.fStmt.fKind), .sc (.string x.fStmt.fTable), .ls [.sc (.int .i64 0), .sc (.int .i64 0), .sc (.string ⟨#[]⟩)] (x.fStmt.fKey.map eVal), .ls [.sc (.int .i64 0), .sc (.int .i64 0), .sc (.string ⟨#[]⟩)] (x.fStmt.fRow.fVals.map eVal), .sc (.int .i64 x.fStmt.fDdl.fKind), .sc (.string x.fStmt.fDdl.fTable), .ls [.sc (.string ⟨#[]⟩), .sc (.int .i64 0), .sc (.bool false), .sc (.bool false), .sc (.int .i64 0), .sc (.int .i64 0), .sc (.string ⟨#[]⟩)] (x.fStmt.fDdl.fCols.map eCol), .ls [.sc (.string ⟨#[]⟩)] (x.fStmt.fDdl.fKeys.map eStr), .sc (.string x.fStmt.fDdl.fName), .sc (.string x.fStmt.fDdl.fTo)]
def cRec (x : GRec) : List LV := [.s (.sc (.int .i64 x.fKind)), .s (.sc (.int .i64 x.fXid)), .s (.sc (.int .i64 x.fStmt.fKind)), .s (.sc (.string x.fStmt.fTable)), .s (.ls [.sc (.int .i64 0), .sc (.int .i64 0), .sc (.string ⟨#[]⟩)] (x.fStmt.fKey.map eVal)), .s (.ls [.sc (.int .i64 0), .sc (.int .i64 0), .sc (.string ⟨#[]⟩)] (x.fStmt.fRow.fVals.map eVal)), .s (.sc (.int .i64 x.fStmt.fDdl.fKind)), .s (.sc (.string x.fStmt.fDdl.fTable)), .s (.ls [.sc (.string ⟨#[]⟩), .sc (.int .i64 0), .sc (.bool false), .sc (.bool false), .sc (.int .i64 0), .sc (.int .i64 0), .sc (.string ⟨#[]⟩)] (x.fStmt.fDdl.fCols.map eCol)), .s (.ls [.sc (.string ⟨#[]⟩)] (x.fStmt.fDdl.fKeys.map eStr)), .s (.sc (.string x.fStmt.fDdl.fName)), .s (.sc (.string x.fStmt.fDdl.fTo))]
def vRec (x : GRec) : SV := .v true [.s (.sc (.int .i64 x.fKind)), .s (.sc (.int .i64 x.fXid)), .s (.sc (.int .i64 x.fStmt.fKind)), .s (.sc (.string x.fStmt.fTable)), .s (.ls [.sc (.int .i64 0), .sc (.int .i64 0), .sc (.string ⟨#[]⟩)] (x.fStmt.fKey.map eVal)), .s (.ls [.sc (.int .i64 0), .sc (.int .i64 0), .sc (.string ⟨#[]⟩)] (x.fStmt.fRow.fVals.map eVal)), .s (.sc (.int .i64 x.fStmt.fDdl.fKind)), .s (.sc (.string x.fStmt.fDdl.fTable)), .s (.ls [.sc (.string ⟨#[]⟩), .sc (.int .i64 0), .sc (.bool false), .sc (.bool false), .sc (.int .i64 0), .sc (.int .i64 0), .sc (.string ⟨#[]⟩)] (x.fStmt.fDdl.fCols.map eCol)), .s (.ls [.sc (.string ⟨#[]⟩)] (x.fStmt.fDdl.fKeys.map eStr)), .s (.sc (.string x.fStmt.fDdl.fName)), .s (.sc (.string x.fStmt.fDdl.fTo))]
def dRec : GRec := ⟨0, 0, ⟨0, ⟨#[]⟩, [], ⟨[]⟩, ⟨0, ⟨#[]⟩, [], [], ⟨#[]⟩, ⟨#[]⟩⟩⟩⟩
@[simp] theorem row_Rec (l : List GRec) (i : Nat) : (Option.map eRec l[i]?).getD [.sc (.int .i64 0), .sc (.int .i64 0), .sc (.int .i64 0), .sc (.string ⟨#[]⟩), .ls [.sc (.int .i64 0), .sc (.int .i64 0), .sc (.string ⟨#[]⟩)] [], .ls [.sc (.int .i64 0), .sc (.int .i64 0), .sc (.string ⟨#[]⟩)] [], .sc (.int .i64 0), .sc (.string ⟨#[]⟩), .ls [.sc (.string ⟨#[]⟩), .sc (.int .i64 0), .sc (.bool false), .sc (.bool false), .sc (.int .i64 0), .sc (.int .i64 0), .sc (.string ⟨#[]⟩)] [], .ls [.sc (.string ⟨#[]⟩)] [], .sc (.string ⟨#[]⟩), .sc (.string ⟨#[]⟩)] = eRec (l[i]?.getD dRec) := by cases l[i]? <;> rfl
def wRec (x : GRec) : List Nat := wStmt x.fStmt ++ ([])
def okRec (x : GRec) : Prop := okI x.fKind ∧ okI x.fXid ∧ okStmt x.fStmt ∧ True
theorem okw_Rec (x : GRec) (h : okRec x) : ∀ n ∈ wRec x, okM n := by
  obtain ⟨h0, h1, h2, _⟩ := h
  intro n hn
  simp only [wRec, List.mem_cons, List.mem_append, List.not_mem_nil, or_false, false_or] at hn
  rcases hn with hn
  · exact okw_Stmt _ h2 n hn
theorem fit_Rec (ls : List Lf) (h : Fit ti ck 45 ls) : ∃ x : GRec, ls = eRec x ∧ okRec x := by
  obtain ⟨c0, r0, rfl, h0, g0⟩ := All2.cons_inv h
  obtain ⟨a0, rfl, b0⟩ := h0.int_inv
  obtain ⟨c1, r1, rfl, h1, g1⟩ := All2.cons_inv g0
  obtain ⟨a1, rfl, b1⟩ := h1.int_inv
  obtain ⟨c2, r2, rfl, h2, g2⟩ := All2.cons_inv g1
  obtain ⟨a2, rfl, b2⟩ := h2.int_inv
  obtain ⟨c3, r3, rfl, h3, g3⟩ := All2.cons_inv g2
  obtain ⟨a3, rfl, b3⟩ := h3.str_inv
  obtain ⟨c4, r4, rfl, h4, g4⟩ := All2.cons_inv g3
  obtain ⟨a4, rfl, b4, b4'⟩ := h4.list eVal okVal fit_Val
  obtain ⟨c5, r5, rfl, h5, g5⟩ := All2.cons_inv g4
  obtain ⟨a5, rfl, b5, b5'⟩ := h5.list eVal okVal fit_Val
  obtain ⟨c6, r6, rfl, h6, g6⟩ := All2.cons_inv g5
  obtain ⟨a6, rfl, b6⟩ := h6.int_inv
  obtain ⟨c7, r7, rfl, h7, g7⟩ := All2.cons_inv g6
  obtain ⟨a7, rfl, b7⟩ := h7.str_inv
  obtain ⟨c8, r8, rfl, h8, g8⟩ := All2.cons_inv g7
  obtain ⟨a8, rfl, b8, b8'⟩ := h8.list eCol okCol fit_Col
  obtain ⟨c9, r9, rfl, h9, g9⟩ := All2.cons_inv g8
  obtain ⟨a9, rfl, b9, b9'⟩ := h9.list eStr okStr fit_Str
  obtain ⟨c10, r10, rfl, h10, g10⟩ := All2.cons_inv g9
  obtain ⟨a10, rfl, b10⟩ := h10.str_inv
  obtain ⟨c11, r11, rfl, h11, g11⟩ := All2.cons_inv g10
  obtain ⟨a11, rfl, b11⟩ := h11.str_inv
  obtain rfl := All2.nil_inv g11
  exact ⟨⟨a0, a1, ⟨a2, a3, a4, ⟨a5⟩, ⟨a6, a7, a8, a9, a10, a11⟩⟩⟩, rfl, ⟨okI_wf b0, okI_wf b1, ⟨okI_wf b2, b3, ⟨b4, b4'⟩, ⟨⟨b5, b5'⟩, trivial⟩, ⟨okI_wf b6, b7, ⟨b8, b8'⟩, ⟨b9, b9'⟩, b10, b11, trivial⟩, trivial⟩, trivial⟩⟩
def mRec (x : GRec) : ML := [(.s, .sc (.int .i64 x.fKind)), (.s, .sc (.int .i64 x.fXid)), (.s, .sc (.int .i64 x.fStmt.fKind)), (.s, .sc (.string x.fStmt.fTable)), (.o 100 (fun _ => [.s, .s, .s]), .ls [.sc (.int .i64 0), .sc (.int .i64 0), .sc (.string ⟨#[]⟩)] (x.fStmt.fKey.map eVal)), (.o 100 (fun _ => [.s, .s, .s]), .ls [.sc (.int .i64 0), .sc (.int .i64 0), .sc (.string ⟨#[]⟩)] (x.fStmt.fRow.fVals.map eVal)), (.s, .sc (.int .i64 x.fStmt.fDdl.fKind)), (.s, .sc (.string x.fStmt.fDdl.fTable)), (.o 102 (fun _ => [.s, .s, .s, .s, .s, .s, .s]), .ls [.sc (.string ⟨#[]⟩), .sc (.int .i64 0), .sc (.bool false), .sc (.bool false), .sc (.int .i64 0), .sc (.int .i64 0), .sc (.string ⟨#[]⟩)] (x.fStmt.fDdl.fCols.map eCol)), (.o 9 (fun _ => [.s]), .ls [.sc (.string ⟨#[]⟩)] (x.fStmt.fDdl.fKeys.map eStr)), (.s, .sc (.string x.fStmt.fDdl.fName)), (.s, .sc (.string x.fStmt.fDdl.fTo))]
set_option maxHeartbeats 1000000 in
set_option maxRecDepth 8000 in
theorem szRec_ok (x : GRec) (left : Int) (h0 : 0 ≤ left) (h1 : left ≤ 1048576) (hs : ∀ n ∈ wRec x, okM n) : VC Try.prog 18 [vRec x, int .i64 left] [(false, [(.s, .sc (.int .i64 (szL (wRec x) left)))])] := by
  refine vc_of_ew good hm [0,1,2,4,10] Try.func18 rfl (by kernel_rfl) (by kernel_rfl) rfl ?_
  simp [Try.f18, vRec]
  refine .of (szStmt_ok x.fStmt left (by omega) (by omega) (fun n hn => hs n (by simp [wRec, hn]))) ?_
  simp
  have hb0 := szL_le' (l := wStmt x.fStmt) (left := left) (by omega)
  have hc0 := szL_neg (wStmt x.fStmt) left (by omega)
  by_cases hn : (szL (wStmt x.fStmt) left) < 0
  · have e : szL (wRec x) left = -1 := by rw [wRec, szL_app _ _ _ h0, if_pos hn]
    rw [e]
    try omega
  · have e : szL (wRec x) left = (szL (wStmt x.fStmt) left) := by rw [wRec, szL_app _ _ _ h0, if_neg hn]; rfl
    rw [e]
    try omega
set_option maxHeartbeats 1000000 in
set_option maxRecDepth 8000 in
theorem toRec_ok (x : GRec) (hs : ∀ n ∈ wRec x, n ≤ 1048576) : VC Try.prog 20 [vRec x] [(true, mRec x)] := by
  refine vc_of_ew good hm [0,1,2,3] Try.func20 rfl (by kernel_rfl) (by kernel_rfl) rfl ?_
  simp [Try.f20, vRec, mRec]
  refine .of (toStmt_ok x.fStmt (fun n hn => hs n (by simp [wRec, hn]))) ?_
  simp [mStmt]
set_option maxHeartbeats 1000000 in
set_option maxRecDepth 8000 in
theorem eqRec_ok (x : GRec) (hs : ∀ n ∈ wRec x, n ≤ 1048576) : VC Try.prog 22 [vRec x, vRec x] [(false, [(.s, .sc (.bool true))])] := by
  refine vc_of_ew good hm [0,1,2,3,4,9,14,20] Try.func22 rfl (by kernel_rfl) (by kernel_rfl) rfl ?_
  simp [Try.f22, vRec]
  refine .of (eqStmt_ok x.fStmt (fun n hn => hs n (by simp [wRec, hn]))) ?_
  simp
end Go.Proofs.Ytkciklpdhhcblaa
