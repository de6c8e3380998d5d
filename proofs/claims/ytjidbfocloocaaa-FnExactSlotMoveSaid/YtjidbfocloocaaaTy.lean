/- The types of the seat Ytjidbfocloocaaa and the contracts of the laws' own functions over them; printed by gen_ty.py. -/
import Derived.Test.YtjidbfocloocaaaTi
import Derived.Test.YtjidbfocloocaaaSm22
namespace Go.Proofs.Ytjidbfocloocaaa
open Go Go.Proofs Go.Sm
attribute [local simp] ti
set_option linter.unusedVariables false
set_option linter.unusedSimpArgs false

set_option maxHeartbeats 1000000 in
set_option maxRecDepth 8000 in
theorem markText_ok (k' : Int) (k : Nat) (hkk : k' = (k : Int)) (hk : k ≤ 4611686018427387904) : VC Try.prog 51 [int .i64 k'] [(false, [(.s, .sc (.string (mtext k)))])] := by
  subst hkk
  refine vc_of_ew good hm [0,2,5,3,7] Try.func51 rfl (by kernel_rfl) (by kernel_rfl) rfl ?_
  simp [Try.f51]
  refine ⟨fun h => by simp [mtext, h], fun h0 => ?_⟩
  refine ew_loop (fun E => ∃ (j f : Nat) (out : ByteArray), j ≤ f ∧ out.size + j ≤ k ∧ dgo f j out = dgo k k ⟨#[]⟩ ∧ E = { nt := 20, sl := [(0, int .i64 j), (3, str out)], bx := [], rt := [] }) (fun E => (E.num 0).toNat) _ (Gh.kb _ [0,3] [] []) ⟨k, k, ⟨#[]⟩, by omega, by simp [ByteArray.size], rfl, by simp⟩ ?_
  rintro E1 ⟨j, f, out, hjf, hsz, hd, rfl⟩
  have q1 : (j : Int).tmod 10 = ((j % 10 : Nat) : Int) := (Int.ofNat_tmod j 10).symm
  have q2 : IntKind.i64.wrap (48 + ((j % 10 : Nat) : Int)) = ((48 + j % 10 : Nat) : Int) := by rw [wrapI (by omega) (by omega)]; omega
  have q3 : (j : Int).tdiv 10 = ((j / 10 : Nat) : Int) := (Int.ofNat_tdiv j 10).symm
  have q4 : IntKind.i64.wrap ((j / 10 : Nat) : Int) = ((j / 10 : Nat) : Int) := wrapI (by omega) (by omega)
  have q5 := wrapU8 (48 + j % 10)
  obtain ⟨b, hb⟩ : ∃ b : UInt8, b = UInt8.ofNat (48 + j % 10) := ⟨_, rfl⟩
  rw [← hb] at q5
  simp only [Int.natCast_add, Int.natCast_emod, Int.natCast_ediv, Int.cast_ofNat_Int] at q1 q2 q3 q4 q5
  simp [q1, q2, q3, q4, q5, md]
  have hba : ∀ s : ByteArray, (⟨#[b]⟩ ++ s : ByteArray).size = 1 + s.size := fun s => by rw [ByteArray.size_append]; rfl
  refine ⟨fun hj => ?_, fun hj => ?_⟩
  · obtain ⟨f', rfl⟩ : ∃ f', f = f' + 1 := ⟨f - 1, by omega⟩
    rw [dgo, if_neg (by omega), ← hb] at hd
    refine ⟨by have h1 : (⟨#[b]⟩ : ByteArray).size = 1 := rfl; omega, .of _ (Gh.kb _ [0,3] [] []) ⟨j / 10, f', by omega, _, ?_, hd, by simp⟩ (by simp; omega)⟩
    rw [hba]; omega
  · subst hj
    have : dgo f 0 out = out := by cases f <;> simp [dgo]
    rw [this] at hd
    subst hd
    exact ⟨by have h1 : (⟨#[109]⟩ : ByteArray).size = 1 := rfl; omega, by simp [mtext, h0]⟩
def okByte (_ : UInt8) : Prop := True
theorem fit_Byte (ls : List Lf) (h : Fit ti ck 5 ls) : ∃ x : UInt8, ls = eByte x ∧ okByte x := by
  obtain ⟨x, r, rfl, h1, h2⟩ := All2.cons_inv h
  obtain rfl := All2.nil_inv h2
  obtain ⟨s, rfl, hs⟩ := h1.int_inv
  obtain ⟨b, rfl⟩ := okU_wf hs
  exact ⟨b, rfl, trivial⟩

/-! ### []byte -/
abbrev GByteS := List UInt8
def eByteS (l : List UInt8) : List Lf := [.ls [.sc (.int .u8 0)] (l.map eByte)]
def vByteS (l : List UInt8) : SV := list [.sc (.int .u8 0)] (l.map eByte)
@[simp] theorem row_ByteS (l : List (List UInt8)) (i : Nat) : (Option.map eByteS l[i]?).getD [.ls [.sc (.int .u8 0)] []] = eByteS (l[i]?.getD []) := by cases l[i]? <;> rfl
def wByteS (l : List UInt8) : List Nat := l.length :: []
def okByteS (l : List UInt8) : Prop := okM l.length ∧ ∀ a ∈ l, okByte a
theorem okw_ByteS (l : List UInt8) (h : okByteS l) : ∀ n ∈ wByteS l, okM n := by
  intro n hn
  rcases List.mem_singleton.1 hn with rfl
  exact h.1
theorem fit_ByteS (ls : List Lf) (h : Fit ti ck 31 ls) : ∃ x : List UInt8, ls = eByteS x ∧ okByteS x := by
  obtain ⟨x, r, rfl, h1, h2⟩ := All2.cons_inv h
  obtain rfl := All2.nil_inv h2
  obtain ⟨l, rfl, hl, hs⟩ := h1.list eByte okByte fit_Byte
  exact ⟨l, rfl, hl, hs⟩
def mByteS (x : List UInt8) : ML := [(.o 5 (fun _ => [.s]), .ls [.sc (.int .u8 0)] (x.map eByte))]
@[simp] theorem ow_ByteS (l : List UInt8) : Ow (.o 5 (fun _ => [.s])) (.ls [.sc (.int .u8 0)] (l.map eByte)) = True := eq_true (Ow_rows (fun x j hj => match j, hj with | 0, _ => .sc | n + 1, hj => absurd hj (by simp)) l)
@[simp] theorem full_ByteS (l : List UInt8) : Full (.o 5 (fun _ => [.s])) (.ls [.sc (.int .u8 0)] (l.map eByte)) = True := eq_true (Full_rows (fun x j hj => match j, hj with | 0, _ => .s | n + 1, hj => absurd hj (by simp)) l)
set_option maxHeartbeats 1000000 in
set_option maxRecDepth 8000 in
theorem szByteS_ok (x : List UInt8) (left : Int) (h0 : 0 ≤ left) (h1 : left ≤ 1048576) (hs : ∀ n ∈ wByteS x, okM n) : VC Try.prog 38 [vByteS x, int .i64 left] [(false, [(.s, .sc (.int .i64 (szL (wByteS x) left)))])] := by
  refine vc_of_ew good hm [0,1,4,10] Try.func38 rfl (by kernel_rfl) (by kernel_rfl) rfl ?_
  have hl : x.length ≤ 9223372036854775807 := hs _ (by simp [wByteS])
  simp [Try.f38, vByteS]
  rw [wrapI (i := left - x.length) (by omega) (by omega)]
  simp [wByteS, szL]
  try omega
  try exact ⟨fun h => by simp [h], fun h => by simp [Int.not_lt.2 h]⟩
set_option maxHeartbeats 1000000 in
set_option maxRecDepth 8000 in
theorem toByteS_ok (x : List UInt8) (hs : ∀ n ∈ wByteS x, n ≤ 1048576) : VC Try.prog 39 [vByteS x] [(false, mByteS x)] := by
  refine vc_of_ew good hm [0,2,3,4,11] Try.func39 rfl (by kernel_rfl) (by kernel_rfl) rfl ?_
  have hl : x.length ≤ 1048576 := hs _ (by simp [wByteS])
  simp [Try.f39, vByteS, mByteS]
  refine ⟨by omega, ?_⟩
  refine ew_loop (fun E => ∃ i : Nat, i ≤ x.length ∧ E = { nt := 22, sl := [(0, vByteS x), (3, .v false [.r [7]]), (4, int .i64 i)], bx := [], rt := [(7, .o 5 (fun _ => [.s]), .ls [.sc (.int .u8 0)] (fillR [.sc (.int .u8 0)] (x.map eByte) i))] }) (fun E => x.length - (E.num 4).toNat) _ (Gh.keep _ [0,3,4]) ⟨0, by omega, by simp [vByteS, fillR]⟩ ?_
  rintro E1 ⟨i, hi, rfl⟩
  have hfl : (fillR [.sc (.int .u8 0)] (x.map eByte) i).length = x.length := by rw [fillR_len _ _ (by simpa using hi)]; simp
  simp [vByteS, eByte] at hfl ⊢
  try simp [hfl]
  refine ⟨fun h => ?_, fun h => fillR_all _ _ (by simpa using h)⟩
  simp [eByte, hfl, h]
  refine .of _ (Gh.keep _ [0,3,4]) ⟨i + 1, by omega, ?_⟩ ?_
  · have := fillR_set [.sc (.int .u8 0)] (x.map eByte) (i := i) (by simpa using h)
    simp [wrapS (show i < 9223372036854775807 by omega), vByteS, eByte, h] at this ⊢
    rw [← this]
  · simp [wrapS (show i < 9223372036854775807 by omega)]; omega
set_option maxHeartbeats 1000000 in
set_option maxRecDepth 8000 in
theorem eqByteS_ok (x : List UInt8) (hs : ∀ n ∈ wByteS x, n ≤ 1048576) : VC Try.prog 40 [vByteS x, vByteS x] [(false, [(.s, .sc (.bool true))])] := by
  refine vc_of_ew good hm [0,1,4,10,5,14,25] Try.func40 rfl (by kernel_rfl) (by kernel_rfl) rfl ?_
  have hl : x.length ≤ 1048576 := hs _ (by simp [wByteS])
  simp [Try.f40, vByteS]
  refine ew_loop (fun E => ∃ i : Nat, i ≤ x.length ∧ E = { nt := 26, sl := [(0, vByteS x), (1, vByteS x), (5, int .i64 i)], bx := [], rt := [] }) (fun E => x.length - (E.num 5).toNat) _ (Gh.keep _ [0,1,5]) ⟨0, by omega, by simp [vByteS]⟩ ?_
  rintro E1 ⟨i, hi, rfl⟩
  simp [vByteS, eByte]
  intro h
  simp [eByte, h]
  refine .of _ (Gh.keep _ [0,1,5]) ⟨i + 1, by omega, ?_⟩ ?_
  · simp [wrapS (show i < 9223372036854775807 by omega), vByteS]
  · simp [wrapS (show i < 9223372036854775807 by omega)]; omega
def ctByteS (l : List UInt8) : Nat := ctRw ctByte l
def mkByteS (k : Nat) (l : List UInt8) : List UInt8 := mkRw mkByte ctByte k l
theorem ctle_ByteS (l : List UInt8) : ctByteS l ≤ 64 * (wByteS l).sum := by
  have := ctRw_one ctByte l (fun x _ => by simp [ctByte])
  simp only [wByteS, List.sum_cons, List.sum_nil]
  exact this
set_option maxHeartbeats 1000000 in
set_option maxRecDepth 8000 in
theorem markByteS_ok (x : List UInt8) (k : Nat) (k' : Int) (hkk' : k' = (k : Int)) (hk : k + ctByteS x ≤ 4611686018427387904) (hs : ∀ n ∈ wByteS x, n ≤ 4611686018427387904) : VM Try.prog 41 [.v false [.r [900]], int .i64 k'] [(.o 5 (fun _ => [.s]), .ls [.sc (.int .u8 0)] (x.map eByte), .ls [.sc (.int .u8 0)] ((mkByteS k x).map eByte))] ((k : Int) + (ctByteS x : Int)) := by
  subst hkk'
  have hl : x.length ≤ 4611686018427387904 := hs _ (by simp [wByteS])
  refine vm_of_ew good hm [0,1,4,5,9,5000] Try.func41 rfl (by kernel_rfl) (by kernel_rfl) rfl fun pv => ?_
  simp [Try.f41]
  refine ew_loop (fun E => ∃ (i K : Nat) (M : List (UInt8)), i ≤ x.length ∧ K = k + ctRw ctByte (x.take i) ∧ M = mixR mkByte ctByte k x i ∧ E = { nt := 20, sl := [(0, .v false [.r [900]]), (1, int .i64 (K : Int)), (5, int .i64 i), (5000, .pin 900 (pv 900))], bx := [], rt := [(900, .o 5 (fun _ => [.s]), .ls [.sc (.int .u8 0)] (M.map eByte))] }) (fun E => x.length - (E.num 5).toNat) _ (Gh.kb _ [0,1,5,5000] [] [900]) ⟨0, k, x, by omega, by simp [ctRw], by simp [mixR_zero], by simp⟩ ?_
  rintro E1 ⟨i, K, M, hi, hK, hM, rfl⟩
  have hfl : M.length = x.length := by rw [hM]; exact mixR_len mkByte ctByte k x i
  have hct := ctRw_le ctByte x i
  simp only [ctByteS] at hk
  simp [hfl]
  refine ⟨fun h => ?_, fun h => ?_⟩
  · have hg : M[i]? = x[i]? := by rw [hM]; exact mixR_get mkByte ctByte k x i h
    have hst := mixR_set mkByte ctByte k x i (0) h
    have hc1 := ctRw_lt ctByte (0) h
    have hs1 : ctRw ctByte (x.take (i + 1)) = ctRw ctByte (x.take i) + ctByte (x[i]?.getD (0)) := ctRw_succ ctByte (0) h
    have hxi : x[i]? = some (x[i]?.getD (0)) := by rw [List.getElem?_eq_getElem h]; rfl
    have hy : (x[i]?.getD (0)) ∈ x := getD_mem _ h
    rw [hxi] at hg
    rw [← hK, ← hM] at hst
    generalize (x[i]?.getD (0)) = y at *
    have hg' : ∀ h', M[i]'h' = y := fun h' => by simpa [List.getElem?_eq_getElem h'] using hg
    simp only [ctByte] at hc1 hs1
    have w0 : IntKind.i64.wrap ((K : Int) + 1) = (K : Int) + 1 := (wrapI (by omega) (by omega)).trans (by omega)
    simp [md, lf, hg', hg, h, hfl, eByte, w0]
    have e1 : (k : Int) + (ctRw ctByte (x.take (i + 1)) : Int) = (K : Int) + 1 := by omega
    refine .of _ (Gh.kb _ [0,1,5,5000] [] [900]) ⟨i + 1, by omega, ?_⟩ ?_
    · simp [wrapS (show i < 9223372036854775807 by omega), e1, ← hst, List.map_set, mkByte, eByte, wrapU8]
    · simp [wrapS (show i < 9223372036854775807 by omega)]; omega
  · have : i = x.length := by omega
    subst this
    subst hM
    subst hK
    simp [mixR_all, ctByteS, mkByteS]
set_option maxHeartbeats 1000000 in
set_option maxRecDepth 8000 in
theorem heldByteS_ok (x : List UInt8) (k : Nat) (k' : Int) (hkk' : k' = (k : Int)) (hk : k + ctByteS x ≤ 4611686018427387904) (hs : ∀ n ∈ wByteS x, n ≤ 4611686018427387904) : VC Try.prog 42 [vByteS (mkByteS k x), int .i64 k'] [(false, [(.s, .sc (.int .i64 ((k : Int) + (ctByteS x : Int))))])] := by
  subst hkk'
  have hl : x.length ≤ 4611686018427387904 := hs _ (by simp [wByteS])
  refine vc_of_ew good hm [0,1,4,5,9,18] Try.func42 rfl (by kernel_rfl) (by kernel_rfl) rfl ?_
  simp [Try.f42, vByteS]
  refine ew_loop (fun E => ∃ (i K : Nat), i ≤ x.length ∧ K = k + ctRw ctByte (x.take i) ∧ E = { nt := 22, sl := [(0, vByteS (mkByteS k x)), (1, int .i64 (K : Int)), (5, int .i64 i)], bx := [], rt := [] }) (fun E => x.length - (E.num 5).toNat) _ (Gh.kb _ [0,1,5] [] []) ⟨0, k, by omega, by simp [ctRw], by simp [vByteS]⟩ ?_
  rintro E1 ⟨i, K, hi, hK, rfl⟩
  have hfl : (mkByteS k x).length = x.length := mkRw_len mkByte ctByte k x
  have hct := ctRw_le ctByte x i
  simp only [ctByteS] at hk
  simp [vByteS, hfl]
  refine ⟨fun h => ?_, fun h => ?_⟩
  · have hg : (mkByteS k x)[i]? = some (mkByte (k + ctRw ctByte (x.take i)) (x[i]?.getD (0))) := mkRw_get mkByte ctByte (0) k x i h
    have hc1 := ctRw_lt ctByte (0) h
    have hs1 : ctRw ctByte (x.take (i + 1)) = ctRw ctByte (x.take i) + ctByte (x[i]?.getD (0)) := ctRw_succ ctByte (0) h
    have hy : (x[i]?.getD (0)) ∈ x := getD_mem _ h
    rw [← hK] at hg
    generalize (x[i]?.getD (0)) = y at *
    have hg2 : ∀ hh : i < (mkByteS k x).length, (mkByteS k x)[i] = mkByte K y := fun hh => (List.getElem_eq_iff hh).2 hg
    simp only [ctByte] at hc1 hs1
    have w0 : IntKind.i64.wrap ((K : Int) + 1) = (K : Int) + 1 := (wrapI (by omega) (by omega)).trans (by omega)
    simp [md, lf, hg, hg2, h, hfl, eByte, mkByte, wrapU8, w0]
    have e1 : (k : Int) + (ctRw ctByte (x.take (i + 1)) : Int) = (K : Int) + 1 := by omega
    refine .of _ (Gh.kb _ [0,1,5] [] []) ⟨i + 1, by omega, ?_⟩ ?_
    · simp [wrapS (show i < 9223372036854775807 by omega), e1, vByteS]
    · simp [wrapS (show i < 9223372036854775807 by omega)]; omega
  · have : i = x.length := by omega
    subst this
    subst hK
    simp [ctByteS]

/-! ### Pack -/
structure GPack where
  fBytes : List UInt8
def ePack (x : GPack) : List Lf := [.ls [.sc (.int .u8 0)] (x.fBytes.map eByte)]
def cPack (x : GPack) : List LV := [.s (.ls [.sc (.int .u8 0)] (x.fBytes.map eByte))]
def vPack (x : GPack) : SV := .v true [.s (.ls [.sc (.int .u8 0)] (x.fBytes.map eByte))]
def dPack : GPack := ⟨[]⟩
@[simp] theorem row_Pack (l : List GPack) (i : Nat) : (Option.map ePack l[i]?).getD [.ls [.sc (.int .u8 0)] []] = ePack (l[i]?.getD dPack) := by cases l[i]? <;> rfl
def wPack (x : GPack) : List Nat := wByteS x.fBytes ++ ([])
def okPack (x : GPack) : Prop := okByteS x.fBytes ∧ True
theorem okw_Pack (x : GPack) (h : okPack x) : ∀ n ∈ wPack x, okM n := by
  obtain ⟨h0, _⟩ := h
  intro n hn
  simp only [wPack, List.mem_cons, List.mem_append, List.not_mem_nil, or_false, false_or] at hn
  rcases hn with hn
  · exact okw_ByteS _ h0 n hn
theorem fit_Pack (ls : List Lf) (h : Fit ti ck 33 ls) : ∃ x : GPack, ls = ePack x ∧ okPack x := by
  obtain ⟨c0, r0, rfl, h0, g0⟩ := All2.cons_inv h
  obtain ⟨a0, rfl, b0, b0'⟩ := h0.list eByte okByte fit_Byte
  obtain rfl := All2.nil_inv g0
  exact ⟨⟨a0⟩, rfl, ⟨⟨b0, b0'⟩, trivial⟩⟩
def mPack (x : GPack) : ML := [(.o 5 (fun _ => [.s]), .ls [.sc (.int .u8 0)] (x.fBytes.map eByte))]
set_option maxHeartbeats 1000000 in
set_option maxRecDepth 8000 in
theorem szPack_ok (x : GPack) (left : Int) (h0 : 0 ≤ left) (h1 : left ≤ 1048576) (hs : ∀ n ∈ wPack x, okM n) : VC Try.prog 14 [vPack x, int .i64 left] [(false, [(.s, .sc (.int .i64 (szL (wPack x) left)))])] := by
  refine vc_of_ew good hm [0,1,2,4,10] Try.func14 rfl (by kernel_rfl) (by kernel_rfl) rfl ?_
  simp [Try.f14, vPack]
  refine .of (szByteS_ok x.fBytes left (by omega) (by omega) (fun n hn => hs n (by simp [wPack, hn]))) ?_
  simp
  have hb0 := szL_le' (l := wByteS x.fBytes) (left := left) (by omega)
  have hc0 := szL_neg (wByteS x.fBytes) left (by omega)
  by_cases hn : (szL (wByteS x.fBytes) left) < 0
  · have e : szL (wPack x) left = -1 := by rw [wPack, szL_app _ _ _ h0, if_pos hn]
    rw [e]
    try omega
  · have e : szL (wPack x) left = (szL (wByteS x.fBytes) left) := by rw [wPack, szL_app _ _ _ h0, if_neg hn]; rfl
    rw [e]
    try omega
set_option maxHeartbeats 1000000 in
set_option maxRecDepth 8000 in
theorem toPack_ok (x : GPack) (hs : ∀ n ∈ wPack x, n ≤ 1048576) : VC Try.prog 16 [vPack x] [(true, mPack x)] := by
  refine vc_of_ew good hm [0,1,2,3] Try.func16 rfl (by kernel_rfl) (by kernel_rfl) rfl ?_
  simp [Try.f16, vPack, mPack]
  refine .of (toByteS_ok x.fBytes (fun n hn => hs n (by simp [wPack, hn]))) ?_
  simp [mByteS]
set_option maxHeartbeats 1000000 in
set_option maxRecDepth 8000 in
theorem eqPack_ok (x : GPack) (hs : ∀ n ∈ wPack x, n ≤ 1048576) : VC Try.prog 18 [vPack x, vPack x] [(false, [(.s, .sc (.bool true))])] := by
  refine vc_of_ew good hm [0,1,2,3,4,10] Try.func18 rfl (by kernel_rfl) (by kernel_rfl) rfl ?_
  simp [Try.f18, vPack]
  refine .of (eqByteS_ok x.fBytes (fun n hn => hs n (by simp [wPack, hn]))) ?_
  simp
def cvPack (x : GPack) : Nat := ctByteS x.fBytes
def mvPack (k : Nat) (x : GPack) : GPack := { x with fBytes := mkByteS (k) x.fBytes }
theorem cvle_Pack (x : GPack) : cvPack x ≤ 64 * (wPack x).sum := by
  have := ctle_ByteS x.fBytes
  simp only [cvPack, wPack, List.sum_cons, List.sum_append, List.sum_nil]
  omega
set_option maxHeartbeats 1000000 in
set_option maxRecDepth 8000 in
theorem markVPack_ok (x : GPack) (k : Nat) (k' : Int) (hkk' : k' = (k : Int)) (hk : k + cvPack x ≤ 4611686018427387904) (hs : ∀ n ∈ wPack x, n ≤ 4611686018427387904) : VM Try.prog 19 [.v true [.r [900]], int .i64 k'] [(.o 5 (fun _ => [.s]), .ls [.sc (.int .u8 0)] (x.fBytes.map eByte), .ls [.sc (.int .u8 0)] ((mvPack k x).fBytes.map eByte))] ((k : Int) + (cvPack x : Int)) := by
  subst hkk'
  refine vm_of_ew good hm [0,1,2,4,5000] Try.func19 rfl (by kernel_rfl) (by kernel_rfl) rfl fun pv => ?_
  simp only [cvPack] at hk
  simp [Try.f19, mvPack, cvPack]
  refine .mut (markByteS_ok x.fBytes (k) ((k : Int)) (by omega) (by omega) (fun n hn => hs n (by simp [wPack, hn]))) ?_
  simp [mvPack]
set_option maxHeartbeats 1000000 in
set_option maxRecDepth 8000 in
theorem heldVPack_ok (x : GPack) (k : Nat) (k' : Int) (hkk' : k' = (k : Int)) (hk : k + cvPack x ≤ 4611686018427387904) (hs : ∀ n ∈ wPack x, n ≤ 4611686018427387904) : VC Try.prog 20 [vPack (mvPack k x), int .i64 k'] [(false, [(.s, .sc (.int .i64 ((k : Int) + (cvPack x : Int))))])] := by
  subst hkk'
  simp only [cvPack] at hk
  refine vc_of_ew good hm [0,1,2,4,10] Try.func20 rfl (by kernel_rfl) (by kernel_rfl) rfl ?_
  simp [Try.f20, vPack, mvPack, cvPack]
  refine .of (heldByteS_ok x.fBytes (k) _ (by omega) (by omega) (fun n hn => hs n (by simp [wPack, hn]))) ?_
  have v0 : ¬ ((k : Int) + (ctByteS x.fBytes : Int) < 0) := by omega
  have v1 : 0 ≤ (k : Int) + (ctByteS x.fBytes : Int) := by omega
  simp [v0, v1]
def wStr (s : ByteArray) : List Nat := [s.size]
def okStr (s : ByteArray) : Prop := okM s.size
theorem okw_Str (x : ByteArray) (h : okStr x) : ∀ n ∈ wStr x, okM n := by
  intro n hn
  rcases List.mem_singleton.1 hn with rfl
  exact h
theorem fit_Str (ls : List Lf) (h : Fit ti ck 9 ls) : ∃ x : ByteArray, ls = eStr x ∧ okStr x := by
  obtain ⟨x, r, rfl, h1, h2⟩ := All2.cons_inv h
  obtain rfl := All2.nil_inv h2
  obtain ⟨s, rfl, hs⟩ := h1.str_inv
  exact ⟨s, rfl, hs⟩

/-! ### []string -/
abbrev GStrS := List ByteArray
def eStrS (l : List ByteArray) : List Lf := [.ls [.sc (.string ⟨#[]⟩)] (l.map eStr)]
def vStrS (l : List ByteArray) : SV := list [.sc (.string ⟨#[]⟩)] (l.map eStr)
@[simp] theorem row_StrS (l : List (List ByteArray)) (i : Nat) : (Option.map eStrS l[i]?).getD [.ls [.sc (.string ⟨#[]⟩)] []] = eStrS (l[i]?.getD []) := by cases l[i]? <;> rfl
def wStrS (l : List ByteArray) : List Nat := l.length :: l.flatMap wStr
def okStrS (l : List ByteArray) : Prop := okM l.length ∧ ∀ a ∈ l, okStr a
theorem okw_StrS (l : List ByteArray) (h : okStrS l) : ∀ n ∈ wStrS l, okM n := by
  intro n hn
  rcases List.mem_cons.1 hn with rfl | hn
  · exact h.1
  · obtain ⟨a, ha, hn⟩ := List.mem_flatMap.1 hn
    exact okw_Str a (h.2 a ha) n hn
theorem fit_StrS (ls : List Lf) (h : Fit ti ck 22 ls) : ∃ x : List ByteArray, ls = eStrS x ∧ okStrS x := by
  obtain ⟨x, r, rfl, h1, h2⟩ := All2.cons_inv h
  obtain rfl := All2.nil_inv h2
  obtain ⟨l, rfl, hl, hs⟩ := h1.list eStr okStr fit_Str
  exact ⟨l, rfl, hl, hs⟩
def mStrS (x : List ByteArray) : ML := [(.o 9 (fun _ => [.s]), .ls [.sc (.string ⟨#[]⟩)] (x.map eStr))]
@[simp] theorem ow_StrS (l : List ByteArray) : Ow (.o 9 (fun _ => [.s])) (.ls [.sc (.string ⟨#[]⟩)] (l.map eStr)) = True := eq_true (Ow_rows (fun x j hj => match j, hj with | 0, _ => .sc | n + 1, hj => absurd hj (by simp)) l)
@[simp] theorem full_StrS (l : List ByteArray) : Full (.o 9 (fun _ => [.s])) (.ls [.sc (.string ⟨#[]⟩)] (l.map eStr)) = True := eq_true (Full_rows (fun x j hj => match j, hj with | 0, _ => .s | n + 1, hj => absurd hj (by simp)) l)
set_option maxHeartbeats 1000000 in
set_option maxRecDepth 8000 in
theorem szStrS_ok (x : List ByteArray) (left : Int) (h0 : 0 ≤ left) (h1 : left ≤ 1048576) (hs : ∀ n ∈ wStrS x, okM n) : VC Try.prog 33 [vStrS x, int .i64 left] [(false, [(.s, .sc (.int .i64 (szL (wStrS x) left)))])] := by
  refine vc_of_ew good hm [0,1,4,11,5,15,26] Try.func33 rfl (by kernel_rfl) (by kernel_rfl) rfl ?_
  have hl : x.length ≤ 9223372036854775807 := hs _ (by simp [wStrS])
  simp [Try.f33, vStrS]
  rw [wrapI (i := left - x.length) (by omega) (by omega)]
  refine ⟨fun h => by simp [wStrS, szL, h], fun hk => ?_⟩
  refine ew_loop (fun E => ∃ i : Nat, i ≤ x.length ∧ 0 ≤ szL ((x.take i).flatMap wStr) (left - x.length) ∧ E = { nt := 28, sl := [(0, vStrS x), (1, int .i64 (szL ((x.take i).flatMap wStr) (left - x.length))), (5, int .i64 i)], bx := [], rt := [] }) (fun E => x.length - (E.num 5).toNat) _ (Gh.keep _ [0,1,5]) ⟨0, by omega, by simp [szL]; omega, by simp [szL, vStrS]⟩ ?_
  rintro E1 ⟨i, hi, hr0, rfl⟩
  have hr1 := szL_le' (l := (x.take i).flatMap wStr) (left := left - x.length) (by omega)
  simp [vStrS, eStr]
  refine ⟨fun h => ?_, fun h => ?_⟩
  · obtain ⟨q1, q2⟩ := szF_step wStr (⟨#[]⟩) h (by omega : 0 ≤ left - x.length) hr0
    have hm : ∀ n ∈ wStr (x[i]?.getD (⟨#[]⟩)), okM n := fun n hn => hs n (List.mem_cons_of_mem _ (mem_flat h hn))
    have hb : (x[i]?.getD (⟨#[]⟩ : ByteArray)).size ≤ 9223372036854775807 := hm _ (by simp [wStr])
    simp only [wStr, szL] at q1 q2
    try simp [eStr]
    rw [wrapI (i := szL ((x.take i).flatMap wStr) (left - x.length) - ((x[i]?.getD (⟨#[]⟩ : ByteArray)).size : Nat)) (by omega) (by omega)]
    refine ⟨h, fun h2 => ?_, fun h2 => .of _ (Gh.keep _ [0,1,5]) ⟨i + 1, by omega, ?_, ?_⟩ ?_⟩
    · simp [h2] at q1; rw [wStrS, szL, if_neg (by omega), q1]
    · rw [q2, if_neg (by omega)]; exact h2
    · rw [q2, if_neg (by omega)]; simp [wrapS (show i < 9223372036854775807 by omega)]
    · simp [wrapS (show i < 9223372036854775807 by omega)]; omega
  · rw [wStrS, szL, if_neg (by omega), List.take_of_length_le (by simpa using h)]
set_option maxHeartbeats 1000000 in
set_option maxRecDepth 8000 in
theorem toStrS_ok (x : List ByteArray) (hs : ∀ n ∈ wStrS x, n ≤ 1048576) : VC Try.prog 35 [vStrS x] [(false, mStrS x)] := by
  refine vc_of_ew good hm [0,2,3,4,11] Try.func35 rfl (by kernel_rfl) (by kernel_rfl) rfl ?_
  have hl : x.length ≤ 1048576 := hs _ (by simp [wStrS])
  simp [Try.f35, vStrS, mStrS]
  refine ⟨by omega, ?_⟩
  refine ew_loop (fun E => ∃ i : Nat, i ≤ x.length ∧ E = { nt := 22, sl := [(0, vStrS x), (3, .v false [.r [7]]), (4, int .i64 i)], bx := [], rt := [(7, .o 9 (fun _ => [.s]), .ls [.sc (.string ⟨#[]⟩)] (fillR [.sc (.string ⟨#[]⟩)] (x.map eStr) i))] }) (fun E => x.length - (E.num 4).toNat) _ (Gh.keep _ [0,3,4]) ⟨0, by omega, by simp [vStrS, fillR]⟩ ?_
  rintro E1 ⟨i, hi, rfl⟩
  have hfl : (fillR [.sc (.string ⟨#[]⟩)] (x.map eStr) i).length = x.length := by rw [fillR_len _ _ (by simpa using hi)]; simp
  simp [vStrS, eStr] at hfl ⊢
  try simp [hfl]
  refine ⟨fun h => ?_, fun h => fillR_all _ _ (by simpa using h)⟩
  simp [eStr, hfl, h]
  refine .of _ (Gh.keep _ [0,3,4]) ⟨i + 1, by omega, ?_⟩ ?_
  · have := fillR_set [.sc (.string ⟨#[]⟩)] (x.map eStr) (i := i) (by simpa using h)
    simp [wrapS (show i < 9223372036854775807 by omega), vStrS, eStr, h] at this ⊢
    rw [← this]
  · simp [wrapS (show i < 9223372036854775807 by omega)]; omega
set_option maxHeartbeats 1000000 in
set_option maxRecDepth 8000 in
theorem eqStrS_ok (x : List ByteArray) (hs : ∀ n ∈ wStrS x, n ≤ 1048576) : VC Try.prog 37 [vStrS x, vStrS x] [(false, [(.s, .sc (.bool true))])] := by
  refine vc_of_ew good hm [0,1,4,10,5,14,25] Try.func37 rfl (by kernel_rfl) (by kernel_rfl) rfl ?_
  have hl : x.length ≤ 1048576 := hs _ (by simp [wStrS])
  simp [Try.f37, vStrS]
  refine ew_loop (fun E => ∃ i : Nat, i ≤ x.length ∧ E = { nt := 26, sl := [(0, vStrS x), (1, vStrS x), (5, int .i64 i)], bx := [], rt := [] }) (fun E => x.length - (E.num 5).toNat) _ (Gh.keep _ [0,1,5]) ⟨0, by omega, by simp [vStrS]⟩ ?_
  rintro E1 ⟨i, hi, rfl⟩
  simp [vStrS, eStr]
  intro h
  simp [eStr, h]
  refine .of _ (Gh.keep _ [0,1,5]) ⟨i + 1, by omega, ?_⟩ ?_
  · simp [wrapS (show i < 9223372036854775807 by omega), vStrS]
  · simp [wrapS (show i < 9223372036854775807 by omega)]; omega

/-! ### Pub -/
structure GPub where
  fTables : List ByteArray
def ePub (x : GPub) : List Lf := [.ls [.sc (.string ⟨#[]⟩)] (x.fTables.map eStr)]
def cPub (x : GPub) : List LV := [.s (.ls [.sc (.string ⟨#[]⟩)] (x.fTables.map eStr))]
def vPub (x : GPub) : SV := .v true [.s (.ls [.sc (.string ⟨#[]⟩)] (x.fTables.map eStr))]
def dPub : GPub := ⟨[]⟩
@[simp] theorem row_Pub (l : List GPub) (i : Nat) : (Option.map ePub l[i]?).getD [.ls [.sc (.string ⟨#[]⟩)] []] = ePub (l[i]?.getD dPub) := by cases l[i]? <;> rfl
def wPub (x : GPub) : List Nat := wStrS x.fTables ++ ([])
def okPub (x : GPub) : Prop := okStrS x.fTables ∧ True
theorem okw_Pub (x : GPub) (h : okPub x) : ∀ n ∈ wPub x, okM n := by
  obtain ⟨h0, _⟩ := h
  intro n hn
  simp only [wPub, List.mem_cons, List.mem_append, List.not_mem_nil, or_false, false_or] at hn
  rcases hn with hn
  · exact okw_StrS _ h0 n hn
theorem fit_Pub (ls : List Lf) (h : Fit ti ck 24 ls) : ∃ x : GPub, ls = ePub x ∧ okPub x := by
  obtain ⟨c0, r0, rfl, h0, g0⟩ := All2.cons_inv h
  obtain ⟨a0, rfl, b0, b0'⟩ := h0.list eStr okStr fit_Str
  obtain rfl := All2.nil_inv g0
  exact ⟨⟨a0⟩, rfl, ⟨⟨b0, b0'⟩, trivial⟩⟩
def mPub (x : GPub) : ML := [(.o 9 (fun _ => [.s]), .ls [.sc (.string ⟨#[]⟩)] (x.fTables.map eStr))]
set_option maxHeartbeats 1000000 in
set_option maxRecDepth 8000 in
theorem szPub_ok (x : GPub) (left : Int) (h0 : 0 ≤ left) (h1 : left ≤ 1048576) (hs : ∀ n ∈ wPub x, okM n) : VC Try.prog 9 [vPub x, int .i64 left] [(false, [(.s, .sc (.int .i64 (szL (wPub x) left)))])] := by
  refine vc_of_ew good hm [0,1,2,4,10] Try.func9 rfl (by kernel_rfl) (by kernel_rfl) rfl ?_
  simp [Try.f9, vPub]
  refine .of (szStrS_ok x.fTables left (by omega) (by omega) (fun n hn => hs n (by simp [wPub, hn]))) ?_
  simp
  have hb0 := szL_le' (l := wStrS x.fTables) (left := left) (by omega)
  have hc0 := szL_neg (wStrS x.fTables) left (by omega)
  by_cases hn : (szL (wStrS x.fTables) left) < 0
  · have e : szL (wPub x) left = -1 := by rw [wPub, szL_app _ _ _ h0, if_pos hn]
    rw [e]
    try omega
  · have e : szL (wPub x) left = (szL (wStrS x.fTables) left) := by rw [wPub, szL_app _ _ _ h0, if_neg hn]; rfl
    rw [e]
    try omega
set_option maxHeartbeats 1000000 in
set_option maxRecDepth 8000 in
theorem toPub_ok (x : GPub) (hs : ∀ n ∈ wPub x, n ≤ 1048576) : VC Try.prog 11 [vPub x] [(true, mPub x)] := by
  refine vc_of_ew good hm [0,1,2,3] Try.func11 rfl (by kernel_rfl) (by kernel_rfl) rfl ?_
  simp [Try.f11, vPub, mPub]
  refine .of (toStrS_ok x.fTables (fun n hn => hs n (by simp [wPub, hn]))) ?_
  simp [mStrS]
set_option maxHeartbeats 1000000 in
set_option maxRecDepth 8000 in
theorem eqPub_ok (x : GPub) (hs : ∀ n ∈ wPub x, n ≤ 1048576) : VC Try.prog 13 [vPub x, vPub x] [(false, [(.s, .sc (.bool true))])] := by
  refine vc_of_ew good hm [0,1,2,3,4,10] Try.func13 rfl (by kernel_rfl) (by kernel_rfl) rfl ?_
  simp [Try.f13, vPub]
  refine .of (eqStrS_ok x.fTables (fun n hn => hs n (by simp [wPub, hn]))) ?_
  simp
def okInt (n : Int) : Prop := okI n
theorem fit_Int (ls : List Lf) (h : Fit ti ck 3 ls) : ∃ x : Int, ls = eInt x ∧ okInt x := by
  obtain ⟨x, r, rfl, h1, h2⟩ := All2.cons_inv h
  obtain rfl := All2.nil_inv h2
  obtain ⟨s, rfl, hs⟩ := h1.int_inv
  exact ⟨s, rfl, okI_wf hs⟩

/-! ### Slot -/
structure GSlot where
  fName : ByteArray
  fAt : Int
def eSlot (x : GSlot) : List Lf := [.sc (.string x.fName), .sc (.int .i64 x.fAt)]
def cSlot (x : GSlot) : List LV := [.s (.sc (.string x.fName)), .s (.sc (.int .i64 x.fAt))]
def vSlot (x : GSlot) : SV := .v true [.s (.sc (.string x.fName)), .s (.sc (.int .i64 x.fAt))]
def dSlot : GSlot := ⟨⟨#[]⟩, 0⟩
@[simp] theorem row_Slot (l : List GSlot) (i : Nat) : (Option.map eSlot l[i]?).getD [.sc (.string ⟨#[]⟩), .sc (.int .i64 0)] = eSlot (l[i]?.getD dSlot) := by cases l[i]? <;> rfl
def wSlot (x : GSlot) : List Nat := x.fName.size :: ([])
def okSlot (x : GSlot) : Prop := okM x.fName.size ∧ okI x.fAt ∧ True
theorem okw_Slot (x : GSlot) (h : okSlot x) : ∀ n ∈ wSlot x, okM n := by
  obtain ⟨h0, h1, _⟩ := h
  intro n hn
  simp only [wSlot, List.mem_cons, List.mem_append, List.not_mem_nil, or_false, false_or] at hn
  rcases hn with rfl
  · exact h0
theorem fit_Slot (ls : List Lf) (h : Fit ti ck 66 ls) : ∃ x : GSlot, ls = eSlot x ∧ okSlot x := by
  obtain ⟨c0, r0, rfl, h0, g0⟩ := All2.cons_inv h
  obtain ⟨a0, rfl, b0⟩ := h0.str_inv
  obtain ⟨c1, r1, rfl, h1, g1⟩ := All2.cons_inv g0
  obtain ⟨a1, rfl, b1⟩ := h1.int_inv
  obtain rfl := All2.nil_inv g1
  exact ⟨⟨a0, a1⟩, rfl, ⟨b0, okI_wf b1, trivial⟩⟩
def mSlot (x : GSlot) : ML := [(.s, .sc (.string x.fName)), (.s, .sc (.int .i64 x.fAt))]
set_option maxHeartbeats 1000000 in
set_option maxRecDepth 8000 in
theorem szSlot_ok (x : GSlot) (left : Int) (h0 : 0 ≤ left) (h1 : left ≤ 1048576) (hs : ∀ n ∈ wSlot x, okM n) : VC Try.prog 43 [vSlot x, int .i64 left] [(false, [(.s, .sc (.int .i64 (szL (wSlot x) left)))])] := by
  refine vc_of_ew good hm [0,1,2,4,11] Try.func43 rfl (by kernel_rfl) (by kernel_rfl) rfl ?_
  simp [Try.f43, vSlot]
  have hb0 : x.fName.size ≤ 9223372036854775807 := hs _ (by simp [wSlot])
  rw [wrapI (i := left - (x.fName.size : Nat)) (by omega) (by omega)]
  by_cases hn : (left - (x.fName.size : Nat)) < 0
  · have e : szL (wSlot x) left = -1 := by rw [wSlot, szL, if_pos hn]
    rw [e]
    try omega
  · have e : szL (wSlot x) left = (left - (x.fName.size : Nat)) := by rw [wSlot, szL, if_neg hn]; rfl
    rw [e]
    try omega
set_option maxHeartbeats 1000000 in
set_option maxRecDepth 8000 in
theorem toSlot_ok (x : GSlot) (hs : ∀ n ∈ wSlot x, n ≤ 1048576) : VC Try.prog 45 [vSlot x] [(true, mSlot x)] := by
  refine vc_of_ew good hm [0,1,2,3] Try.func45 rfl (by kernel_rfl) (by kernel_rfl) rfl ?_
  simp [Try.f45, vSlot, mSlot]
set_option maxHeartbeats 1000000 in
set_option maxRecDepth 8000 in
theorem eqSlot_ok (x : GSlot) (hs : ∀ n ∈ wSlot x, n ≤ 1048576) : VC Try.prog 47 [vSlot x, vSlot x] [(false, [(.s, .sc (.bool true))])] := by
  refine vc_of_ew good hm [0,1,2,3,4,9,14] Try.func47 rfl (by kernel_rfl) (by kernel_rfl) rfl ?_
  simp [Try.f47, vSlot]

/-! ### []Slot -/
abbrev GSlotS := List GSlot
def eSlotS (l : List GSlot) : List Lf := [.ls [.sc (.string ⟨#[]⟩), .sc (.int .i64 0)] (l.map eSlot)]
def vSlotS (l : List GSlot) : SV := list [.sc (.string ⟨#[]⟩), .sc (.int .i64 0)] (l.map eSlot)
@[simp] theorem row_SlotS (l : List (List GSlot)) (i : Nat) : (Option.map eSlotS l[i]?).getD [.ls [.sc (.string ⟨#[]⟩), .sc (.int .i64 0)] []] = eSlotS (l[i]?.getD []) := by cases l[i]? <;> rfl
def wSlotS (l : List GSlot) : List Nat := l.length :: l.flatMap wSlot
def okSlotS (l : List GSlot) : Prop := okM l.length ∧ ∀ a ∈ l, okSlot a
theorem okw_SlotS (l : List GSlot) (h : okSlotS l) : ∀ n ∈ wSlotS l, okM n := by
  intro n hn
  rcases List.mem_cons.1 hn with rfl | hn
  · exact h.1
  · obtain ⟨a, ha, hn⟩ := List.mem_flatMap.1 hn
    exact okw_Slot a (h.2 a ha) n hn
theorem fit_SlotS (ls : List Lf) (h : Fit ti ck 41 ls) : ∃ x : List GSlot, ls = eSlotS x ∧ okSlotS x := by
  obtain ⟨x, r, rfl, h1, h2⟩ := All2.cons_inv h
  obtain rfl := All2.nil_inv h2
  obtain ⟨l, rfl, hl, hs⟩ := h1.list eSlot okSlot fit_Slot
  exact ⟨l, rfl, hl, hs⟩
def mSlotS (x : List GSlot) : ML := [(.o 56 (fun _ => [.s, .s]), .ls [.sc (.string ⟨#[]⟩), .sc (.int .i64 0)] (x.map eSlot))]
@[simp] theorem ow_SlotS (l : List GSlot) : Ow (.o 56 (fun _ => [.s, .s])) (.ls [.sc (.string ⟨#[]⟩), .sc (.int .i64 0)] (l.map eSlot)) = True := eq_true (Ow_rows (fun x j hj => match j, hj with | 0, _ => .sc | 1, _ => .sc | n + 2, hj => absurd hj (by simp)) l)
@[simp] theorem full_SlotS (l : List GSlot) : Full (.o 56 (fun _ => [.s, .s])) (.ls [.sc (.string ⟨#[]⟩), .sc (.int .i64 0)] (l.map eSlot)) = True := eq_true (Full_rows (fun x j hj => match j, hj with | 0, _ => .s | 1, _ => .s | n + 2, hj => absurd hj (by simp)) l)
set_option maxHeartbeats 1000000 in
set_option maxRecDepth 8000 in
theorem szSlotS_ok (x : List GSlot) (left : Int) (h0 : 0 ≤ left) (h1 : left ≤ 1048576) (hs : ∀ n ∈ wSlotS x, okM n) : VC Try.prog 21 [vSlotS x, int .i64 left] [(false, [(.s, .sc (.int .i64 (szL (wSlotS x) left)))])] := by
  refine vc_of_ew good hm [0,1,4,11,5,15,25] Try.func21 rfl (by kernel_rfl) (by kernel_rfl) rfl ?_
  have hl : x.length ≤ 9223372036854775807 := hs _ (by simp [wSlotS])
  simp [Try.f21, vSlotS]
  rw [wrapI (i := left - x.length) (by omega) (by omega)]
  refine ⟨fun h => by simp [wSlotS, szL, h], fun hk => ?_⟩
  refine ew_loop (fun E => ∃ i : Nat, i ≤ x.length ∧ 0 ≤ szL ((x.take i).flatMap wSlot) (left - x.length) ∧ E = { nt := 27, sl := [(0, vSlotS x), (1, int .i64 (szL ((x.take i).flatMap wSlot) (left - x.length))), (5, int .i64 i)], bx := [], rt := [] }) (fun E => x.length - (E.num 5).toNat) _ (Gh.keep _ [0,1,5]) ⟨0, by omega, by simp [szL]; omega, by simp [szL, vSlotS]⟩ ?_
  rintro E1 ⟨i, hi, hr0, rfl⟩
  have hr1 := szL_le' (l := (x.take i).flatMap wSlot) (left := left - x.length) (by omega)
  simp [vSlotS, eSlot]
  refine ⟨fun h => ?_, fun h => ?_⟩
  · obtain ⟨q1, q2⟩ := szF_step wSlot (dSlot) h (by omega : 0 ≤ left - x.length) hr0
    have hm : ∀ n ∈ wSlot (x[i]?.getD (dSlot)), okM n := fun n hn => hs n (List.mem_cons_of_mem _ (mem_flat h hn))
    have hn1 := szL_neg (wSlot (x[i]?.getD (dSlot))) _ hr0
    refine ⟨h, .of (szSlot_ok _ _ hr0 (by omega) hm) ?_⟩
    simp
    refine ⟨fun h2 => ?_, fun h2 => .of _ (Gh.keep _ [0,1,5]) ⟨i + 1, by omega, ?_, ?_⟩ ?_⟩
    · rw [wSlotS, szL, if_neg (by omega), q1 h2]
    · rw [q2]; exact h2
    · rw [q2]; simp [wrapS (show i < 9223372036854775807 by omega)]
    · simp [wrapS (show i < 9223372036854775807 by omega)]; omega
  · rw [wSlotS, szL, if_neg (by omega), List.take_of_length_le (by simpa using h)]
set_option maxHeartbeats 1000000 in
set_option maxRecDepth 8000 in
theorem toSlotS_ok (x : List GSlot) (hs : ∀ n ∈ wSlotS x, n ≤ 1048576) : VC Try.prog 23 [vSlotS x] [(false, mSlotS x)] := by
  refine vc_of_ew good hm [0,2,3,4,11] Try.func23 rfl (by kernel_rfl) (by kernel_rfl) rfl ?_
  have hl : x.length ≤ 1048576 := hs _ (by simp [wSlotS])
  simp [Try.f23, vSlotS, mSlotS]
  refine ⟨by omega, ?_⟩
  refine ew_loop (fun E => ∃ i : Nat, i ≤ x.length ∧ E = { nt := 23, sl := [(0, vSlotS x), (3, .v false [.r [7]]), (4, int .i64 i)], bx := [], rt := [(7, .o 56 (fun _ => [.s, .s]), .ls [.sc (.string ⟨#[]⟩), .sc (.int .i64 0)] (fillR [.sc (.string ⟨#[]⟩), .sc (.int .i64 0)] (x.map eSlot) i))] }) (fun E => x.length - (E.num 4).toNat) _ (Gh.keep _ [0,3,4]) ⟨0, by omega, by simp [vSlotS, fillR]⟩ ?_
  rintro E1 ⟨i, hi, rfl⟩
  have hfl : (fillR [.sc (.string ⟨#[]⟩), .sc (.int .i64 0)] (x.map eSlot) i).length = x.length := by rw [fillR_len _ _ (by simpa using hi)]; simp
  simp [vSlotS, eSlot] at hfl ⊢
  try simp [hfl]
  refine ⟨fun h => ⟨h, .of (toSlot_ok (x[i]?.getD dSlot) (fun n hn => hs n (List.mem_cons_of_mem _ (mem_flat (wt := wSlot) h hn)))) ?_⟩, fun h => fillR_all _ _ (by simpa using h)⟩
  simp [mSlot]
  try simp [hfl, h]
  refine .of _ (Gh.keep _ [0,3,4]) ⟨i + 1, by omega, ?_⟩ ?_
  · have := fillR_set [.sc (.string ⟨#[]⟩), .sc (.int .i64 0)] (x.map eSlot) (i := i) (by simpa using h)
    simp [wrapS (show i < 9223372036854775807 by omega), vSlotS, eSlot, h] at this ⊢
    rw [← this]
  · simp [wrapS (show i < 9223372036854775807 by omega)]; omega
set_option maxHeartbeats 1000000 in
set_option maxRecDepth 8000 in
theorem eqSlotS_ok (x : List GSlot) (hs : ∀ n ∈ wSlotS x, n ≤ 1048576) : VC Try.prog 25 [vSlotS x, vSlotS x] [(false, [(.s, .sc (.bool true))])] := by
  refine vc_of_ew good hm [0,1,4,10,5,14,26] Try.func25 rfl (by kernel_rfl) (by kernel_rfl) rfl ?_
  have hl : x.length ≤ 1048576 := hs _ (by simp [wSlotS])
  simp [Try.f25, vSlotS]
  refine ew_loop (fun E => ∃ i : Nat, i ≤ x.length ∧ E = { nt := 27, sl := [(0, vSlotS x), (1, vSlotS x), (5, int .i64 i)], bx := [], rt := [] }) (fun E => x.length - (E.num 5).toNat) _ (Gh.keep _ [0,1,5]) ⟨0, by omega, by simp [vSlotS]⟩ ?_
  rintro E1 ⟨i, hi, rfl⟩
  simp [vSlotS, eSlot]
  intro h
  refine ⟨h, .of (eqSlot_ok (x[i]?.getD dSlot) (fun n hn => hs n (List.mem_cons_of_mem _ (mem_flat (wt := wSlot) h hn)))) ?_⟩
  simp
  refine .of _ (Gh.keep _ [0,1,5]) ⟨i + 1, by omega, ?_⟩ ?_
  · simp [wrapS (show i < 9223372036854775807 by omega), vSlotS]
  · simp [wrapS (show i < 9223372036854775807 by omega)]; omega
def ctSlot (x : GSlot) : Nat := 2
def mkSlot (k : Nat) (x : GSlot) : GSlot := ⟨mkStr (k) x.fName, mkInt (k + 1) x.fAt⟩
theorem ctle_Slot (x : GSlot) : ctSlot x ≤ 64 + 64 * (wSlot x).sum := by
  simp only [ctSlot, wSlot, List.sum_cons, List.sum_append, List.sum_nil]
  omega
def ctSlotS (l : List GSlot) : Nat := ctRw ctSlot l
def mkSlotS (k : Nat) (l : List GSlot) : List GSlot := mkRw mkSlot ctSlot k l
theorem ctle_SlotS (l : List GSlot) : ctSlotS l ≤ 64 * (wSlotS l).sum := by
  have := ctRw_le64 ctSlot wSlot l (fun x _ => ctle_Slot x)
  simp only [wSlotS, List.sum_cons]
  exact this
set_option maxHeartbeats 1000000 in
set_option maxRecDepth 8000 in
theorem markSlotS_ok (x : List GSlot) (k : Nat) (k' : Int) (hkk' : k' = (k : Int)) (hk : k + ctSlotS x ≤ 4611686018427387904) (hs : ∀ n ∈ wSlotS x, n ≤ 4611686018427387904) : VM Try.prog 30 [.v false [.r [900]], int .i64 k'] [(.o 56 (fun _ => [.s, .s]), .ls [.sc (.string ⟨#[]⟩), .sc (.int .i64 0)] (x.map eSlot), .ls [.sc (.string ⟨#[]⟩), .sc (.int .i64 0)] ((mkSlotS k x).map eSlot))] ((k : Int) + (ctSlotS x : Int)) := by
  subst hkk'
  have hl : x.length ≤ 4611686018427387904 := hs _ (by simp [wSlotS])
  refine vm_of_ew good hm [0,1,4,5,9,5000] Try.func30 rfl (by kernel_rfl) (by kernel_rfl) rfl fun pv => ?_
  simp [Try.f30]
  refine ew_loop (fun E => ∃ (i K : Nat) (M : List (GSlot)), i ≤ x.length ∧ K = k + ctRw ctSlot (x.take i) ∧ M = mixR mkSlot ctSlot k x i ∧ E = { nt := 28, sl := [(0, .v false [.r [900]]), (1, int .i64 (K : Int)), (5, int .i64 i), (5000, .pin 900 (pv 900))], bx := [], rt := [(900, .o 56 (fun _ => [.s, .s]), .ls [.sc (.string ⟨#[]⟩), .sc (.int .i64 0)] (M.map eSlot))] }) (fun E => x.length - (E.num 5).toNat) _ (Gh.kb _ [0,1,5,5000] [] [900]) ⟨0, k, x, by omega, by simp [ctRw], by simp [mixR_zero], by simp⟩ ?_
  rintro E1 ⟨i, K, M, hi, hK, hM, rfl⟩
  have hfl : M.length = x.length := by rw [hM]; exact mixR_len mkSlot ctSlot k x i
  have hct := ctRw_le ctSlot x i
  simp only [ctSlotS] at hk
  simp [hfl]
  refine ⟨fun h => ?_, fun h => ?_⟩
  · have hg : M[i]? = x[i]? := by rw [hM]; exact mixR_get mkSlot ctSlot k x i h
    have hst := mixR_set mkSlot ctSlot k x i (dSlot) h
    have hc1 := ctRw_lt ctSlot (dSlot) h
    have hs1 : ctRw ctSlot (x.take (i + 1)) = ctRw ctSlot (x.take i) + ctSlot (x[i]?.getD (dSlot)) := ctRw_succ ctSlot (dSlot) h
    have hxi : x[i]? = some (x[i]?.getD (dSlot)) := by rw [List.getElem?_eq_getElem h]; rfl
    have hy : (x[i]?.getD (dSlot)) ∈ x := getD_mem _ h
    rw [hxi] at hg
    rw [← hK, ← hM] at hst
    generalize (x[i]?.getD (dSlot)) = y at *
    have hg' : ∀ h', M[i]'h' = y := fun h' => by simpa [List.getElem?_eq_getElem h'] using hg
    have hse : ∀ n ∈ wSlot y, n ≤ 4611686018427387904 := fun n hn => hs n (List.mem_cons_of_mem _ (List.mem_flatMap.2 ⟨y, hy, hn⟩))
    simp only [ctSlot] at hc1 hs1
    simp [md, lf, hg', hg, h, hfl, eSlot]
    refine .of (markText_ok _ (K) (by omega) (by omega)) ?_
    have w0 : IntKind.i64.wrap ((K : Int) + 1) = (K : Int) + 1 := (wrapI (by omega) (by omega)).trans (by omega)
    have w1 : IntKind.i64.wrap ((K : Int) + 1 + 1) = (K : Int) + 2 := (wrapI (by omega) (by omega)).trans (by omega)
    simp [md, lf, hg', hg, h, hfl, eSlot, w0, w1]
    have e1 : (k : Int) + (ctRw ctSlot (x.take (i + 1)) : Int) = (K : Int) + 2 := by omega
    refine .of _ (Gh.kb _ [0,1,5,5000] [] [900]) ⟨i + 1, by omega, ?_⟩ ?_
    · simp [wrapS (show i < 9223372036854775807 by omega), e1, ← hst, List.map_set, mkSlot, mkInt, mkStr, eSlot, wrapU8]
    · simp [wrapS (show i < 9223372036854775807 by omega)]; omega
  · have : i = x.length := by omega
    subst this
    subst hM
    subst hK
    simp [mixR_all, ctSlotS, mkSlotS]
set_option maxHeartbeats 1000000 in
set_option maxRecDepth 8000 in
theorem heldSlotS_ok (x : List GSlot) (k : Nat) (k' : Int) (hkk' : k' = (k : Int)) (hk : k + ctSlotS x ≤ 4611686018427387904) (hs : ∀ n ∈ wSlotS x, n ≤ 4611686018427387904) : VC Try.prog 31 [vSlotS (mkSlotS k x), int .i64 k'] [(false, [(.s, .sc (.int .i64 ((k : Int) + (ctSlotS x : Int))))])] := by
  subst hkk'
  have hl : x.length ≤ 4611686018427387904 := hs _ (by simp [wSlotS])
  refine vc_of_ew good hm [0,1,4,5,9,19,28] Try.func31 rfl (by kernel_rfl) (by kernel_rfl) rfl ?_
  simp [Try.f31, vSlotS]
  refine ew_loop (fun E => ∃ (i K : Nat), i ≤ x.length ∧ K = k + ctRw ctSlot (x.take i) ∧ E = { nt := 32, sl := [(0, vSlotS (mkSlotS k x)), (1, int .i64 (K : Int)), (5, int .i64 i)], bx := [], rt := [] }) (fun E => x.length - (E.num 5).toNat) _ (Gh.kb _ [0,1,5] [] []) ⟨0, k, by omega, by simp [ctRw], by simp [vSlotS]⟩ ?_
  rintro E1 ⟨i, K, hi, hK, rfl⟩
  have hfl : (mkSlotS k x).length = x.length := mkRw_len mkSlot ctSlot k x
  have hct := ctRw_le ctSlot x i
  simp only [ctSlotS] at hk
  simp [vSlotS, hfl]
  refine ⟨fun h => ?_, fun h => ?_⟩
  · have hg : (mkSlotS k x)[i]? = some (mkSlot (k + ctRw ctSlot (x.take i)) (x[i]?.getD (dSlot))) := mkRw_get mkSlot ctSlot (dSlot) k x i h
    have hc1 := ctRw_lt ctSlot (dSlot) h
    have hs1 : ctRw ctSlot (x.take (i + 1)) = ctRw ctSlot (x.take i) + ctSlot (x[i]?.getD (dSlot)) := ctRw_succ ctSlot (dSlot) h
    have hy : (x[i]?.getD (dSlot)) ∈ x := getD_mem _ h
    rw [← hK] at hg
    generalize (x[i]?.getD (dSlot)) = y at *
    have hg2 : ∀ hh : i < (mkSlotS k x).length, (mkSlotS k x)[i] = mkSlot K y := fun hh => (List.getElem_eq_iff hh).2 hg
    have hse : ∀ n ∈ wSlot y, n ≤ 4611686018427387904 := fun n hn => hs n (List.mem_cons_of_mem _ (List.mem_flatMap.2 ⟨y, hy, hn⟩))
    simp only [ctSlot] at hc1 hs1
    simp [md, lf, hg, hg2, h, hfl, eSlot, mkSlot, mkInt, mkStr, wrapU8]
    refine .of (markText_ok _ (K) (by omega) (by omega)) ?_
    have w0 : IntKind.i64.wrap ((K : Int) + 1) = (K : Int) + 1 := (wrapI (by omega) (by omega)).trans (by omega)
    have w1 : IntKind.i64.wrap ((K : Int) + 1 + 1) = (K : Int) + 2 := (wrapI (by omega) (by omega)).trans (by omega)
    simp [md, lf, hg, hg2, h, hfl, eSlot, mkSlot, mkInt, mkStr, wrapU8, w0, w1]
    have e1 : (k : Int) + (ctRw ctSlot (x.take (i + 1)) : Int) = (K : Int) + 2 := by omega
    refine .of _ (Gh.kb _ [0,1,5] [] []) ⟨i + 1, by omega, ?_⟩ ?_
    · simp [wrapS (show i < 9223372036854775807 by omega), e1, vSlotS]
    · simp [wrapS (show i < 9223372036854775807 by omega)]; omega
  · have : i = x.length := by omega
    subst this
    subst hK
    simp [ctSlotS]
end Go.Proofs.Ytjidbfocloocaaa
