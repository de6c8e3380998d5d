import Derived.Test.YtkciklpdhhcblaaGreatBase
namespace Go.Proofs.YtkciklpdhhcblaaGreat
open Go Go.Proofs Go.Sm
attribute [local simp] ti eStr eInt eByte eVal cVal vVal eCol cCol vCol eColS vColS eStrS vStrS eTable cTable vTable eTableS vTableS eCat cCat vCat eValS vValS eRow cRow vRow eRowS vRowS eRows cRows vRows eRowsS vRowsS eDb cDb vDb eDdl cDdl vDdl eFol cFol vFol eStmt cStmt vStmt eRec cRec vRec eSnap cSnap vSnap eRecS vRecS eTail cTail vTail
set_option linter.unusedVariables false
set_option linter.unusedSimpArgs false


def idxF {α : Type} (p : α → Bool) (l : List α) : Int := if l.any p then (l.findIdx p : Int) else -1
def anyT {α : Type} (p : α → Bool) (l : List α) (i : Nat) : Bool := (l.take i).any p
theorem anyT_zero {α : Type} (p : α → Bool) (l : List α) : anyT p l 0 = false := by simp [anyT]
theorem anyT_all {α : Type} (p : α → Bool) (l : List α) : anyT p l l.length = l.any p := by simp [anyT]
theorem anyT_succ {α : Type} (p : α → Bool) (d : α) {l : List α} {i : Nat} (h : i < l.length) : anyT p l (i + 1) = (anyT p l i || p (l[i]?.getD d)) := by
  unfold anyT
  rw [List.take_succ_eq_append_getElem h, List.any_append, List.getElem?_eq_getElem h]
  simp
theorem idxF_at {α : Type} (p : α → Bool) (d : α) {l : List α} {i : Nat} (h : i < l.length) (h0 : anyT p l i = false) (hp : p (l[i]?.getD d) = true) : idxF p l = i := by
  rw [List.getElem?_eq_getElem h, Option.getD_some] at hp
  have ha : l.any p = true := List.any_eq_true.2 ⟨_, List.getElem_mem h, hp⟩
  rw [idxF, if_pos ha, (List.findIdx_eq h).2 ⟨hp, fun j hj => ?_⟩]
  rw [anyT, List.any_eq_false] at h0
  have := h0 l[j] (List.mem_take_iff_getElem.2 ⟨j, by omega, rfl⟩)
  simpa using this
theorem idxF_no {α : Type} (p : α → Bool) {l : List α} (h0 : l.any p = false) : idxF p l = -1 := by simp [idxF, h0]
theorem idxF_ge {α : Type} (p : α → Bool) (l : List α) : decide (0 ≤ idxF p l) = l.any p := by
  unfold idxF
  split
  · rename_i h; simp [h]
  · rename_i h; simp only [Bool.not_eq_true] at h; rw [h]; rfl
theorem idxF_bd {α : Type} (p : α → Bool) (l : List α) : -1 ≤ idxF p l ∧ idxF p l < l.length := by
  unfold idxF
  split
  · rename_i h
    have := List.findIdx_lt_length.2 (List.any_eq_true.1 h)
    omega
  · omega
set_option maxHeartbeats 4000000 in
theorem idxTable0_ok (l : List GTable) (k : Nat)  (p : GTable → Bool) (hl : okM l.length) (hk : ∀ x ∈ l, VC Tryz.prog k [vTable x] [(false, [(.s, .sc (.bool (p x)))])]) :
    VC Tryz.prog 129 [vTableS l, .fn k []] [(false, [(.s, .sc (.int .i64 (idxF p l)))])] := by
  unfold okM at hl
  refine vc_of_ew good hm [0,1,4,7,8,9,5,16] Tryz.func129 rfl (by kernel_rfl) (by kernel_rfl) rfl ?_
  simp [Tryz.f129]
  refine ew_loop (fun E => ∃ i : Nat, i ≤ l.length ∧ anyT p l i = false ∧ E = { nt := 19, sl := [(0, vTableS l), (1, .fn k []), (7, int .i64 l.length), (8, int .i64 i)], bx := [], rt := [] }) (fun E => l.length - (E.num 8).toNat) _ (Gh.kb _ [0,1,7,8] [] []) ⟨0, by omega, anyT_zero _ _, by simp⟩ ?_
  rintro E1 ⟨i, hi, hall, rfl⟩
  simp
  refine ⟨fun h => ⟨h, .of (hk _ (getD_mem dTable h)) ?_⟩, fun h => ?_⟩
  · simp
    refine ⟨fun hp => (idxF_at p dTable h hall hp).symm, fun hp => .of _ (Gh.kb _ [0,1,7,8] [] []) ⟨i + 1, by omega, by rw [anyT_succ p dTable h, hall, hp]; rfl, ?_⟩ ?_⟩
    · simp [wrapS (show i < 9223372036854775807 by omega)]
    · simp [wrapS (show i < 9223372036854775807 by omega)]; omega
  · have : i = l.length := by omega
    subst this
    rw [anyT_all] at hall
    exact (idxF_no p hall).symm
set_option maxHeartbeats 4000000 in
theorem idxTable1_ok (l : List GTable) (k : Nat) (ds : List Lf) (p : GTable → Bool) (hl : okM l.length) (hk : ∀ x ∈ l, VC Tryz.prog k [vTable x, .p (.ps ds)] [(false, [(.s, .sc (.bool (p x)))])]) :
    VC Tryz.prog 129 [vTableS l, .fn k [.ps ds]] [(false, [(.s, .sc (.int .i64 (idxF p l)))])] := by
  unfold okM at hl
  refine vc_of_ew good hm [0,1,4,7,8,9,5,16] Tryz.func129 rfl (by kernel_rfl) (by kernel_rfl) rfl ?_
  simp [Tryz.f129]
  refine ew_loop (fun E => ∃ i : Nat, i ≤ l.length ∧ anyT p l i = false ∧ E = { nt := 19, sl := [(0, vTableS l), (1, .fn k [.ps ds]), (7, int .i64 l.length), (8, int .i64 i)], bx := [], rt := [] }) (fun E => l.length - (E.num 8).toNat) _ (Gh.kb _ [0,1,7,8] [] []) ⟨0, by omega, anyT_zero _ _, by simp⟩ ?_
  rintro E1 ⟨i, hi, hall, rfl⟩
  simp
  refine ⟨fun h => ⟨h, .of (hk _ (getD_mem dTable h)) ?_⟩, fun h => ?_⟩
  · simp
    refine ⟨fun hp => (idxF_at p dTable h hall hp).symm, fun hp => .of _ (Gh.kb _ [0,1,7,8] [] []) ⟨i + 1, by omega, by rw [anyT_succ p dTable h, hall, hp]; rfl, ?_⟩ ?_⟩
    · simp [wrapS (show i < 9223372036854775807 by omega)]
    · simp [wrapS (show i < 9223372036854775807 by omega)]; omega
  · have : i = l.length := by omega
    subst this
    rw [anyT_all] at hall
    exact (idxF_no p hall).symm
set_option maxHeartbeats 4000000 in
theorem idxTable2_ok (l : List GTable) (k : Nat) (ds es : List Lf) (p : GTable → Bool) (hl : okM l.length) (hk : ∀ x ∈ l, VC Tryz.prog k [vTable x, .p (.ps ds), .p (.ps es)] [(false, [(.s, .sc (.bool (p x)))])]) :
    VC Tryz.prog 129 [vTableS l, .fn k [.ps ds, .ps es]] [(false, [(.s, .sc (.int .i64 (idxF p l)))])] := by
  unfold okM at hl
  refine vc_of_ew good hm [0,1,4,7,8,9,5,16] Tryz.func129 rfl (by kernel_rfl) (by kernel_rfl) rfl ?_
  simp [Tryz.f129]
  refine ew_loop (fun E => ∃ i : Nat, i ≤ l.length ∧ anyT p l i = false ∧ E = { nt := 19, sl := [(0, vTableS l), (1, .fn k [.ps ds, .ps es]), (7, int .i64 l.length), (8, int .i64 i)], bx := [], rt := [] }) (fun E => l.length - (E.num 8).toNat) _ (Gh.kb _ [0,1,7,8] [] []) ⟨0, by omega, anyT_zero _ _, by simp⟩ ?_
  rintro E1 ⟨i, hi, hall, rfl⟩
  simp
  refine ⟨fun h => ⟨h, .of (hk _ (getD_mem dTable h)) ?_⟩, fun h => ?_⟩
  · simp
    refine ⟨fun hp => (idxF_at p dTable h hall hp).symm, fun hp => .of _ (Gh.kb _ [0,1,7,8] [] []) ⟨i + 1, by omega, by rw [anyT_succ p dTable h, hall, hp]; rfl, ?_⟩ ?_⟩
    · simp [wrapS (show i < 9223372036854775807 by omega)]
    · simp [wrapS (show i < 9223372036854775807 by omega)]; omega
  · have : i = l.length := by omega
    subst this
    rw [anyT_all] at hall
    exact (idxF_no p hall).symm
set_option maxHeartbeats 4000000 in
theorem idxStr0_ok (l : List ByteArray) (k : Nat)  (p : ByteArray → Bool) (hl : okM l.length) (hk : ∀ x ∈ l, VC Tryz.prog k [str x] [(false, [(.s, .sc (.bool (p x)))])]) :
    VC Tryz.prog 187 [vStrS l, .fn k []] [(false, [(.s, .sc (.int .i64 (idxF p l)))])] := by
  unfold okM at hl
  refine vc_of_ew good hm [0,1,4,7,8,9,5,16] Tryz.func187 rfl (by kernel_rfl) (by kernel_rfl) rfl ?_
  simp [Tryz.f187]
  refine ew_loop (fun E => ∃ i : Nat, i ≤ l.length ∧ anyT p l i = false ∧ E = { nt := 19, sl := [(0, vStrS l), (1, .fn k []), (7, int .i64 l.length), (8, int .i64 i)], bx := [], rt := [] }) (fun E => l.length - (E.num 8).toNat) _ (Gh.kb _ [0,1,7,8] [] []) ⟨0, by omega, anyT_zero _ _, by simp⟩ ?_
  rintro E1 ⟨i, hi, hall, rfl⟩
  simp
  refine ⟨fun h => ⟨h, .of (hk _ (getD_mem (⟨#[]⟩ : ByteArray) h)) ?_⟩, fun h => ?_⟩
  · simp
    refine ⟨fun hp => (idxF_at p (⟨#[]⟩ : ByteArray) h hall hp).symm, fun hp => .of _ (Gh.kb _ [0,1,7,8] [] []) ⟨i + 1, by omega, by rw [anyT_succ p (⟨#[]⟩ : ByteArray) h, hall, hp]; rfl, ?_⟩ ?_⟩
    · simp [wrapS (show i < 9223372036854775807 by omega)]
    · simp [wrapS (show i < 9223372036854775807 by omega)]; omega
  · have : i = l.length := by omega
    subst this
    rw [anyT_all] at hall
    exact (idxF_no p hall).symm
set_option maxHeartbeats 4000000 in
theorem idxStr1_ok (l : List ByteArray) (k : Nat) (ds : List Lf) (p : ByteArray → Bool) (hl : okM l.length) (hk : ∀ x ∈ l, VC Tryz.prog k [str x, .p (.ps ds)] [(false, [(.s, .sc (.bool (p x)))])]) :
    VC Tryz.prog 187 [vStrS l, .fn k [.ps ds]] [(false, [(.s, .sc (.int .i64 (idxF p l)))])] := by
  unfold okM at hl
  refine vc_of_ew good hm [0,1,4,7,8,9,5,16] Tryz.func187 rfl (by kernel_rfl) (by kernel_rfl) rfl ?_
  simp [Tryz.f187]
  refine ew_loop (fun E => ∃ i : Nat, i ≤ l.length ∧ anyT p l i = false ∧ E = { nt := 19, sl := [(0, vStrS l), (1, .fn k [.ps ds]), (7, int .i64 l.length), (8, int .i64 i)], bx := [], rt := [] }) (fun E => l.length - (E.num 8).toNat) _ (Gh.kb _ [0,1,7,8] [] []) ⟨0, by omega, anyT_zero _ _, by simp⟩ ?_
  rintro E1 ⟨i, hi, hall, rfl⟩
  simp
  refine ⟨fun h => ⟨h, .of (hk _ (getD_mem (⟨#[]⟩ : ByteArray) h)) ?_⟩, fun h => ?_⟩
  · simp
    refine ⟨fun hp => (idxF_at p (⟨#[]⟩ : ByteArray) h hall hp).symm, fun hp => .of _ (Gh.kb _ [0,1,7,8] [] []) ⟨i + 1, by omega, by rw [anyT_succ p (⟨#[]⟩ : ByteArray) h, hall, hp]; rfl, ?_⟩ ?_⟩
    · simp [wrapS (show i < 9223372036854775807 by omega)]
    · simp [wrapS (show i < 9223372036854775807 by omega)]; omega
  · have : i = l.length := by omega
    subst this
    rw [anyT_all] at hall
    exact (idxF_no p hall).symm
set_option maxHeartbeats 4000000 in
theorem idxStr2_ok (l : List ByteArray) (k : Nat) (ds es : List Lf) (p : ByteArray → Bool) (hl : okM l.length) (hk : ∀ x ∈ l, VC Tryz.prog k [str x, .p (.ps ds), .p (.ps es)] [(false, [(.s, .sc (.bool (p x)))])]) :
    VC Tryz.prog 187 [vStrS l, .fn k [.ps ds, .ps es]] [(false, [(.s, .sc (.int .i64 (idxF p l)))])] := by
  unfold okM at hl
  refine vc_of_ew good hm [0,1,4,7,8,9,5,16] Tryz.func187 rfl (by kernel_rfl) (by kernel_rfl) rfl ?_
  simp [Tryz.f187]
  refine ew_loop (fun E => ∃ i : Nat, i ≤ l.length ∧ anyT p l i = false ∧ E = { nt := 19, sl := [(0, vStrS l), (1, .fn k [.ps ds, .ps es]), (7, int .i64 l.length), (8, int .i64 i)], bx := [], rt := [] }) (fun E => l.length - (E.num 8).toNat) _ (Gh.kb _ [0,1,7,8] [] []) ⟨0, by omega, anyT_zero _ _, by simp⟩ ?_
  rintro E1 ⟨i, hi, hall, rfl⟩
  simp
  refine ⟨fun h => ⟨h, .of (hk _ (getD_mem (⟨#[]⟩ : ByteArray) h)) ?_⟩, fun h => ?_⟩
  · simp
    refine ⟨fun hp => (idxF_at p (⟨#[]⟩ : ByteArray) h hall hp).symm, fun hp => .of _ (Gh.kb _ [0,1,7,8] [] []) ⟨i + 1, by omega, by rw [anyT_succ p (⟨#[]⟩ : ByteArray) h, hall, hp]; rfl, ?_⟩ ?_⟩
    · simp [wrapS (show i < 9223372036854775807 by omega)]
    · simp [wrapS (show i < 9223372036854775807 by omega)]; omega
  · have : i = l.length := by omega
    subst this
    rw [anyT_all] at hall
    exact (idxF_no p hall).symm
set_option maxHeartbeats 4000000 in
theorem idxCol0_ok (l : List GCol) (k : Nat)  (p : GCol → Bool) (hl : okM l.length) (hk : ∀ x ∈ l, VC Tryz.prog k [vCol x] [(false, [(.s, .sc (.bool (p x)))])]) :
    VC Tryz.prog 188 [vColS l, .fn k []] [(false, [(.s, .sc (.int .i64 (idxF p l)))])] := by
  unfold okM at hl
  refine vc_of_ew good hm [0,1,4,7,8,9,5,16] Tryz.func188 rfl (by kernel_rfl) (by kernel_rfl) rfl ?_
  simp [Tryz.f188]
  refine ew_loop (fun E => ∃ i : Nat, i ≤ l.length ∧ anyT p l i = false ∧ E = { nt := 19, sl := [(0, vColS l), (1, .fn k []), (7, int .i64 l.length), (8, int .i64 i)], bx := [], rt := [] }) (fun E => l.length - (E.num 8).toNat) _ (Gh.kb _ [0,1,7,8] [] []) ⟨0, by omega, anyT_zero _ _, by simp⟩ ?_
  rintro E1 ⟨i, hi, hall, rfl⟩
  simp
  refine ⟨fun h => ⟨h, .of (hk _ (getD_mem dCol h)) ?_⟩, fun h => ?_⟩
  · simp
    refine ⟨fun hp => (idxF_at p dCol h hall hp).symm, fun hp => .of _ (Gh.kb _ [0,1,7,8] [] []) ⟨i + 1, by omega, by rw [anyT_succ p dCol h, hall, hp]; rfl, ?_⟩ ?_⟩
    · simp [wrapS (show i < 9223372036854775807 by omega)]
    · simp [wrapS (show i < 9223372036854775807 by omega)]; omega
  · have : i = l.length := by omega
    subst this
    rw [anyT_all] at hall
    exact (idxF_no p hall).symm
set_option maxHeartbeats 4000000 in
theorem idxCol1_ok (l : List GCol) (k : Nat) (ds : List Lf) (p : GCol → Bool) (hl : okM l.length) (hk : ∀ x ∈ l, VC Tryz.prog k [vCol x, .p (.ps ds)] [(false, [(.s, .sc (.bool (p x)))])]) :
    VC Tryz.prog 188 [vColS l, .fn k [.ps ds]] [(false, [(.s, .sc (.int .i64 (idxF p l)))])] := by
  unfold okM at hl
  refine vc_of_ew good hm [0,1,4,7,8,9,5,16] Tryz.func188 rfl (by kernel_rfl) (by kernel_rfl) rfl ?_
  simp [Tryz.f188]
  refine ew_loop (fun E => ∃ i : Nat, i ≤ l.length ∧ anyT p l i = false ∧ E = { nt := 19, sl := [(0, vColS l), (1, .fn k [.ps ds]), (7, int .i64 l.length), (8, int .i64 i)], bx := [], rt := [] }) (fun E => l.length - (E.num 8).toNat) _ (Gh.kb _ [0,1,7,8] [] []) ⟨0, by omega, anyT_zero _ _, by simp⟩ ?_
  rintro E1 ⟨i, hi, hall, rfl⟩
  simp
  refine ⟨fun h => ⟨h, .of (hk _ (getD_mem dCol h)) ?_⟩, fun h => ?_⟩
  · simp
    refine ⟨fun hp => (idxF_at p dCol h hall hp).symm, fun hp => .of _ (Gh.kb _ [0,1,7,8] [] []) ⟨i + 1, by omega, by rw [anyT_succ p dCol h, hall, hp]; rfl, ?_⟩ ?_⟩
    · simp [wrapS (show i < 9223372036854775807 by omega)]
    · simp [wrapS (show i < 9223372036854775807 by omega)]; omega
  · have : i = l.length := by omega
    subst this
    rw [anyT_all] at hall
    exact (idxF_no p hall).symm
set_option maxHeartbeats 4000000 in
theorem idxCol2_ok (l : List GCol) (k : Nat) (ds es : List Lf) (p : GCol → Bool) (hl : okM l.length) (hk : ∀ x ∈ l, VC Tryz.prog k [vCol x, .p (.ps ds), .p (.ps es)] [(false, [(.s, .sc (.bool (p x)))])]) :
    VC Tryz.prog 188 [vColS l, .fn k [.ps ds, .ps es]] [(false, [(.s, .sc (.int .i64 (idxF p l)))])] := by
  unfold okM at hl
  refine vc_of_ew good hm [0,1,4,7,8,9,5,16] Tryz.func188 rfl (by kernel_rfl) (by kernel_rfl) rfl ?_
  simp [Tryz.f188]
  refine ew_loop (fun E => ∃ i : Nat, i ≤ l.length ∧ anyT p l i = false ∧ E = { nt := 19, sl := [(0, vColS l), (1, .fn k [.ps ds, .ps es]), (7, int .i64 l.length), (8, int .i64 i)], bx := [], rt := [] }) (fun E => l.length - (E.num 8).toNat) _ (Gh.kb _ [0,1,7,8] [] []) ⟨0, by omega, anyT_zero _ _, by simp⟩ ?_
  rintro E1 ⟨i, hi, hall, rfl⟩
  simp
  refine ⟨fun h => ⟨h, .of (hk _ (getD_mem dCol h)) ?_⟩, fun h => ?_⟩
  · simp
    refine ⟨fun hp => (idxF_at p dCol h hall hp).symm, fun hp => .of _ (Gh.kb _ [0,1,7,8] [] []) ⟨i + 1, by omega, by rw [anyT_succ p dCol h, hall, hp]; rfl, ?_⟩ ?_⟩
    · simp [wrapS (show i < 9223372036854775807 by omega)]
    · simp [wrapS (show i < 9223372036854775807 by omega)]; omega
  · have : i = l.length := by omega
    subst this
    rw [anyT_all] at hall
    exact (idxF_no p hall).symm
set_option maxHeartbeats 4000000 in
theorem idxRow0_ok (l : List GRow) (k : Nat)  (p : GRow → Bool) (hl : okM l.length) (hk : ∀ x ∈ l, VC Tryz.prog k [vRow x] [(false, [(.s, .sc (.bool (p x)))])]) :
    VC Tryz.prog 227 [vRowS l, .fn k []] [(false, [(.s, .sc (.int .i64 (idxF p l)))])] := by
  unfold okM at hl
  refine vc_of_ew good hm [0,1,4,7,8,9,5,16] Tryz.func227 rfl (by kernel_rfl) (by kernel_rfl) rfl ?_
  simp [Tryz.f227]
  refine ew_loop (fun E => ∃ i : Nat, i ≤ l.length ∧ anyT p l i = false ∧ E = { nt := 19, sl := [(0, vRowS l), (1, .fn k []), (7, int .i64 l.length), (8, int .i64 i)], bx := [], rt := [] }) (fun E => l.length - (E.num 8).toNat) _ (Gh.kb _ [0,1,7,8] [] []) ⟨0, by omega, anyT_zero _ _, by simp⟩ ?_
  rintro E1 ⟨i, hi, hall, rfl⟩
  simp
  refine ⟨fun h => ⟨h, .of (hk _ (getD_mem dRow h)) ?_⟩, fun h => ?_⟩
  · simp
    refine ⟨fun hp => (idxF_at p dRow h hall hp).symm, fun hp => .of _ (Gh.kb _ [0,1,7,8] [] []) ⟨i + 1, by omega, by rw [anyT_succ p dRow h, hall, hp]; rfl, ?_⟩ ?_⟩
    · simp [wrapS (show i < 9223372036854775807 by omega)]
    · simp [wrapS (show i < 9223372036854775807 by omega)]; omega
  · have : i = l.length := by omega
    subst this
    rw [anyT_all] at hall
    exact (idxF_no p hall).symm
set_option maxHeartbeats 4000000 in
theorem idxRow1_ok (l : List GRow) (k : Nat) (ds : List Lf) (p : GRow → Bool) (hl : okM l.length) (hk : ∀ x ∈ l, VC Tryz.prog k [vRow x, .p (.ps ds)] [(false, [(.s, .sc (.bool (p x)))])]) :
    VC Tryz.prog 227 [vRowS l, .fn k [.ps ds]] [(false, [(.s, .sc (.int .i64 (idxF p l)))])] := by
  unfold okM at hl
  refine vc_of_ew good hm [0,1,4,7,8,9,5,16] Tryz.func227 rfl (by kernel_rfl) (by kernel_rfl) rfl ?_
  simp [Tryz.f227]
  refine ew_loop (fun E => ∃ i : Nat, i ≤ l.length ∧ anyT p l i = false ∧ E = { nt := 19, sl := [(0, vRowS l), (1, .fn k [.ps ds]), (7, int .i64 l.length), (8, int .i64 i)], bx := [], rt := [] }) (fun E => l.length - (E.num 8).toNat) _ (Gh.kb _ [0,1,7,8] [] []) ⟨0, by omega, anyT_zero _ _, by simp⟩ ?_
  rintro E1 ⟨i, hi, hall, rfl⟩
  simp
  refine ⟨fun h => ⟨h, .of (hk _ (getD_mem dRow h)) ?_⟩, fun h => ?_⟩
  · simp
    refine ⟨fun hp => (idxF_at p dRow h hall hp).symm, fun hp => .of _ (Gh.kb _ [0,1,7,8] [] []) ⟨i + 1, by omega, by rw [anyT_succ p dRow h, hall, hp]; rfl, ?_⟩ ?_⟩
    · simp [wrapS (show i < 9223372036854775807 by omega)]
    · simp [wrapS (show i < 9223372036854775807 by omega)]; omega
  · have : i = l.length := by omega
    subst this
    rw [anyT_all] at hall
    exact (idxF_no p hall).symm
set_option maxHeartbeats 4000000 in
theorem idxRow2_ok (l : List GRow) (k : Nat) (ds es : List Lf) (p : GRow → Bool) (hl : okM l.length) (hk : ∀ x ∈ l, VC Tryz.prog k [vRow x, .p (.ps ds), .p (.ps es)] [(false, [(.s, .sc (.bool (p x)))])]) :
    VC Tryz.prog 227 [vRowS l, .fn k [.ps ds, .ps es]] [(false, [(.s, .sc (.int .i64 (idxF p l)))])] := by
  unfold okM at hl
  refine vc_of_ew good hm [0,1,4,7,8,9,5,16] Tryz.func227 rfl (by kernel_rfl) (by kernel_rfl) rfl ?_
  simp [Tryz.f227]
  refine ew_loop (fun E => ∃ i : Nat, i ≤ l.length ∧ anyT p l i = false ∧ E = { nt := 19, sl := [(0, vRowS l), (1, .fn k [.ps ds, .ps es]), (7, int .i64 l.length), (8, int .i64 i)], bx := [], rt := [] }) (fun E => l.length - (E.num 8).toNat) _ (Gh.kb _ [0,1,7,8] [] []) ⟨0, by omega, anyT_zero _ _, by simp⟩ ?_
  rintro E1 ⟨i, hi, hall, rfl⟩
  simp
  refine ⟨fun h => ⟨h, .of (hk _ (getD_mem dRow h)) ?_⟩, fun h => ?_⟩
  · simp
    refine ⟨fun hp => (idxF_at p dRow h hall hp).symm, fun hp => .of _ (Gh.kb _ [0,1,7,8] [] []) ⟨i + 1, by omega, by rw [anyT_succ p dRow h, hall, hp]; rfl, ?_⟩ ?_⟩
    · simp [wrapS (show i < 9223372036854775807 by omega)]
    · simp [wrapS (show i < 9223372036854775807 by omega)]; omega
  · have : i = l.length := by omega
    subst this
    rw [anyT_all] at hall
    exact (idxF_no p hall).symm
set_option maxHeartbeats 4000000 in
theorem idxVal0_ok (l : List GVal) (k : Nat)  (p : GVal → Bool) (hl : okM l.length) (hk : ∀ x ∈ l, VC Tryz.prog k [vVal x] [(false, [(.s, .sc (.bool (p x)))])]) :
    VC Tryz.prog 253 [vValS l, .fn k []] [(false, [(.s, .sc (.int .i64 (idxF p l)))])] := by
  unfold okM at hl
  refine vc_of_ew good hm [0,1,4,7,8,9,5,16] Tryz.func253 rfl (by kernel_rfl) (by kernel_rfl) rfl ?_
  simp [Tryz.f253]
  refine ew_loop (fun E => ∃ i : Nat, i ≤ l.length ∧ anyT p l i = false ∧ E = { nt := 19, sl := [(0, vValS l), (1, .fn k []), (7, int .i64 l.length), (8, int .i64 i)], bx := [], rt := [] }) (fun E => l.length - (E.num 8).toNat) _ (Gh.kb _ [0,1,7,8] [] []) ⟨0, by omega, anyT_zero _ _, by simp⟩ ?_
  rintro E1 ⟨i, hi, hall, rfl⟩
  simp
  refine ⟨fun h => ⟨h, .of (hk _ (getD_mem dVal h)) ?_⟩, fun h => ?_⟩
  · simp
    refine ⟨fun hp => (idxF_at p dVal h hall hp).symm, fun hp => .of _ (Gh.kb _ [0,1,7,8] [] []) ⟨i + 1, by omega, by rw [anyT_succ p dVal h, hall, hp]; rfl, ?_⟩ ?_⟩
    · simp [wrapS (show i < 9223372036854775807 by omega)]
    · simp [wrapS (show i < 9223372036854775807 by omega)]; omega
  · have : i = l.length := by omega
    subst this
    rw [anyT_all] at hall
    exact (idxF_no p hall).symm
set_option maxHeartbeats 4000000 in
theorem idxVal1_ok (l : List GVal) (k : Nat) (ds : List Lf) (p : GVal → Bool) (hl : okM l.length) (hk : ∀ x ∈ l, VC Tryz.prog k [vVal x, .p (.ps ds)] [(false, [(.s, .sc (.bool (p x)))])]) :
    VC Tryz.prog 253 [vValS l, .fn k [.ps ds]] [(false, [(.s, .sc (.int .i64 (idxF p l)))])] := by
  unfold okM at hl
  refine vc_of_ew good hm [0,1,4,7,8,9,5,16] Tryz.func253 rfl (by kernel_rfl) (by kernel_rfl) rfl ?_
  simp [Tryz.f253]
  refine ew_loop (fun E => ∃ i : Nat, i ≤ l.length ∧ anyT p l i = false ∧ E = { nt := 19, sl := [(0, vValS l), (1, .fn k [.ps ds]), (7, int .i64 l.length), (8, int .i64 i)], bx := [], rt := [] }) (fun E => l.length - (E.num 8).toNat) _ (Gh.kb _ [0,1,7,8] [] []) ⟨0, by omega, anyT_zero _ _, by simp⟩ ?_
  rintro E1 ⟨i, hi, hall, rfl⟩
  simp
  refine ⟨fun h => ⟨h, .of (hk _ (getD_mem dVal h)) ?_⟩, fun h => ?_⟩
  · simp
    refine ⟨fun hp => (idxF_at p dVal h hall hp).symm, fun hp => .of _ (Gh.kb _ [0,1,7,8] [] []) ⟨i + 1, by omega, by rw [anyT_succ p dVal h, hall, hp]; rfl, ?_⟩ ?_⟩
    · simp [wrapS (show i < 9223372036854775807 by omega)]
    · simp [wrapS (show i < 9223372036854775807 by omega)]; omega
  · have : i = l.length := by omega
    subst this
    rw [anyT_all] at hall
    exact (idxF_no p hall).symm
set_option maxHeartbeats 4000000 in
theorem idxVal2_ok (l : List GVal) (k : Nat) (ds es : List Lf) (p : GVal → Bool) (hl : okM l.length) (hk : ∀ x ∈ l, VC Tryz.prog k [vVal x, .p (.ps ds), .p (.ps es)] [(false, [(.s, .sc (.bool (p x)))])]) :
    VC Tryz.prog 253 [vValS l, .fn k [.ps ds, .ps es]] [(false, [(.s, .sc (.int .i64 (idxF p l)))])] := by
  unfold okM at hl
  refine vc_of_ew good hm [0,1,4,7,8,9,5,16] Tryz.func253 rfl (by kernel_rfl) (by kernel_rfl) rfl ?_
  simp [Tryz.f253]
  refine ew_loop (fun E => ∃ i : Nat, i ≤ l.length ∧ anyT p l i = false ∧ E = { nt := 19, sl := [(0, vValS l), (1, .fn k [.ps ds, .ps es]), (7, int .i64 l.length), (8, int .i64 i)], bx := [], rt := [] }) (fun E => l.length - (E.num 8).toNat) _ (Gh.kb _ [0,1,7,8] [] []) ⟨0, by omega, anyT_zero _ _, by simp⟩ ?_
  rintro E1 ⟨i, hi, hall, rfl⟩
  simp
  refine ⟨fun h => ⟨h, .of (hk _ (getD_mem dVal h)) ?_⟩, fun h => ?_⟩
  · simp
    refine ⟨fun hp => (idxF_at p dVal h hall hp).symm, fun hp => .of _ (Gh.kb _ [0,1,7,8] [] []) ⟨i + 1, by omega, by rw [anyT_succ p dVal h, hall, hp]; rfl, ?_⟩ ?_⟩
    · simp [wrapS (show i < 9223372036854775807 by omega)]
    · simp [wrapS (show i < 9223372036854775807 by omega)]; omega
  · have : i = l.length := by omega
    subst this
    rw [anyT_all] at hall
    exact (idxF_no p hall).symm
theorem hasStr0_ok (l : List ByteArray) (k : Nat)  (p : ByteArray → Bool) (hl : okM l.length) (hk : ∀ x ∈ l, VC Tryz.prog k [str x] [(false, [(.s, .sc (.bool (p x)))])]) :
    VC Tryz.prog 131 [vStrS l, .fn k []] [(false, [(.s, .sc (.bool (l.any p)))])] := by
  refine vc_of_ew good hm [0,1,4] Tryz.func131 rfl (by kernel_rfl) (by kernel_rfl) rfl ?_
  simp [Tryz.f131]
  refine .of (idxStr0_ok l k p hl hk) ?_
  simp
  exact idxF_ge p l
theorem hasStr1_ok (l : List ByteArray) (k : Nat) (ds : List Lf) (p : ByteArray → Bool) (hl : okM l.length) (hk : ∀ x ∈ l, VC Tryz.prog k [str x, .p (.ps ds)] [(false, [(.s, .sc (.bool (p x)))])]) :
    VC Tryz.prog 131 [vStrS l, .fn k [.ps ds]] [(false, [(.s, .sc (.bool (l.any p)))])] := by
  refine vc_of_ew good hm [0,1,4] Tryz.func131 rfl (by kernel_rfl) (by kernel_rfl) rfl ?_
  simp [Tryz.f131]
  refine .of (idxStr1_ok l k ds p hl hk) ?_
  simp
  exact idxF_ge p l
theorem hasVal0_ok (l : List GVal) (k : Nat)  (p : GVal → Bool) (hl : okM l.length) (hk : ∀ x ∈ l, VC Tryz.prog k [vVal x] [(false, [(.s, .sc (.bool (p x)))])]) :
    VC Tryz.prog 223 [vValS l, .fn k []] [(false, [(.s, .sc (.bool (l.any p)))])] := by
  refine vc_of_ew good hm [0,1,4] Tryz.func223 rfl (by kernel_rfl) (by kernel_rfl) rfl ?_
  simp [Tryz.f223]
  refine .of (idxVal0_ok l k p hl hk) ?_
  simp
  exact idxF_ge p l
theorem hasVal1_ok (l : List GVal) (k : Nat) (ds : List Lf) (p : GVal → Bool) (hl : okM l.length) (hk : ∀ x ∈ l, VC Tryz.prog k [vVal x, .p (.ps ds)] [(false, [(.s, .sc (.bool (p x)))])]) :
    VC Tryz.prog 223 [vValS l, .fn k [.ps ds]] [(false, [(.s, .sc (.bool (l.any p)))])] := by
  refine vc_of_ew good hm [0,1,4] Tryz.func223 rfl (by kernel_rfl) (by kernel_rfl) rfl ?_
  simp [Tryz.f223]
  refine .of (idxVal1_ok l k ds p hl hk) ?_
  simp
  exact idxF_ge p l
set_option maxHeartbeats 4000000 in
theorem indexStr_ok (l : List ByteArray) (s : ByteArray) (hl : okM l.length) :
    VC Tryz.prog 273 [vStrS l, str s] [(false, [(.s, .sc (.int .i64 (idxF (fun x => s.toList == x.toList) l)))])] := by
  unfold okM at hl
  refine vc_of_ew good hm [0,1,4,7,8,9,5,16] Tryz.func273 rfl (by kernel_rfl) (by kernel_rfl) rfl ?_
  simp [Tryz.f273]
  refine ew_loop (fun E => ∃ i : Nat, i ≤ l.length ∧ anyT (fun x => s.toList == x.toList) l i = false ∧ E = { nt := 19, sl := [(0, vStrS l), (1, str s), (7, int .i64 l.length), (8, int .i64 i)], bx := [], rt := [] }) (fun E => l.length - (E.num 8).toNat) _ (Gh.kb _ [0,1,7,8] [] []) ⟨0, by omega, anyT_zero _ _, by simp⟩ ?_
  rintro E1 ⟨i, hi, hall, rfl⟩
  simp
  refine ⟨fun h => ⟨h, fun hp => (idxF_at _ (⟨#[]⟩ : ByteArray) h hall (by simpa using hp)).symm, fun hp => .of _ (Gh.kb _ [0,1,7,8] [] []) ⟨i + 1, by omega, by rw [anyT_succ _ (⟨#[]⟩ : ByteArray) h, hall]; simpa using hp, ?_⟩ ?_⟩, fun h => ?_⟩
  · simp [wrapS (show i < 9223372036854775807 by omega)]
  · simp [wrapS (show i < 9223372036854775807 by omega)]; omega
  · have : i = l.length := by omega
    subst this
    rw [anyT_all] at hall
    exact (idxF_no _ hall).symm
theorem containsStr_ok (l : List ByteArray) (s : ByteArray) (hl : okM l.length) :
    VC Tryz.prog 280 [vStrS l, str s] [(false, [(.s, .sc (.bool (l.any (fun x => s.toList == x.toList))))])] := by
  refine vc_of_ew good hm [0,1,4] Tryz.func280 rfl (by kernel_rfl) (by kernel_rfl) rfl ?_
  simp [Tryz.f280]
  refine .of (indexStr_ok l s hl) ?_
  simp
  rw [idxF_ge]

end Go.Proofs.YtkciklpdhhcblaaGreat
