import Derived.Test.YtkciklpdhhcblaaTable
namespace Go.Proofs.Ytkciklpdhhcblaa
open Go Go.Proofs Go.Sm
attribute [local simp] ti eStr eInt eByte eVal cVal vVal eValS vValS eRow cRow vRow eCol cCol vCol eColS vColS eStrS vStrS eDdl cDdl vDdl eStmt cStmt vStmt ePart cPart vPart ePartS vPartS eBatch cBatch vBatch eTable cTable vTable eTableS vTableS eCat cCat vCat eRowS vRowS eRows cRows vRows eRowsS vRowsS eDb cDb vDb eFol cFol vFol eRec cRec vRec
set_option linter.unusedVariables false
set_option linter.unusedSimpArgs false
def has (l : List ByteArray) (s : ByteArray) : Bool := l.any (fun x => s.toList == x.toList)
theorem has_flip (l : List ByteArray) (s : ByteArray) : l.any (fun x => x.toList == s.toList) = has l s := by
  unfold has
  congr 1
  funext x
  exact Bool.beq_comm
def onceAt (l : List ByteArray) (i : Nat) : Bool := !has (l.take i) (l[i]?.getD ⟨#[]⟩)
def onceTo (l : List ByteArray) (n : Nat) : Bool := (List.range n).all (onceAt l)
def once (l : List ByteArray) : Bool := onceTo l l.length
def allIn (a b : List ByteArray) : Bool := !a.any (fun s => !has b s)
theorem okM_take {l : List ByteArray} (h : okStrS l) (i : Nat) : okM (l.take i).length := by
  have := h.1
  unfold okM at *
  rw [List.length_take]
  omega
set_option maxHeartbeats 4000000 in
theorem l02Has_ok (l : List ByteArray) (s : ByteArray) (hl : okM l.length) : VC Try.prog 44 [vStrS l, str s] [(false, [(.s, .sc (.bool (has l s)))])] := by
  unfold okM at hl
  refine vc_of_ew good hm [0,1,4,7,8,9,10,6,15] Try.func44 rfl (by kernel_rfl) (by kernel_rfl) rfl ?_
  simp [Try.f44]
  refine ew_loop (fun E => ∃ i : Nat, i ≤ l.length ∧ anyT (fun x => x.toList == s.toList) l i = false ∧ E = { nt := 17, sl := [(1, str s), (7, vStrS l), (8, int .i64 l.length), (9, int .i64 i)], bx := [], rt := [] }) (fun E => l.length - (E.num 9).toNat) _ (Gh.kb _ [1,7,8,9] [] []) ⟨0, by omega, anyT_zero _ _, by simp⟩ ?_
  rintro E1 ⟨i, hi, hall, rfl⟩
  simp
  refine ⟨fun h => ⟨h, fun hp => ?_, fun hp => .of _ (Gh.kb _ [1,7,8,9] [] []) ⟨i + 1, by omega, by rw [anyT_succ _ ⟨#[]⟩ h, hall]; simpa using hp, ?_⟩ ?_⟩, fun h => ?_⟩
  · rw [← has_flip, List.any_eq_true]
    exact ⟨_, getD_mem ⟨#[]⟩ h, by simpa using hp⟩
  · simp [wrapS (show i < 9223372036854775807 by omega)]
  · simp [wrapS (show i < 9223372036854775807 by omega)]; omega
  · have : i = l.length := by omega
    subst this
    rw [anyT_all, has_flip] at hall
    exact hall
set_option maxHeartbeats 4000000 in
theorem l10Once_ok (l : List ByteArray) (hl : okStrS l) : VC Try.prog 41 [vStrS l] [(false, [(.s, .sc (.bool (once l)))])] := by
  have hll : l.length ≤ 9223372036854775807 := hl.1
  refine vc_of_ew good hm [0,2,5,6,7,8,3,4,16] Try.func41 rfl (by kernel_rfl) (by kernel_rfl) rfl ?_
  simp [Try.f41]
  refine ew_loop (fun E => ∃ i : Nat, i ≤ l.length ∧ onceTo l i = true ∧ E = { nt := 18, sl := [(0, vStrS l), (5, vStrS l), (6, int .i64 l.length), (7, int .i64 i)], bx := [], rt := [] }) (fun E => l.length - (E.num 7).toNat) _ (Gh.kb _ [0,5,6,7] [] []) ⟨0, by omega, by simp [onceTo], by simp⟩ ?_
  rintro E1 ⟨i, hi, hall, rfl⟩
  simp
  refine ⟨fun h => ⟨h, hi, ?_⟩, fun h => ?_⟩
  · rw [← List.map_take]
    refine .of (l02Has_ok (l.take i) _ (okM_take hl i)) ?_
    simp
    refine ⟨fun hp => ?_, fun hp => .of _ (Gh.kb _ [0,5,6,7] [] []) ⟨i + 1, by omega, ?_, ?_⟩ ?_⟩
    · rw [once, onceTo, rangeAll_no h (by simp [onceAt, hp])]
    · rw [onceTo, rangeAll_succ]; unfold onceTo at hall; rw [hall]; simp [onceAt, hp]
    · simp [wrapS (show i < 9223372036854775807 by omega)]
    · simp [wrapS (show i < 9223372036854775807 by omega)]; omega
  · have : i = l.length := by omega
    subst this
    exact hall
set_option maxHeartbeats 4000000 in
theorem isTwice_ok (l : List ByteArray) (hl : okStrS l) : VC Try.prog 50 [vStrS l] [(false, [(.s, .sc (.bool (!once l)))])] := by
  have hll : l.length ≤ 9223372036854775807 := hl.1
  refine vc_of_ew good hm [0,2,5,6,7,8,3,4,16] Try.func50 rfl (by kernel_rfl) (by kernel_rfl) rfl ?_
  simp [Try.f50]
  refine ew_loop (fun E => ∃ i : Nat, i ≤ l.length ∧ onceTo l i = true ∧ E = { nt := 18, sl := [(0, vStrS l), (5, vStrS l), (6, int .i64 l.length), (7, int .i64 i)], bx := [], rt := [] }) (fun E => l.length - (E.num 7).toNat) _ (Gh.kb _ [0,5,6,7] [] []) ⟨0, by omega, by simp [onceTo], by simp⟩ ?_
  rintro E1 ⟨i, hi, hall, rfl⟩
  simp
  refine ⟨fun h => ⟨h, hi, ?_⟩, fun h => ?_⟩
  · rw [← List.map_take]
    refine .of (containsStr_ok (l.take i) _ (okM_take hl i)) ?_
    rw [show ((l.take i).any fun x => (l[i]?.getD (⟨#[]⟩ : ByteArray)).toList == x.toList) = has (l.take i) (l[i]?.getD ⟨#[]⟩) from rfl]
    simp
    refine ⟨fun hp => ?_, fun hp => .of _ (Gh.kb _ [0,5,6,7] [] []) ⟨i + 1, by omega, ?_, ?_⟩ ?_⟩
    · rw [once, onceTo, rangeAll_no h (by simp [onceAt, hp])]
    · rw [onceTo, rangeAll_succ]; unfold onceTo at hall; rw [hall]; simp [onceAt, hp]
    · simp [wrapS (show i < 9223372036854775807 by omega)]
    · simp [wrapS (show i < 9223372036854775807 by omega)]; omega
  · have : i = l.length := by omega
    subst this
    exact hall
set_option maxHeartbeats 4000000 in
theorem l10All_ok (a b : List ByteArray) (ha : okM a.length) (hb : okM b.length) : VC Try.prog 42 [vStrS a, vStrS b] [(false, [(.s, .sc (.bool (allIn a b)))])] := by
  unfold okM at ha
  refine vc_of_ew good hm [0,1,4,7,8,9,10,6,16] Try.func42 rfl (by kernel_rfl) (by kernel_rfl) rfl ?_
  simp [Try.f42]
  refine ew_loop (fun E => ∃ i : Nat, i ≤ a.length ∧ anyT (fun s => !has b s) a i = false ∧ E = { nt := 18, sl := [(1, vStrS b), (7, vStrS a), (8, int .i64 a.length), (9, int .i64 i)], bx := [], rt := [] }) (fun E => a.length - (E.num 9).toNat) _ (Gh.kb _ [1,7,8,9] [] []) ⟨0, by omega, anyT_zero _ _, by simp⟩ ?_
  rintro E1 ⟨i, hi, hall, rfl⟩
  simp
  refine ⟨fun h => ⟨h, .of (l02Has_ok b _ hb) ?_⟩, fun h => ?_⟩
  · simp
    refine ⟨fun hp => ?_, fun hp => .of _ (Gh.kb _ [1,7,8,9] [] []) ⟨i + 1, by omega, by rw [anyT_succ _ ⟨#[]⟩ h, hall, hp]; rfl, ?_⟩ ?_⟩
    · have : a.any (fun s => !has b s) = true := List.any_eq_true.2 ⟨_, getD_mem ⟨#[]⟩ h, by rw [hp]; rfl⟩
      simp [allIn, this]
    · simp [wrapS (show i < 9223372036854775807 by omega)]
    · simp [wrapS (show i < 9223372036854775807 by omega)]; omega
  · have : i = a.length := by omega
    subst this
    rw [anyT_all] at hall
    simp only [allIn, hall, Bool.not_false]
theorem drift1_ok (cols : List ByteArray) (k : ByteArray) (hc : okM cols.length) : VC Try.prog 47 [str k, .p (.ps (eStrS cols))] [(false, [(.s, .sc (.bool (!has cols k)))])] := by
  refine vc_of_ew good hm [0,1,3] Try.func47 rfl (by kernel_rfl) (by kernel_rfl) rfl ?_
  simp [Try.f47]
  refine .of (containsStr_ok cols k hc) ?_
  simp [has]
theorem areKeys1_ok (cols : List ByteArray) (k : ByteArray) (hc : okM cols.length) : VC Try.prog 93 [str k, .p (.ps (eStrS cols))] [(false, [(.s, .sc (.bool (!has cols k)))])] := by
  refine vc_of_ew good hm [0,1,3] Try.func93 rfl (by kernel_rfl) (by kernel_rfl) rfl ?_
  simp [Try.f93]
  refine .of (containsStr_ok cols k hc) ?_
  simp [has]
theorem isUnknown1_ok (t : GTable) (c : ByteArray) (hc : okM t.fCols.length) : VC Try.prog 92 [str c, .p (.ps (eTable t))] [(false, [(.s, .sc (.bool (decide (colAt t c < 0))))])] := by
  refine vc_of_ew good hm [0,1,3] Try.func92 rfl (by kernel_rfl) (by kernel_rfl) rfl ?_
  simp [Try.f92]
  refine .of (colAtI_ok t c hc) ?_
  simp
def unk (t : GTable) (cols : List ByteArray) : Bool := cols.any (fun c => decide (colAt t c < 0))
theorem isUnknown_ok (t : GTable) (cols : List ByteArray) (hc : okM t.fCols.length) (hl : okM cols.length) : VC Try.prog 51 [vTable t, vStrS cols] [(false, [(.s, .sc (.bool (unk t cols)))])] := by
  refine vc_of_ew good hm [0,1,2,4] Try.func51 rfl (by kernel_rfl) (by kernel_rfl) rfl ?_
  simp [Try.f51]
  refine .of (hasStr1_ok cols _ _ (fun c => decide (colAt t c < 0)) hl (fun x _ => isUnknown1_ok t x hc)) ?_
  simp [unk]
def areKeys (t : GTable) (keys : List ByteArray) : Bool := decide ((keys.length : Int) = t.fKeys.length) && allIn t.fKeys keys
theorem areKeys_ok (t : GTable) (keys : List ByteArray) (hk : okM t.fKeys.length) (hl : okM keys.length) : VC Try.prog 52 [vTable t, vStrS keys] [(false, [(.s, .sc (.bool (areKeys t keys)))])] := by
  refine vc_of_ew good hm [0,1,2,3,4] Try.func52 rfl (by kernel_rfl) (by kernel_rfl) rfl ?_
  simp [Try.f52]
  refine .of (fun h => ⟨h, hasStr1_ok t.fKeys _ _ (fun x => !has keys x) hk (fun x _ => areKeys1_ok keys x hl)⟩) ?_
  simp [areKeys, allIn]

/-! the keys of a table and the keys told: the same set -/
theorem has_iff {l : List ByteArray} {s : ByteArray} : has l s = true ↔ s.toList ∈ l.map ByteArray.toList := by
  unfold has
  rw [List.any_eq_true, List.mem_map]
  constructor
  · rintro ⟨x, hx, h⟩
    exact ⟨x, hx, (eq_of_beq h).symm⟩
  · rintro ⟨x, hx, h⟩
    exact ⟨x, hx, beq_iff_eq.2 h.symm⟩
theorem allIn_iff {a b : List ByteArray} : allIn a b = true ↔ ∀ s ∈ a.map ByteArray.toList, s ∈ b.map ByteArray.toList := by
  unfold allIn
  rw [Bool.not_eq_true', List.any_eq_false]
  simp only [Bool.not_eq_true', Bool.not_eq_false]
  constructor
  · intro h s hs
    obtain ⟨x, hx, rfl⟩ := List.mem_map.1 hs
    exact has_iff.1 (h x hx)
  · intro h x hx
    exact has_iff.2 (h _ (List.mem_map.2 ⟨x, hx, rfl⟩))
theorem once_nodup : ∀ {l : List ByteArray}, once l = true → (l.map ByteArray.toList).Nodup := by
  intro l h
  rw [List.nodup_iff_pairwise_ne, List.pairwise_iff_getElem]
  intro i j hi hj hij he
  simp only [List.length_map] at hi hj
  simp only [once, onceTo, List.all_eq_true, List.mem_range] at h
  have h1 := h j hj
  simp only [onceAt, Bool.not_eq_true', List.getElem?_eq_getElem hj, Option.getD_some] at h1
  rw [← Bool.not_eq_true, has_iff] at h1
  apply h1
  simp only [List.getElem_map] at he
  rw [← he]
  exact List.mem_map.2 ⟨_, List.mem_take_iff_getElem.2 ⟨i, by omega, rfl⟩, rfl⟩
theorem nodup_le {α : Type} [DecidableEq α] : ∀ {a b : List α}, a.Nodup → (∀ x ∈ a, x ∈ b) → a.length ≤ b.length
  | [], _, _, _ => by simp
  | x :: a, b, h, hs => by
    rw [List.nodup_cons] at h
    have hx : x ∈ b := hs x (by simp)
    have h1 := nodup_le (b := b.erase x) h.2 (fun y hy => by
      have hne : y ≠ x := fun e => h.1 (e ▸ hy)
      exact (List.mem_erase_of_ne hne).2 (hs y (by simp [hy])))
    rw [List.length_erase_of_mem hx] at h1
    have := List.length_pos_of_mem hx
    simp only [List.length_cons]
    omega
theorem nodup_sup {α : Type} [DecidableEq α] {a b : List α} (ha : a.Nodup) (hs : ∀ x ∈ a, x ∈ b) (hl : b.length ≤ a.length) : ∀ x ∈ b, x ∈ a := by
  intro x hx
  apply Classical.byContradiction
  intro hn
  have h1 := nodup_le (a := a) (b := b.erase x) ha (fun y hy => by
    have hne : y ≠ x := fun e => hn (e ▸ hy)
    exact (List.mem_erase_of_ne hne).2 (hs y hy))
  rw [List.length_erase_of_mem hx] at h1
  have := List.length_pos_of_mem hx
  omega
theorem keys_inc {t : GTable} (h : keysTo t t.fKeys.length = true) : ∀ i j, i < j → j < t.fKeys.length → colAt t (t.fKeys[i]?.getD ⟨#[]⟩) < colAt t (t.fKeys[j]?.getD ⟨#[]⟩) := by
  intro i j hij hj
  simp only [keysTo, List.all_eq_true, List.mem_range] at h
  induction j with
  | zero => omega
  | succ j ih =>
    have h1 := h (j + 1) hj
    simp only [keyOkAt, lastK_succ, Bool.and_eq_true, decide_eq_true_eq] at h1
    rcases Nat.lt_or_ge i j with h2 | h2
    · exact Int.lt_trans (ih h2 (by omega)) h1.1
    · have : i = j := by omega
      subst this
      exact h1.1
theorem keys_nodup {t : GTable} (h : tableOk t = true) : (t.fKeys.map ByteArray.toList).Nodup := by
  simp only [tableOk, Bool.and_eq_true] at h
  have hk := keys_inc h.2.2
  rw [List.nodup_iff_pairwise_ne, List.pairwise_iff_getElem]
  intro i j hi hj hij he
  simp only [List.length_map] at hi hj
  have := hk i j hij hj
  simp only [List.getElem_map] at he
  rw [List.getElem?_eq_getElem hi, List.getElem?_eq_getElem hj, Option.getD_some, Option.getD_some] at this
  unfold colAt at this
  rw [he] at this
  omega
theorem areKeys_same {t : GTable} {keys : List ByteArray} (ht : tableOk t = true) (hk : once keys = true) : areKeys t keys = (allIn keys t.fKeys && allIn t.fKeys keys) := by
  rw [Bool.eq_iff_iff]
  simp only [areKeys, Bool.and_eq_true, decide_eq_true_eq]
  constructor
  · rintro ⟨h1, h2⟩
    refine ⟨allIn_iff.2 ?_, h2⟩
    exact nodup_sup (keys_nodup ht) (allIn_iff.1 h2) (by simp; omega)
  · rintro ⟨h1, h2⟩
    refine ⟨?_, h2⟩
    have e1 := nodup_le (once_nodup hk) (allIn_iff.1 h1)
    have e2 := nodup_le (keys_nodup ht) (allIn_iff.1 h2)
    simp at e1 e2
    omega

def lackAt (cols : List ByteArray) (c : GCol) : Bool := c.fNot && !c.fHas && !has cols c.fName
def drift (cols keys : List ByteArray) (t : GTable) : Int :=
  if !(tableOk t && once cols && once keys && allIn keys cols) then 1 else if unk t cols then 11 else if !(allIn keys t.fKeys && allIn t.fKeys keys) then 12 else if t.fCols.any (lackAt cols) then 13 else 0
set_option maxHeartbeats 8000000 in
set_option maxRecDepth 4000 in
theorem S_Drift_ok (cols keys : List ByteArray) (t : GTable) (o0 : okStrS cols) (_ : ∀ n ∈ wStrS cols, n ≤ 1048576) (_ : (wStrS cols).sum ≤ 1048576) (o1 : okStrS keys) (_ : ∀ n ∈ wStrS keys, n ≤ 1048576) (_ : (wStrS keys).sum ≤ 1048576) (o2 : okTable t) (_ : ∀ n ∈ wTable t, n ≤ 1048576) (_ : (wTable t).sum ≤ 1048576) :
    VC Try.prog 12 [vStrS cols, vStrS keys, vTable t] [(false, [(.s, .sc (.int .i64 (drift cols keys t)))])] := by
  have hcl : cols.length ≤ 9223372036854775807 := o0.1
  have htl : t.fCols.length ≤ 9223372036854775807 := o2.2.1.1
  refine vc_of_ew good hm [0,1,2,5,6,29,30,31,32,33,8,39,52,54,55,56,57,10,73] Try.func12 rfl (by kernel_rfl) (by kernel_rfl) rfl ?_
  simp [Try.f12]
  refine .of (tableOkS_ok t o2) ?_
  simp
  refine .of (fun h => ⟨h, l10Once_ok cols o0⟩) ?_
  simp
  refine .of (fun h => ⟨h, l10Once_ok keys o1⟩) ?_
  simp
  refine .of (fun h => ⟨h, l10All_ok keys cols o1.1 o0.1⟩) ?_
  simp
  refine ⟨fun h => by grind [drift], fun a1 a2 a3 a4 => ?_⟩
  refine ew_loop (fun E => ∃ i : Nat, i ≤ cols.length ∧ anyT (fun c => decide (colAt t c < 0)) cols i = false ∧ E = { nt := 75, sl := [(0, vStrS cols), (1, vStrS keys), (5, .p (.bx 5 0)), (30, vStrS cols), (31, int .i64 cols.length), (32, int .i64 i)], bx := [(5, cTable t)], rt := [] }) (fun E => cols.length - (E.num 32).toNat) _ (Gh.kb _ [0,1,5,30,31,32] [5] []) ⟨0, by omega, anyT_zero _ _, by simp⟩ ?_
  rintro E1 ⟨i, hi, hall, rfl⟩
  simp
  refine ⟨fun h => ⟨h, .of (colAtS_ok t _ o2.2.1.1) ?_⟩, fun h => ?_⟩
  · simp
    refine ⟨fun hp => ?_, fun hp => .of _ (Gh.kb _ [0,1,5,30,31,32] [5] []) ⟨i + 1, by omega, by rw [anyT_succ _ ⟨#[]⟩ h, hall]; simpa using hp, ?_⟩ ?_⟩
    · have : unk t cols = true := List.any_eq_true.2 ⟨_, getD_mem ⟨#[]⟩ h, by simpa using hp⟩
      grind [drift]
    · simp [wrapS (show i < 9223372036854775807 by omega)]
    · simp [wrapS (show i < 9223372036854775807 by omega)]; omega
  · have hil : i = cols.length := by omega
    subst hil
    rw [anyT_all] at hall
    have hu : unk t cols = false := hall
    refine .of (l10All_ok keys t.fKeys o1.1 o2.2.2.1.1) ?_
    simp
    refine .of (fun h => ⟨h, l10All_ok t.fKeys keys o2.2.2.1.1 o1.1⟩) ?_
    simp
    refine ⟨fun h => by grind [drift], fun b1 b2 => ?_⟩
    refine ew_loop (fun E => ∃ i : Nat, i ≤ t.fCols.length ∧ anyT (lackAt cols) t.fCols i = false ∧ E = { nt := 75, sl := [(0, vStrS cols), (54, vColS t.fCols), (55, int .i64 t.fCols.length), (56, int .i64 i)], bx := [], rt := [] }) (fun E => t.fCols.length - (E.num 56).toNat) _ (Gh.kb _ [0,54,55,56] [] []) ⟨0, by omega, anyT_zero _ _, by simp⟩ ?_
    rintro E1 ⟨j, hj, hlack, rfl⟩
    simp
    refine ⟨fun h => ⟨h, ?_⟩, fun h => ?_⟩
    · refine .of (fun h => ⟨h, l02Has_ok cols _ o0.1⟩) ?_
      simp
      have hat : lackAt cols (t.fCols[j]?.getD dCol) = ((t.fCols[j]?.getD dCol).fNot && !(t.fCols[j]?.getD dCol).fHas && !has cols (t.fCols[j]?.getD dCol).fName) := rfl
      refine ⟨fun h1 h2 h3 => ?_, fun h1 => .of _ (Gh.kb _ [0,54,55,56] [] []) ⟨j + 1, by omega, ?_, ?_⟩ ?_⟩
      · have : t.fCols.any (lackAt cols) = true := List.any_eq_true.2 ⟨_, getD_mem dCol h, by rw [hat, h1, h2, h3]; rfl⟩
        grind [drift]
      · rw [anyT_succ _ dCol h, hlack, hat]; grind
      · simp [wrapS (show j < 9223372036854775807 by omega)]
      · simp [wrapS (show j < 9223372036854775807 by omega)]; omega
    · have hjl : j = t.fCols.length := by omega
      subst hjl
      rw [anyT_all] at hlack
      grind [drift]
set_option maxHeartbeats 8000000 in
set_option maxRecDepth 4000 in
theorem I_Drift_ok (cols keys : List ByteArray) (t : GTable) (o0 : okStrS cols) (_ : ∀ n ∈ wStrS cols, n ≤ 1048576) (_ : (wStrS cols).sum ≤ 1048576) (o1 : okStrS keys) (_ : ∀ n ∈ wStrS keys, n ≤ 1048576) (_ : (wStrS keys).sum ≤ 1048576) (o2 : okTable t) (_ : ∀ n ∈ wTable t, n ≤ 1048576) (_ : (wTable t).sum ≤ 1048576) :
    VC Try.prog 15 [vStrS cols, vStrS keys, vTable t] [(false, [(.s, .sc (.int .i64 (drift cols keys t)))])] := by
  have htl : t.fCols.length ≤ 9223372036854775807 := o2.2.1.1
  refine vc_of_ew good hm [0,1,2,3,5,6,7,13,28,32,38,39,40,41,9,57] Try.func15 rfl (by kernel_rfl) (by kernel_rfl) rfl ?_
  simp [Try.f15]
  refine .of (hasStr1_ok keys _ _ (fun x => !has cols x) o1.1 (fun x _ => drift1_ok cols x o0.1)) ?_
  rw [show (keys.any fun x => !has cols x) = !allIn keys cols by simp [allIn]]
  generalize hq : (!allIn keys cols) = q
  simp
  refine .of (tableOkI_ok t o2) ?_
  simp
  refine .of (fun h => ⟨h, isTwice_ok cols o0⟩) ?_
  generalize hq1 : (!once cols) = q1
  simp
  refine .of (fun h => ⟨h, isTwice_ok keys o1⟩) ?_
  generalize hq2 : (!once keys) = q2
  simp
  refine ⟨fun h => by grind [drift], fun a1 a2 a3 a4 => .of (isUnknown_ok t cols o2.2.1.1 o0.1) ?_⟩
  simp
  refine ⟨fun h => by grind [drift], fun b1 => .of (areKeys_ok t keys o2.2.2.1.1 o1.1) ?_⟩
  have hk : once keys = true := by grind
  rw [areKeys_same a1 hk]
  generalize hq3 : (allIn keys t.fKeys && allIn t.fKeys keys) = q3
  simp
  refine ⟨fun h => by grind [drift], fun c1 => ?_⟩
  refine ew_loop (fun E => ∃ i : Nat, i ≤ t.fCols.length ∧ anyT (lackAt cols) t.fCols i = false ∧ E = { nt := 59, sl := [(3, .p (.bx 3 0)), (38, vColS t.fCols), (39, int .i64 t.fCols.length), (40, int .i64 i)], bx := [(3, [.s (.ls zStr (cols.map eStr))])], rt := [] }) (fun E => t.fCols.length - (E.num 40).toNat) _ (Gh.kb _ [3,38,39,40] [3] []) ⟨0, by omega, anyT_zero _ _, by simp⟩ ?_
  rintro E1 ⟨j, hj, hlack, rfl⟩
  simp
  refine ⟨fun h => ⟨h, ?_⟩, fun h => ?_⟩
  · refine .of (fun h => ⟨h, containsStr_ok cols _ o0.1⟩) ?_
    have hat : lackAt cols (t.fCols[j]?.getD dCol) = ((t.fCols[j]?.getD dCol).fNot && !(t.fCols[j]?.getD dCol).fHas && !has cols (t.fCols[j]?.getD dCol).fName) := rfl
    rw [show (cols.any fun x => (t.fCols[j]?.getD dCol).fName.toList == x.toList) = has cols (t.fCols[j]?.getD dCol).fName from rfl]
    simp
    refine ⟨fun h1 h2 h3 => ?_, fun h1 => .of _ (Gh.kb _ [3,38,39,40] [3] []) ⟨j + 1, by omega, ?_, ?_⟩ ?_⟩
    · have : t.fCols.any (lackAt cols) = true := List.any_eq_true.2 ⟨_, getD_mem dCol h, by rw [hat, h1, h2, h3]; rfl⟩
      grind [drift]
    · rw [anyT_succ _ dCol h, hlack, hat]; grind
    · simp [wrapS (show j < 9223372036854775807 by omega)]
    · simp [wrapS (show j < 9223372036854775807 by omega)]; omega
  · have hjl : j = t.fCols.length := by omega
    subst hjl
    rw [anyT_all] at hlack
    grind [drift]
end Go.Proofs.Ytkciklpdhhcblaa
