import Derived.Test.YtkbknmcafiepgaaTable
namespace Go.Proofs.Ytkbknmcafiepgaa
open Go Go.Proofs Go.Sm
attribute [local simp] ti eStr eInt eByte eVal cVal vVal eValS vValS eRow cRow vRow eCol cCol vCol eColS vColS eStrS vStrS eDdl cDdl vDdl eStmt cStmt vStmt ePart cPart vPart ePartS vPartS eBatch cBatch vBatch eTable cTable vTable eTableS vTableS eCat cCat vCat eRowS vRowS eRows cRows vRows eRowsS vRowsS eDb cDb vDb eRec cRec vRec eRecS vRecS eStmtS vStmtS
set_option linter.unusedVariables false
set_option linter.unusedSimpArgs false


def has (l : List ByteArray) (s : ByteArray) : Bool := l.any (fun x => s.toList == x.toList)
theorem has_flip (l : List ByteArray) (s : ByteArray) : l.any (fun x => x.toList == s.toList) = has l s := by
  unfold has
  congr 1
  funext x
  exact Bool.beq_comm
def onceAt (l : List ByteArray) (i : Nat) : Bool := !has (l.take i) (l[i]?.getD ⟨#[]⟩)
def onceTo (l : List ByteArray) (n : Nat) : Bool := (List.range n).all (onceAt l)
def once (l : List ByteArray) : Bool := onceTo l l.length
def allIn (a b : List ByteArray) : Bool := !a.any (fun s => !has b s)
theorem okM_take {l : List ByteArray} (h : okStrS l) (i : Nat) : okM (l.take i).length := by
  have := h.1
  unfold okM at *
  rw [List.length_take]
  omega
set_option maxHeartbeats 4000000 in
theorem l02Has_ok (l : List ByteArray) (s : ByteArray) (hl : okM l.length) : VC Try.prog 98 [vStrS l, str s] [(false, [(.s, .sc (.bool (has l s)))])] := by
  unfold okM at hl
  refine vc_of_ew good hm [0,1,4,7,8,9,10,6,15] Try.func98 rfl (by kernel_rfl) (by kernel_rfl) rfl ?_
  simp [Try.f98]
  refine ew_loop (fun E => ∃ i : Nat, i ≤ l.length ∧ anyT (fun x => x.toList == s.toList) l i = false ∧ E = { nt := 17, sl := [(1, str s), (7, vStrS l), (8, int .i64 l.length), (9, int .i64 i)], bx := [], rt := [] }) (fun E => l.length - (E.num 9).toNat) _ (Gh.kb _ [1,7,8,9] [] []) ⟨0, by omega, anyT_zero _ _, by simp⟩ ?_
  rintro E1 ⟨i, hi, hall, rfl⟩
  simp
  refine ⟨fun h => ⟨h, fun hp => ?_, fun hp => .of _ (Gh.kb _ [1,7,8,9] [] []) ⟨i + 1, by omega, by rw [anyT_succ _ ⟨#[]⟩ h, hall]; simpa using hp, ?_⟩ ?_⟩, fun h => ?_⟩
  · rw [← has_flip, List.any_eq_true]
    exact ⟨_, getD_mem ⟨#[]⟩ h, by simpa using hp⟩
  · simp [wrapS (show i < 9223372036854775807 by omega)]
  · simp [wrapS (show i < 9223372036854775807 by omega)]; omega
  · have : i = l.length := by omega
    subst this
    rw [anyT_all, has_flip] at hall
    exact hall
set_option maxHeartbeats 4000000 in
theorem l10Once_ok (l : List ByteArray) (hl : okStrS l) : VC Try.prog 53 [vStrS l] [(false, [(.s, .sc (.bool (once l)))])] := by
  have hll : l.length ≤ 9223372036854775807 := hl.1
  refine vc_of_ew good hm [0,2,5,6,7,8,3,4,16] Try.func53 rfl (by kernel_rfl) (by kernel_rfl) rfl ?_
  simp [Try.f53]
  refine ew_loop (fun E => ∃ i : Nat, i ≤ l.length ∧ onceTo l i = true ∧ E = { nt := 18, sl := [(0, vStrS l), (5, vStrS l), (6, int .i64 l.length), (7, int .i64 i)], bx := [], rt := [] }) (fun E => l.length - (E.num 7).toNat) _ (Gh.kb _ [0,5,6,7] [] []) ⟨0, by omega, by simp [onceTo], by simp⟩ ?_
  rintro E1 ⟨i, hi, hall, rfl⟩
  simp
  refine ⟨fun h => ⟨h, hi, ?_⟩, fun h => ?_⟩
  · rw [← List.map_take]
    refine .of (l02Has_ok (l.take i) _ (okM_take hl i)) ?_
    simp
    refine ⟨fun hp => ?_, fun hp => .of _ (Gh.kb _ [0,5,6,7] [] []) ⟨i + 1, by omega, ?_, ?_⟩ ?_⟩
    · rw [once, onceTo, rangeAll_no h (by simp [onceAt, hp])]
    · rw [onceTo, rangeAll_succ]; unfold onceTo at hall; rw [hall]; simp [onceAt, hp]
    · simp [wrapS (show i < 9223372036854775807 by omega)]
    · simp [wrapS (show i < 9223372036854775807 by omega)]; omega
  · have : i = l.length := by omega
    subst this
    exact hall
set_option maxHeartbeats 4000000 in
theorem isTwice_ok (l : List ByteArray) (hl : okStrS l) : VC Try.prog 60 [vStrS l] [(false, [(.s, .sc (.bool (!once l)))])] := by
  have hll : l.length ≤ 9223372036854775807 := hl.1
  refine vc_of_ew good hm [0,2,5,6,7,8,3,4,16] Try.func60 rfl (by kernel_rfl) (by kernel_rfl) rfl ?_
  simp [Try.f60]
  refine ew_loop (fun E => ∃ i : Nat, i ≤ l.length ∧ onceTo l i = true ∧ E = { nt := 18, sl := [(0, vStrS l), (5, vStrS l), (6, int .i64 l.length), (7, int .i64 i)], bx := [], rt := [] }) (fun E => l.length - (E.num 7).toNat) _ (Gh.kb _ [0,5,6,7] [] []) ⟨0, by omega, by simp [onceTo], by simp⟩ ?_
  rintro E1 ⟨i, hi, hall, rfl⟩
  simp
  refine ⟨fun h => ⟨h, hi, ?_⟩, fun h => ?_⟩
  · rw [← List.map_take]
    refine .of (containsStr_ok (l.take i) _ (okM_take hl i)) ?_
    rw [show ((l.take i).any fun x => (l[i]?.getD (⟨#[]⟩ : ByteArray)).toList == x.toList) = has (l.take i) (l[i]?.getD ⟨#[]⟩) from rfl]
    simp
    refine ⟨fun hp => ?_, fun hp => .of _ (Gh.kb _ [0,5,6,7] [] []) ⟨i + 1, by omega, ?_, ?_⟩ ?_⟩
    · rw [once, onceTo, rangeAll_no h (by simp [onceAt, hp])]
    · rw [onceTo, rangeAll_succ]; unfold onceTo at hall; rw [hall]; simp [onceAt, hp]
    · simp [wrapS (show i < 9223372036854775807 by omega)]
    · simp [wrapS (show i < 9223372036854775807 by omega)]; omega
  · have : i = l.length := by omega
    subst this
    exact hall
set_option maxHeartbeats 4000000 in
theorem l10All_ok (a b : List ByteArray) (ha : okM a.length) (hb : okM b.length) : VC Try.prog 54 [vStrS a, vStrS b] [(false, [(.s, .sc (.bool (allIn a b)))])] := by
  unfold okM at ha
  refine vc_of_ew good hm [0,1,4,7,8,9,10,6,16] Try.func54 rfl (by kernel_rfl) (by kernel_rfl) rfl ?_
  simp [Try.f54]
  refine ew_loop (fun E => ∃ i : Nat, i ≤ a.length ∧ anyT (fun s => !has b s) a i = false ∧ E = { nt := 18, sl := [(1, vStrS b), (7, vStrS a), (8, int .i64 a.length), (9, int .i64 i)], bx := [], rt := [] }) (fun E => a.length - (E.num 9).toNat) _ (Gh.kb _ [1,7,8,9] [] []) ⟨0, by omega, anyT_zero _ _, by simp⟩ ?_
  rintro E1 ⟨i, hi, hall, rfl⟩
  simp
  refine ⟨fun h => ⟨h, .of (l02Has_ok b _ hb) ?_⟩, fun h => ?_⟩
  · simp
    refine ⟨fun hp => ?_, fun hp => .of _ (Gh.kb _ [1,7,8,9] [] []) ⟨i + 1, by omega, by rw [anyT_succ _ ⟨#[]⟩ h, hall, hp]; rfl, ?_⟩ ?_⟩
    · have : a.any (fun s => !has b s) = true := List.any_eq_true.2 ⟨_, getD_mem ⟨#[]⟩ h, by rw [hp]; rfl⟩
      simp [allIn, this]
    · simp [wrapS (show i < 9223372036854775807 by omega)]
    · simp [wrapS (show i < 9223372036854775807 by omega)]; omega
  · have : i = a.length := by omega
    subst this
    rw [anyT_all] at hall
    simp only [allIn, hall, Bool.not_false]
theorem areKeys1_ok (cols : List ByteArray) (k : ByteArray) (hc : okM cols.length) : VC Try.prog 107 [str k, .p (.ps (eStrS cols))] [(false, [(.s, .sc (.bool (!has cols k)))])] := by
  refine vc_of_ew good hm [0,1,3] Try.func107 rfl (by kernel_rfl) (by kernel_rfl) rfl ?_
  simp [Try.f107]
  refine .of (containsStr_ok cols k hc) ?_
  simp [has]
theorem isUnknown1_ok (t : GTable) (c : ByteArray) (hc : okM t.fCols.length) : VC Try.prog 112 [str c, .p (.ps (eTable t))] [(false, [(.s, .sc (.bool (decide (colAt t c < 0))))])] := by
  refine vc_of_ew good hm [0,1,3] Try.func112 rfl (by kernel_rfl) (by kernel_rfl) rfl ?_
  simp [Try.f112]
  refine .of (colAtI_ok t c hc) ?_
  simp
def unk (t : GTable) (cols : List ByteArray) : Bool := cols.any (fun c => decide (colAt t c < 0))
theorem isUnknown_ok (t : GTable) (cols : List ByteArray) (hc : okM t.fCols.length) (hl : okM cols.length) : VC Try.prog 69 [vTable t, vStrS cols] [(false, [(.s, .sc (.bool (unk t cols)))])] := by
  refine vc_of_ew good hm [0,1,2,4] Try.func69 rfl (by kernel_rfl) (by kernel_rfl) rfl ?_
  simp [Try.f69]
  refine .of (hasStr1_ok cols _ _ (fun c => decide (colAt t c < 0)) hl (fun x _ => isUnknown1_ok t x hc)) ?_
  simp [unk]
def areKeys (t : GTable) (keys : List ByteArray) : Bool := decide ((keys.length : Int) = t.fKeys.length) && allIn t.fKeys keys
theorem areKeys_ok (t : GTable) (keys : List ByteArray) (hk : okM t.fKeys.length) (hl : okM keys.length) : VC Try.prog 61 [vTable t, vStrS keys] [(false, [(.s, .sc (.bool (areKeys t keys)))])] := by
  refine vc_of_ew good hm [0,1,2,3,4] Try.func61 rfl (by kernel_rfl) (by kernel_rfl) rfl ?_
  simp [Try.f61]
  refine .of (fun h => ⟨h, hasStr1_ok t.fKeys _ _ (fun x => !has keys x) hk (fun x _ => areKeys1_ok keys x hl)⟩) ?_
  simp [areKeys, allIn]

/-! the keys of a table and the keys told: the same set -/
theorem has_iff {l : List ByteArray} {s : ByteArray} : has l s = true ↔ s.toList ∈ l.map ByteArray.toList := by
  unfold has
  rw [List.any_eq_true, List.mem_map]
  constructor
  · rintro ⟨x, hx, h⟩
    exact ⟨x, hx, (eq_of_beq h).symm⟩
  · rintro ⟨x, hx, h⟩
    exact ⟨x, hx, beq_iff_eq.2 h.symm⟩
theorem allIn_iff {a b : List ByteArray} : allIn a b = true ↔ ∀ s ∈ a.map ByteArray.toList, s ∈ b.map ByteArray.toList := by
  unfold allIn
  rw [Bool.not_eq_true', List.any_eq_false]
  simp only [Bool.not_eq_true', Bool.not_eq_false]
  constructor
  · intro h s hs
    obtain ⟨x, hx, rfl⟩ := List.mem_map.1 hs
    exact has_iff.1 (h x hx)
  · intro h x hx
    exact has_iff.2 (h _ (List.mem_map.2 ⟨x, hx, rfl⟩))
theorem once_nodup : ∀ {l : List ByteArray}, once l = true → (l.map ByteArray.toList).Nodup := by
  intro l h
  rw [List.nodup_iff_pairwise_ne, List.pairwise_iff_getElem]
  intro i j hi hj hij he
  simp only [List.length_map] at hi hj
  simp only [once, onceTo, List.all_eq_true, List.mem_range] at h
  have h1 := h j hj
  simp only [onceAt, Bool.not_eq_true', List.getElem?_eq_getElem hj, Option.getD_some] at h1
  rw [← Bool.not_eq_true, has_iff] at h1
  apply h1
  simp only [List.getElem_map] at he
  rw [← he]
  exact List.mem_map.2 ⟨_, List.mem_take_iff_getElem.2 ⟨i, by omega, rfl⟩, rfl⟩
theorem nodup_le {α : Type} [DecidableEq α] : ∀ {a b : List α}, a.Nodup → (∀ x ∈ a, x ∈ b) → a.length ≤ b.length
  | [], _, _, _ => by simp
  | x :: a, b, h, hs => by
    rw [List.nodup_cons] at h
    have hx : x ∈ b := hs x (by simp)
    have h1 := nodup_le (b := b.erase x) h.2 (fun y hy => by
      have hne : y ≠ x := fun e => h.1 (e ▸ hy)
      exact (List.mem_erase_of_ne hne).2 (hs y (by simp [hy])))
    rw [List.length_erase_of_mem hx] at h1
    have := List.length_pos_of_mem hx
    simp only [List.length_cons]
    omega
theorem nodup_sup {α : Type} [DecidableEq α] {a b : List α} (ha : a.Nodup) (hs : ∀ x ∈ a, x ∈ b) (hl : b.length ≤ a.length) : ∀ x ∈ b, x ∈ a := by
  intro x hx
  apply Classical.byContradiction
  intro hn
  have h1 := nodup_le (a := a) (b := b.erase x) ha (fun y hy => by
    have hne : y ≠ x := fun e => hn (e ▸ hy)
    exact (List.mem_erase_of_ne hne).2 (hs y hy))
  rw [List.length_erase_of_mem hx] at h1
  have := List.length_pos_of_mem hx
  omega
theorem keys_inc {t : GTable} (h : keysTo t t.fKeys.length = true) : ∀ i j, i < j → j < t.fKeys.length → colAt t (t.fKeys[i]?.getD ⟨#[]⟩) < colAt t (t.fKeys[j]?.getD ⟨#[]⟩) := by
  intro i j hij hj
  simp only [keysTo, List.all_eq_true, List.mem_range] at h
  induction j with
  | zero => omega
  | succ j ih =>
    have h1 := h (j + 1) hj
    simp only [keyOkAt, lastK_succ, Bool.and_eq_true, decide_eq_true_eq] at h1
    rcases Nat.lt_or_ge i j with h2 | h2
    · exact Int.lt_trans (ih h2 (by omega)) h1.1
    · have : i = j := by omega
      subst this
      exact h1.1
theorem keys_nodup {t : GTable} (h : tableOk t = true) : (t.fKeys.map ByteArray.toList).Nodup := by
  simp only [tableOk, Bool.and_eq_true] at h
  have hk := keys_inc h.2.2
  rw [List.nodup_iff_pairwise_ne, List.pairwise_iff_getElem]
  intro i j hi hj hij he
  simp only [List.length_map] at hi hj
  have := hk i j hij hj
  simp only [List.getElem_map] at he
  rw [List.getElem?_eq_getElem hi, List.getElem?_eq_getElem hj, Option.getD_some, Option.getD_some] at this
  unfold colAt at this
  rw [he] at this
  omega
theorem areKeys_same {t : GTable} {keys : List ByteArray} (ht : tableOk t = true) (hk : once keys = true) : areKeys t keys = (allIn keys t.fKeys && allIn t.fKeys keys) := by
  rw [Bool.eq_iff_iff]
  simp only [areKeys, Bool.and_eq_true, decide_eq_true_eq]
  constructor
  · rintro ⟨h1, h2⟩
    refine ⟨allIn_iff.2 ?_, h2⟩
    exact nodup_sup (keys_nodup ht) (allIn_iff.1 h2) (by simp; omega)
  · rintro ⟨h1, h2⟩
    refine ⟨?_, h2⟩
    have e1 := nodup_le (once_nodup hk) (allIn_iff.1 h1)
    have e2 := nodup_le (keys_nodup ht) (allIn_iff.1 h2)
    simp at e1 e2
    omega

def lackAt (cols : List ByteArray) (c : GCol) : Bool := c.fNot && !c.fHas && !has cols c.fName
def drift (cols keys : List ByteArray) (t : GTable) : Int :=
  if !(tableOk t && once cols && once keys && allIn keys cols) then 1 else if unk t cols then 11 else if !(allIn keys t.fKeys && allIn t.fKeys keys) then 12 else if t.fCols.any (lackAt cols) then 13 else 0
end Go.Proofs.Ytkbknmcafiepgaa
