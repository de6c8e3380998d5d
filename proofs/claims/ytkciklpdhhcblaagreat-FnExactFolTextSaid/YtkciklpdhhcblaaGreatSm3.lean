import Derived.Test.YtkciklpdhhcblaaGreatSm2
/-
  Places in trees: what stands there, and what a tree is when it turns there.
-/
namespace Go.Sm
open Go.RowKit

def getL : List Nat → Md × Lf → Option (Md × Lf)
  | [], x => some x
  | i :: j :: rest, (.o _ cols, .ls z rows) => getL rest (md cols i j, lf z rows i j)
  | _, _ => none
def vldL : List Nat → Md × Lf → Prop
  | [], _ => True
  | i :: j :: rest, (.o _ cols, .ls z rows) => i < rows.length ∧ j < z.length ∧ vldL rest (md cols i j, lf z rows i j)
  | _, _ => False
def setL : List Nat → Md × Lf → Md × Lf → Md × Lf
  | [], y, _ => y
  | i :: j :: rest, y, (.o e cols, .ls z rows) =>
    (.o e (fun k => if k = i then (cols i).set j (setL rest y (md cols i j, lf z rows i j)).1 else cols k),
      .ls z (rows.set i ((rows.getD i z).set j (setL rest y (md cols i j, lf z rows i j)).2)))
  | _, _, x => x

section
variable {tag tag' : Nat → Tag} {hv hv' : Hv} {w w' : World} {p p' : List Nat} {m : Md} {l : Lf} {v : Value}

/-- What a slice of the call's own says, row by row. -/
theorem VR.open_own {e cols z rows} (h : VR tag hv w p (.o e cols) (.ls z rows) v) : hv p = v ∧ ((v = .slice none 0 0 ∧ rows = []) ∨
    ∃ b c cur, v = .slice (some ⟨b, 0, none⟩) rows.length c ∧ rows.length ≤ c ∧ c ≤ maxLen ∧ tag b = .own p ∧ w.heap[b]? = some (.cells cur e (0, 0)) ∧ cur.size = c * z.length ∧
      (∀ i, i < rows.length → (rows.getD i z).length = z.length) ∧
      (∀ i j, i < rows.length → j < z.length → VR tag hv w (p ++ [i, j]) (md cols i j) (lf z rows i j) (cur.getD (i * z.length + j) default))) := by
  cases h with
  | own0 hh => exact ⟨hh, .inl ⟨rfl, rfl⟩⟩
  | own cur hn hc hm ht hh hb hs hl hr =>
    subst hn
    exact ⟨hh, .inr ⟨_, _, cur, rfl, hc, hm, ht, hb, hs, hl, hr⟩⟩

theorem VR.get : ∀ (rest p : List Nat) (m : Md) (l : Lf) (v : Value) (m' : Md) (l' : Lf), VR tag hv w p m l v → vldL rest (m, l) → getL rest (m, l) = some (m', l') → ∃ v', VR tag hv w (p ++ rest) m' l' v' ∧ (rest = [] → v' = v)
  | [], p, m, l, v, m', l', h, _, hg => by
    simp only [getL, Option.some.injEq, Prod.mk.injEq] at hg
    obtain ⟨rfl, rfl⟩ := hg
    exact ⟨v, by simpa using h, fun _ => rfl⟩
  | [i], p, m, l, v, m', l', h, hv, hg => by cases m <;> cases l <;> simp [vldL] at hv
  | i :: j :: rest, p, m, l, v, m', l', h, hv, hg => by
    cases m with
    | s => cases l <;> simp [vldL] at hv
    | x => cases l <;> simp [vldL] at hv
    | o e cols =>
      cases l with
      | sc u => simp [vldL] at hv
      | ls z rows =>
        simp only [vldL] at hv
        simp only [getL] at hg
        obtain ⟨_, h0 | ⟨b, c, cur, _, _, _, _, _, _, _, hr⟩⟩ := h.open_own
        · rw [h0.2] at hv
          simp at hv
        · obtain ⟨v', h1, _⟩ := VR.get rest _ _ _ _ m' l' (hr i j hv.1 hv.2.1) hv.2.2 hg
          refine ⟨v', by simpa using h1, fun e => by cases e⟩

theorem lf_set_same {z : List Lf} {rows : List (List Lf)} {i j : Nat} {y : Lf} (hi : i < rows.length) (hj : j < z.length) (hl : (rows.getD i z).length = z.length) :
    lf z (rows.set i ((rows.getD i z).set j y)) i j = y := by
  simp only [lf]
  have h1 : (rows.set i ((rows.getD i z).set j y)).getD i z = (rows.getD i z).set j y := by
    rw [List.getD_eq_getElem?_getD, List.getElem?_set_self hi]
    rfl
  rw [h1, List.getD_eq_getElem?_getD, List.getElem?_set_self (by rw [hl]; exact hj)]
  rfl
theorem lf_set_other {z : List Lf} {rows : List (List Lf)} {i j i' j' : Nat} {y : Lf} (hi : i < rows.length) (h : ¬ (i' = i ∧ j' = j)) :
    lf z (rows.set i ((rows.getD i z).set j y)) i' j' = lf z rows i' j' := by
  simp only [lf]
  by_cases h1 : i' = i
  · subst h1
    have h3 : (rows.set i' ((rows.getD i' z).set j y)).getD i' z = (rows.getD i' z).set j y := by
      rw [List.getD_eq_getElem?_getD, List.getElem?_set_self hi]
      rfl
    rw [h3, List.getD_eq_getElem?_getD, List.getElem?_set_ne (fun e => h ⟨rfl, e.symm⟩), ← List.getD_eq_getElem?_getD]
  · have h3 : (rows.set i ((rows.getD i z).set j y)).getD i' z = rows.getD i' z := by
      rw [List.getD_eq_getElem?_getD, List.getElem?_set_ne (Ne.symm h1), ← List.getD_eq_getElem?_getD]
    rw [h3]
theorem md_set_same {cols : Nat → List Md} {i j : Nat} {y : Md} : md (fun k => if k = i then (cols i).set j y else cols k) i j = y ∨ md (fun k => if k = i then (cols i).set j y else cols k) i j = .x := by
  simp only [md, if_true]
  rw [List.getD_eq_getElem?_getD]
  by_cases h : j < (cols i).length
  · left
    rw [List.getElem?_set_self h]
    rfl
  · right
    rw [List.getElem?_eq_none (by simp; omega)]
    rfl
theorem md_set_other {cols : Nat → List Md} {i j i' j' : Nat} {y : Md} (h : ¬ (i' = i ∧ j' = j)) : md (fun k => if k = i then (cols i).set j y else cols k) i' j' = md cols i' j' := by
  simp only [md]
  by_cases h1 : i' = i
  · subst h1
    rw [if_pos rfl, List.getD_eq_getElem?_getD, List.getElem?_set_ne (fun e => h ⟨rfl, e.symm⟩), ← List.getD_eq_getElem?_getD]
  · rw [if_neg h1]
theorem rows_set_len {z : List Lf} {rows : List (List Lf)} {i j : Nat} {y : Lf} (hi : i < rows.length) (hl : ∀ i, i < rows.length → (rows.getD i z).length = z.length) :
    ∀ i', i' < (rows.set i ((rows.getD i z).set j y)).length → ((rows.set i ((rows.getD i z).set j y)).getD i' z).length = z.length := by
  intro i' h'
  rw [List.length_set] at h'
  by_cases h1 : i' = i
  · subst h1
    rw [List.getD_eq_getElem?_getD, List.getElem?_set_self hi]
    simp only [Option.getD_some, List.length_set]
    exact hl _ hi
  · rw [List.getD_eq_getElem?_getD, List.getElem?_set_ne (Ne.symm h1), ← List.getD_eq_getElem?_getD]
    exact hl _ h'
theorem idx_ne {sz i j i' j' : Nat} (hj : j < sz) (hj' : j' < sz) (h : ¬ (i' = i ∧ j' = j)) : i' * sz + j' ≠ i * sz + j := by
  intro e
  rcases Nat.lt_trichotomy i' i with h1 | h1 | h1
  · have h2 : (i' + 1) * sz ≤ i * sz := Nat.mul_le_mul_right _ h1
    rw [Nat.add_mul] at h2
    omega
  · subst h1
    exact h ⟨rfl, by omega⟩
  · have h2 : (i + 1) * sz ≤ i' * sz := Nat.mul_le_mul_right _ h1
    rw [Nat.add_mul] at h2
    omega

/-- A tree turns at one cell (q, i, j); memory may turn at that cell alone, and below. -/
theorem VR.upd {e : Nat} {cols : Nat → List Md} {z : List Lf} {rows : List (List Lf)} {i j : Nat} {m' : Md} {l' : Lf} {u : Value} (hi : i < rows.length) (hj : j < z.length) :
    ∀ (rest p : List Nat) (m : Md) (l : Lf) (v : Value), VR tag hv w p m l v → vldL rest (m, l) → getL rest (m, l) = some (.o e cols, .ls z rows) →
    (∀ b, tag b = .sh → tag' b = .sh ∧ w'.heap[b]? = w.heap[b]?) →
    (∀ q, OwnIn m l q → ¬ (rest ++ [i, j]) <+: q → hv' (p ++ q) = hv (p ++ q) ∧ ∀ b, tag b = .own (p ++ q) → tag' b = .own (p ++ q) ∧ (q ≠ rest → w'.heap[b]? = w.heap[b]?)) →
    (∀ b cur, tag b = .own (p ++ rest) → w.heap[b]? = some (.cells cur e (0, 0)) → ∃ cur', w'.heap[b]? = some (.cells cur' e (0, 0)) ∧ cur'.size = cur.size ∧ (∀ k, k ≠ i * z.length + j → cur'.getD k default = cur.getD k default) ∧ (i * z.length + j < cur.size → cur'.getD (i * z.length + j) default = u)) →
    VR tag' hv' w' (p ++ rest ++ [i, j]) m' l' u →
    VR tag' hv' w' p (setL (rest ++ [i, j]) (m', l') (m, l)).1 (setL (rest ++ [i, j]) (m', l') (m, l)).2 v
  | [], p, m, l, v, h, hv0, hg, hs, ho, hb, hu => by
    simp only [getL, Option.some.injEq, Prod.mk.injEq] at hg
    obtain ⟨rfl, rfl⟩ := hg
    obtain ⟨hh, h0 | ⟨b, c, cur, rfl, hc, hm, ht, hbl, hsz, hl, hr⟩⟩ := h.open_own
    · rw [h0.2] at hi
      simp at hi
    · have h00 := ho [] .here (by simp)
      simp only [List.append_nil] at h00 hb
      obtain ⟨cur', hb', hs', hk, hku⟩ := hb b cur ht hbl
      have hlt : i * z.length + j < cur.size := by
        rw [hsz]
        have h1 : (i + 1) * z.length ≤ c * z.length := Nat.mul_le_mul_right _ (by omega)
        rw [Nat.add_mul] at h1
        omega
      simp only [List.nil_append, setL]
      refine .own cur' (by simp) hc hm (h00.2 b ht).1 (h00.1.trans hh) hb' (hs'.trans hsz) (fun i' h' => rows_set_len hi hl i' (by simpa using h')) (fun i' j' hi' hj' => ?_)
      by_cases hij : i' = i ∧ j' = j
      · obtain ⟨rfl, rfl⟩ := hij
        rw [lf_set_same hi hj (hl _ hi), hku hlt]
        rcases md_set_same (cols := cols) (i := i') (j := j') (y := m') with h1 | h1
        · rw [h1]; simpa using hu
        · rw [h1]; exact .dead hu.one
      · rw [lf_set_other hi hij, md_set_other hij, hk _ (idx_ne hj hj' hij)]
        refine (hr i' j' hi' hj').move _ hs (fun q hq => ?_)
        have h1 := ho ([i', j'] ++ q) (.deep hi' hj' hq) (by
          rintro ⟨t, ht⟩
          simp only [List.nil_append, List.cons_append, List.cons.injEq] at ht
          exact hij ⟨ht.1.symm, ht.2.1.symm⟩)
        simp only [List.append_assoc]
        exact ⟨h1.1, fun b hb => ⟨((h1.2 b hb).1), (h1.2 b hb).2 (by simp)⟩⟩
  | [_], p, m, l, v, h, hv0, hg, hs, ho, hb, hu => by cases m <;> cases l <;> simp [vldL] at hv0
  | i0 :: j0 :: rest, p, m, l, v, h, hv0, hg, hs, ho, hb, hu => by
    cases m with
    | s => cases l <;> simp [vldL] at hv0
    | x => cases l <;> simp [vldL] at hv0
    | o e0 cols0 =>
      cases l with
      | sc u => simp [vldL] at hv0
      | ls z0 rows0 =>
        simp only [vldL] at hv0
        simp only [getL] at hg
        obtain ⟨hh, h0 | ⟨b, c, cur, rfl, hc, hm, ht, hbl, hsz, hl, hr⟩⟩ := h.open_own
        · rw [h0.2] at hv0
          simp at hv0
        · have h00 := ho [] .here (by simp)
          simp only [List.append_nil] at h00
          have hsame := ((h00.2 b ht).2 (by simp)).trans hbl
          simp only [List.cons_append, setL]
          refine .own cur (by simp) hc hm (h00.2 b ht).1 (h00.1.trans hh) hsame hsz (fun i' h' => rows_set_len hv0.1 hl i' (by simpa using h')) (fun i' j' hi' hj' => ?_)
          by_cases hij : i' = i0 ∧ j' = j0
          · obtain ⟨rfl, rfl⟩ := hij
            have ih := VR.upd hi hj rest (p ++ [i', j']) _ _ _ (hr i' j' hi' hj') hv0.2.2 hg hs (fun q hq hn => by
                have h1 := ho ([i', j'] ++ q) (.deep hi' hj' hq) (by
                  rintro ⟨t, ht⟩
                  simp only [List.cons_append, List.nil_append, List.cons.injEq, true_and] at ht
                  exact hn ⟨t, ht⟩)
                simp only [List.append_assoc]
                refine ⟨h1.1, fun b hb => ⟨(h1.2 b hb).1, fun hne => (h1.2 b hb).2 (fun e => ?_)⟩⟩
                simp only [List.cons_append, List.nil_append, List.cons.injEq, true_and] at e
                exact hne e)
              (fun b' cur' ht' hb' => hb b' cur' (by simpa using ht') hb') (by simpa using hu)
            rw [lf_set_same hv0.1 hv0.2.1 (hl _ hv0.1)]
            rcases md_set_same (cols := cols0) (i := i') (j := j') (y := (setL (rest ++ [i, j]) (m', l') (md cols0 i' j', lf z0 rows0 i' j')).1) with h1 | h1
            · rw [h1]; exact ih
            · rw [h1]; exact .dead ih.one
          · rw [lf_set_other hv0.1 hij, md_set_other hij]
            refine (hr i' j' hi' hj').move _ hs (fun q hq => ?_)
            have h1 := ho ([i', j'] ++ q) (.deep hi' hj' hq) (by
              rintro ⟨t, ht⟩
              simp only [List.cons_append, List.nil_append, List.cons.injEq] at ht
              exact hij ⟨ht.1.symm, ht.2.1.symm⟩)
            simp only [List.append_assoc]
            refine ⟨h1.1, fun b hb => ⟨(h1.2 b hb).1, (h1.2 b hb).2 (fun e => ?_)⟩⟩
            simp only [List.cons_append, List.nil_append, List.cons.injEq] at e
            exact hij ⟨e.1, e.2.1⟩
end
end Go.Sm
