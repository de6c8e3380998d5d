import Derived.Test.YtkciklpdhhcblaaGreatSmA
/-
  A row of a slice of the call's own is written.
-/
namespace Go.Sm
open Go.RowKit

variable {P : Program} {ti : TT} {E : Env} {tag tag' tag0 : Nat → Tag} {hv hv' : Hv} {a : Act} {w w' w0 : World} {t d : Nat}

theorem setM_len {α : Type} : ∀ (ys l : List α) (off : Nat), (setM l off ys).length = l.length
  | [], _, _ => rfl
  | y :: r, l, off => by simp [setM, setM_len r]
theorem setM_get {α : Type} : ∀ (ys l : List α) (off j : Nat), (setM l off ys)[j]? = if off ≤ j ∧ j < off + ys.length then (if j < l.length then ys[j - off]? else none) else l[j]?
  | [], l, off, j => by rw [if_neg (by simp only [List.length_nil]; omega)]; rfl
  | y :: r, l, off, j => by
    simp only [setM, setM_get r, List.length_set, List.length_cons]
    by_cases h : j = off
    · subst h
      rw [if_neg (by omega), if_pos (by omega), List.getElem?_set_self']
      simp only [Nat.sub_self, List.getElem?_cons_zero]
      split
      · rename_i h2
        rw [List.getElem?_eq_getElem h2]; rfl
      · rename_i h2
        rw [List.getElem?_eq_none (by omega)]; rfl
    · by_cases h2 : off + 1 ≤ j ∧ j < off + 1 + r.length
      · rw [if_pos h2, if_pos (show off ≤ j ∧ j < off + (r.length + 1) by omega), show j - off = (j - (off + 1)) + 1 by omega]
        simp
      · rw [if_neg h2, if_neg (show ¬ (off ≤ j ∧ j < off + (r.length + 1)) by omega), List.getElem?_set_ne (by omega)]
/-- A row with the cells from off on turned; where all of them turn, these alone. -/
def spl {α : Type} (n off : Nat) (l ys : List α) : List α := if off = 0 ∧ ys.length = n then ys else setM l off ys
theorem spl_in {α : Type} {n off j : Nat} {l ys : List α} {x : α} (h : off ≤ j ∧ j < off + ys.length) (hx : (spl n off l ys)[j]? = some x) : ys[j - off]? = some x := by
  unfold spl at hx
  split at hx
  · rename_i h2
    simpa [h2.1] using hx
  · rw [setM_get, if_pos h] at hx
    split at hx
    · exact hx
    · cases hx
theorem spl_in' {α : Type} {n off j : Nat} {l ys : List α} (h : off ≤ j ∧ j < off + ys.length) (hl : l.length = n) (hn : off + ys.length ≤ n) : (spl n off l ys)[j]? = ys[j - off]? := by
  unfold spl
  split
  · rename_i h2
    simp [h2.1]
  · rw [setM_get, if_pos h, if_pos (by omega)]
theorem spl_out {α : Type} {n off j : Nat} {l ys : List α} (h : ¬ (off ≤ j ∧ j < off + ys.length)) (hj : j < n) : (spl n off l ys)[j]? = l[j]? := by
  unfold spl
  split
  · rename_i h2
    omega
  · rw [setM_get, if_neg h]
theorem spl_len {α : Type} {n off : Nat} {l ys : List α} (hl : l.length = n) : (spl n off l ys).length = n := by
  unfold spl
  split
  · rename_i h2
    exact h2.2
  · rw [setM_len, hl]

def setR : List Nat → Nat → Nat → List (Md × Lf) → Md × Lf → Md × Lf
  | [], i, off, ys, (.o e cols, .ls z rows) =>
    (.o e (fun k => if k = i then spl z.length off (cols i) (ys.map (·.1)) else cols k), .ls z (rows.set i (spl z.length off (rows.getD i z) (ys.map (·.2)))))
  | i0 :: j0 :: rest, i, off, ys, (.o e cols, .ls z rows) =>
    (.o e (fun k => if k = i0 then (cols i0).set j0 (setR rest i off ys (md cols i0 j0, lf z rows i0 j0)).1 else cols k),
      .ls z (rows.set i0 ((rows.getD i0 z).set j0 (setR rest i off ys (md cols i0 j0, lf z rows i0 j0)).2)))
  | _, _, _, _, x => x

theorem rows_setr_len {z : List Lf} {rows : List (List Lf)} {i : Nat} {row : List Lf} (hrow : row.length = z.length) (hl : ∀ i, i < rows.length → (rows.getD i z).length = z.length) :
    ∀ i', i' < (rows.set i row).length → ((rows.set i row).getD i' z).length = z.length := by
  intro i' h'
  rw [List.length_set] at h'
  by_cases h1 : i' = i
  · subst h1
    rw [List.getD_eq_getElem?_getD, List.getElem?_set_self h']
    exact hrow
  · rw [List.getD_eq_getElem?_getD, List.getElem?_set_ne (Ne.symm h1), ← List.getD_eq_getElem?_getD]
    exact hl _ h'

/-- A tree turns at cells off .. of row i of the slice at p; memory may turn at those cells alone, and below. -/
theorem VR.updR {e : Nat} {cols : Nat → List Md} {z : List Lf} {rows : List (List Lf)} {i off : Nat} {ys : List (Md × Lf)} {us : List Value} (hi : i < rows.length) (hoff : off + ys.length ≤ z.length) :
    ∀ (rest p : List Nat) (m : Md) (l : Lf) (v : Value), VR tag hv w p m l v → vldL rest (m, l) → getL rest (m, l) = some (.o e cols, .ls z rows) →
    (∀ b, tag b = .sh → tag' b = .sh ∧ w'.heap[b]? = w.heap[b]?) →
    (∀ q, OwnIn m l q → (∀ j, j < ys.length → ¬ (rest ++ [i, off + j]) <+: q) → hv' (p ++ q) = hv (p ++ q) ∧ ∀ b, tag b = .own (p ++ q) → tag' b = .own (p ++ q) ∧ (q ≠ rest → w'.heap[b]? = w.heap[b]?)) →
    (∀ b cur, tag b = .own (p ++ rest) → w.heap[b]? = some (.cells cur e (0, 0)) → ∃ cur', w'.heap[b]? = some (.cells cur' e (0, 0)) ∧ cur'.size = cur.size ∧
      ∀ k, cur'.getD k default = if i * z.length + off ≤ k ∧ k < i * z.length + off + ys.length then us.getD (k - (i * z.length + off)) default else cur.getD k default) →
    (∀ j y, ys[j]? = some y → VR tag' hv' w' (p ++ rest ++ [i, off + j]) y.1 y.2 (us.getD j default)) →
    VR tag' hv' w' p (setR rest i off ys (m, l)).1 (setR rest i off ys (m, l)).2 v
  | [], p, m, l, v, h, hv0, hg, hs, ho, hb, hu => by
    simp only [getL, Option.some.injEq, Prod.mk.injEq] at hg
    obtain ⟨rfl, rfl⟩ := hg
    obtain ⟨hh, h0 | ⟨b, c, cur, rfl, hc, hm, ht, hbl, hsz, hl, hr⟩⟩ := h.open_own
    · rw [h0.2] at hi
      simp at hi
    · have h00 := ho [] .here (by simp)
      simp only [List.append_nil] at h00 hb
      obtain ⟨cur', hb', hs', hk⟩ := hb b cur ht hbl
      have hlt : i * z.length + z.length ≤ cur.size := by
        rw [hsz]
        have h1 : (i + 1) * z.length ≤ c * z.length := Nat.mul_le_mul_right _ (by omega)
        rw [Nat.add_mul] at h1
        omega
      have hrl : (spl z.length off (rows.getD i z) (ys.map (·.2))).length = z.length := spl_len (hl i hi)
      simp only [setR]
      refine .own cur' (by simp) hc hm (h00.2 b ht).1 (h00.1.trans hh) hb' (hs'.trans hsz) (fun i' h' => rows_setr_len hrl hl i' (by simpa using h')) (fun i' j' hi' hj' => ?_)
      rw [hk (i' * z.length + j')]
      by_cases hij : i' = i ∧ off ≤ j' ∧ j' < off + ys.length
      · obtain ⟨rfl, h1, h2⟩ := hij
        rw [if_pos (by omega)]
        have hy : ys[j' - off]? = some ys[j' - off] := List.getElem?_eq_getElem (by omega)
        have hu' := hu (j' - off) _ hy
        simp only [List.append_nil] at hu'
        rw [show off + (j' - off) = j' by omega] at hu'
        rw [show i' * z.length + j' - (i' * z.length + off) = j' - off by omega]
        have hlf : lf z (rows.set i' (spl z.length off (rows.getD i' z) (ys.map (·.2)))) i' j' = (ys[j' - off]).2 := by
          simp only [lf]
          rw [List.getD_eq_getElem?_getD (l := rows.set _ _), List.getElem?_set_self hi, Option.getD_some, List.getD_eq_getElem?_getD, spl_in' (by simpa using ⟨h1, h2⟩) (hl _ hi) (by simpa using hoff)]
          rw [List.getElem?_map, hy]
          rfl
        rw [hlf]
        have hmd : md (fun k => if k = i' then spl z.length off (cols i') (ys.map (·.1)) else cols k) i' j' = (ys[j' - off]).1 ∨ md (fun k => if k = i' then spl z.length off (cols i') (ys.map (·.1)) else cols k) i' j' = .x := by
          simp only [md, if_true]
          rw [List.getD_eq_getElem?_getD]
          cases hx : (spl z.length off (cols i') (ys.map (·.1)))[j']? with
          | none => exact .inr rfl
          | some x1 =>
            have := spl_in (by simpa using ⟨h1, h2⟩) hx
            rw [List.getElem?_map, hy] at this
            cases this
            exact .inl rfl
        rcases hmd with h3 | h3
        · rw [h3]; exact hu'
        · rw [h3]; exact .dead hu'.one
      · have hne : ¬ (i * z.length + off ≤ i' * z.length + j' ∧ i' * z.length + j' < i * z.length + off + ys.length) := by
          intro h4
          by_cases h5 : i' = i
          · subst h5
            exact hij ⟨rfl, by omega, by omega⟩
          · exact idx_ne (i := i) (j := i' * z.length + j' - i * z.length) (by omega) hj' (fun e => h5 e.1) (by omega)
        rw [if_neg hne]
        have hlf : lf z (rows.set i (spl z.length off (rows.getD i z) (ys.map (·.2)))) i' j' = lf z rows i' j' := by
          simp only [lf]
          by_cases h5 : i' = i
          · subst h5
            rw [List.getD_eq_getElem?_getD (l := rows.set _ _), List.getElem?_set_self hi, Option.getD_some, List.getD_eq_getElem?_getD, spl_out (by simpa using fun h => by have := hij; simp [h] at this; omega) hj', ← List.getD_eq_getElem?_getD]
          · rw [List.getD_eq_getElem?_getD (l := rows.set _ _), List.getElem?_set_ne (Ne.symm h5), ← List.getD_eq_getElem?_getD]
        have hmd : md (fun k => if k = i then spl z.length off (cols i) (ys.map (·.1)) else cols k) i' j' = md cols i' j' := by
          simp only [md]
          by_cases h5 : i' = i
          · subst h5
            rw [if_pos rfl, List.getD_eq_getElem?_getD, spl_out (by simpa using fun h => by have := hij; simp [h] at this; omega) hj', ← List.getD_eq_getElem?_getD]
          · rw [if_neg h5]
        rw [hlf, hmd]
        refine (hr i' j' hi' hj').move _ hs (fun q hq => ?_)
        have h1 := ho ([i', j'] ++ q) (.deep hi' hj' hq) (by
          rintro j hj ⟨t, ht⟩
          simp only [List.nil_append, List.cons_append, List.cons.injEq] at ht
          exact hij ⟨ht.1.symm, by omega, by omega⟩)
        simp only [List.append_assoc]
        exact ⟨h1.1, fun b hb => ⟨((h1.2 b hb).1), (h1.2 b hb).2 (by simp)⟩⟩
  | [_], p, m, l, v, h, hv0, hg, hs, ho, hb, hu => by cases m <;> cases l <;> simp [vldL] at hv0
  | i0 :: j0 :: rest, p, m, l, v, h, hv0, hg, hs, ho, hb, hu => by
    cases m with
    | s => cases l <;> simp [vldL] at hv0
    | x => cases l <;> simp [vldL] at hv0
    | o e0 cols0 =>
      cases l with
      | sc u => simp [vldL] at hv0
      | ls z0 rows0 =>
        simp only [vldL] at hv0
        simp only [getL] at hg
        obtain ⟨hh, h0 | ⟨b, c, cur, rfl, hc, hm, ht, hbl, hsz, hl, hr⟩⟩ := h.open_own
        · rw [h0.2] at hv0
          simp at hv0
        · have h00 := ho [] .here (by simp)
          simp only [List.append_nil] at h00
          have hsame := ((h00.2 b ht).2 (by simp)).trans hbl
          simp only [setR]
          refine .own cur (by simp) hc hm (h00.2 b ht).1 (h00.1.trans hh) hsame hsz (fun i' h' => rows_set_len hv0.1 hl i' (by simpa using h')) (fun i' j' hi' hj' => ?_)
          by_cases hij : i' = i0 ∧ j' = j0
          · obtain ⟨rfl, rfl⟩ := hij
            have ih := VR.updR hi hoff rest (p ++ [i', j']) _ _ _ (hr i' j' hi' hj') hv0.2.2 hg hs (fun q hq hn => by
                have h1 := ho ([i', j'] ++ q) (.deep hi' hj' hq) (by
                  rintro j hj ⟨t, ht⟩
                  simp only [List.cons_append, List.nil_append, List.cons.injEq, true_and] at ht
                  exact hn j hj ⟨t, ht⟩)
                simp only [List.append_assoc]
                refine ⟨h1.1, fun b hb => ⟨(h1.2 b hb).1, fun hne => (h1.2 b hb).2 (fun e => ?_)⟩⟩
                simp only [List.cons_append, List.nil_append, List.cons.injEq, true_and] at e
                exact hne e)
              (fun b' cur' ht' hb' => hb b' cur' (by simpa using ht') hb') (fun j y hy => by simpa using hu j y hy)
            rw [lf_set_same hv0.1 hv0.2.1 (hl _ hv0.1)]
            rcases md_set_same (cols := cols0) (i := i') (j := j') (y := (setR rest i off ys (md cols0 i' j', lf z0 rows0 i' j')).1) with h1 | h1
            · rw [h1]; exact ih
            · rw [h1]; exact .dead ih.one
          · rw [lf_set_other hv0.1 hij, md_set_other hij]
            refine (hr i' j' hi' hj').move _ hs (fun q hq => ?_)
            have h1 := ho ([i', j'] ++ q) (.deep hi' hj' hq) (by
              rintro j hj ⟨t, ht⟩
              simp only [List.cons_append, List.nil_append, List.cons.injEq] at ht
              exact hij ⟨ht.1.symm, ht.2.1.symm⟩)
            simp only [List.append_assoc]
            refine ⟨h1.1, fun b hb => ⟨(h1.2 b hb).1, (h1.2 b hb).2 (fun e => ?_)⟩⟩
            simp only [List.cons_append, List.nil_append, List.cons.injEq] at e
            exact hij ⟨e.1, e.2.1⟩
end Go.Sm
