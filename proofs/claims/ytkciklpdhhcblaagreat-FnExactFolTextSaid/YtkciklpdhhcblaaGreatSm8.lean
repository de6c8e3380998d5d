import Derived.Test.YtkciklpdhhcblaaGreatSm7
/-
  How an environment moves on.
-/
namespace Go.Sm
open Go.RowKit

variable {P : Program} {ti : TT} {E : Env} {tag tag' tag0 : Nat → Tag} {hv hv' : Hv} {a : Act} {w w' w0 : World} {t : Nat} {d : Nat → Bool}

def Env.put (E : Env) (d : Option Nat) (sv : SV) : Env :=
  match d with
  | none => E
  | some d => if d < E.nt then { E with sl := putL E.sl d sv } else { E with sl := delL E.sl d }

theorem eval_put (a : Act) (d t : Nat) (v : Value) : (a.put (some d) v).eval (.tmp t) = if d = t ∧ d < a.tmps.size then v else a.eval (.tmp t) := by
  simp only [Act.put, Act.eval, Array.getD_eq_getD_getElem?]
  by_cases h : d = t
  · subst h
    by_cases h2 : d < a.tmps.size
    · simp [h2]
    · simp [h2]
  · rw [Array.getElem?_setIfInBounds_ne h]
    simp [h]

theorem St.put (hs : St w0 tag0 E tag hv a w) {d : Option Nat} {sv : SV} {v : Value} (h : SR tag hv w sv v) : St w0 tag0 (E.put d sv) tag hv (a.put d v) w := by
  cases d with
  | none => exact hs
  | some d =>
    have hsz : (a.put (some d) v).tmps.size = a.tmps.size := by simp [Act.put]
    by_cases hd : d < E.nt
    · simp only [Env.put, if_pos hd]
      refine ⟨hsz.trans hs.nt, hs.df, fun t sv' hl => ?_, hs.bx, hs.rt, hs.fr, hs.hi⟩
      rw [lkp_putL] at hl
      rw [eval_put]
      split at hl
      · rename_i he
        cases hl
        rw [if_pos ⟨he, by rw [hs.nt]; exact hd⟩]
        exact h
      · rename_i he
        rw [if_neg (fun hh => he hh.1)]
        exact hs.sl t sv' hl
    · simp only [Env.put, if_neg hd]
      refine ⟨hsz.trans hs.nt, hs.df, fun t sv' hl => ?_, hs.bx, hs.rt, hs.fr, hs.hi⟩
      rw [lkp_delL] at hl
      rw [eval_put]
      split at hl
      · cases hl
      · rename_i he
        rw [if_neg (fun hh => he hh.1)]
        exact hs.sl t sv' hl

/-- What is known may be forgotten. -/
theorem St.weak {E' : Env} (hs : St w0 tag0 E tag hv a w) (h0 : E'.nt = E.nt) (h1 : ∀ t sv, lkp E'.sl t = some sv → lkp E.sl t = some sv) (h2 : ∀ b ls, lkp E'.bx b = some ls → lkp E.bx b = some ls)
    (h3 : ∀ r x, lkp E'.rt r = some x → lkp E.rt r = some x) : St w0 tag0 E' tag hv a w :=
  ⟨hs.nt.trans h0.symm, hs.df, fun t sv h => hs.sl t sv (h1 t sv h), fun b ls h => hs.bx b ls (h2 b ls h), fun r x h => hs.rt r x (h3 r x h), hs.fr, hs.hi⟩

def keepL {α : Type} (l : List (Nat × α)) : List Nat → List (Nat × α)
  | [] => []
  | t :: r => match lkp l t with
    | some x => (t, x) :: keepL l r
    | none => keepL l r
theorem lkp_keepL {α : Type} (l : List (Nat × α)) (t : Nat) (x : α) : ∀ vs : List Nat, lkp (keepL l vs) t = some x → lkp l t = some x
  | [], h => by simp [keepL, lkp] at h
  | s :: r, h => by
    simp only [keepL] at h
    split at h
    · rename_i y hy
      simp only [lkp] at h
      split at h
      · rename_i he
        subst he
        rw [hy]; exact h
      · exact lkp_keepL l t x r h
    · exact lkp_keepL l t x r h
/-- The slots vs alone. -/
def Env.keep (E : Env) (vs : List Nat) : Env := { E with sl := keepL E.sl vs }
theorem St.keep (hs : St w0 tag0 E tag hv a w) (vs : List Nat) : St w0 tag0 (E.keep vs) tag hv a w :=
  hs.weak rfl (fun t sv h => lkp_keepL _ t sv vs h) (fun _ _ h => h) (fun _ _ h => h)

/-! ### a name is taken anew -/
def LV.fr (d : Nat → Bool) : LV → LV
  | .r (k :: p) => if d k = true then .u else .r (k :: p)
  | .r [] => .u
  | l => l
def PV.hd (d : Nat → Bool) : PV → Bool
  | .pt (r :: _) _ _ _ => d r
  | .pt [] _ _ _ => true
  | .vw (r :: _) _ _ _ => d r
  | .vw [] _ _ _ => true
  | .bx b _ => d b
  | .ps _ => false
def SV.fr (d : Nat → Bool) : SV → SV
  | .v ag ls => .v ag (ls.map (LV.fr d))
  | .tu parts => .tu (parts.map fun q => (q.1, q.2.map (LV.fr d)))
  | .p q => if q.hd d then .dead else .p q
  | .fn k caps => if caps.any (PV.hd d) then .dead else .fn k caps
  | .g c s => .g c (s.fr d)
  | .pin r x => if d r then .dead else .pin r x
  | .dead => .dead
def delD {α : Type} : List (Nat × α) → (Nat → Bool) → List (Nat × α)
  | [], _ => []
  | (k, x) :: r, d => if d k = true then delD r d else (k, x) :: delD r d
theorem lkp_delD {α : Type} (d : Nat → Bool) (t' : Nat) : ∀ l : List (Nat × α), lkp (delD l d) t' = if d t' = true then none else lkp l t'
  | [] => by simp [delD, lkp]
  | (k, x) :: r => by
    simp only [delD]
    by_cases h : d k = true
    · simp only [if_pos h, lkp_delD d t' r, lkp]
      by_cases h2 : k = t'
      · subst h2
        simp [h]
      · simp [h2]
    · simp only [if_neg h, lkp, lkp_delD d t' r]
      by_cases h2 : k = t'
      · subst h2
        simp [h]
      · simp [h2]
def Env.fresh (E : Env) (d : Nat → Bool) : Env :=
  { E with sl := E.sl.map fun x => (x.1, x.2.fr d), bx := (delD E.bx d).map fun x => (x.1, x.2.map (LV.fr d)), rt := delD E.rt d }
/-- The names that belong to a slot. -/
def fam (d : Nat) : Nat → Bool := fun r => r % 1000 == d

theorem lkp_map {α β : Type} (f : α → β) (t : Nat) : ∀ l : List (Nat × α), lkp (l.map fun x => (x.1, f x.2)) t = (lkp l t).map f
  | [] => rfl
  | (k, x) :: r => by
    simp only [List.map_cons, lkp]
    split
    · rfl
    · exact lkp_map f t r

/-- Memory moves on, but for what is named by d. -/
structure Hop (d : Nat → Bool) (tag tag' : Nat → Tag) (hv hv' : Hv) (w w' : World) : Prop where
  sh : ∀ b, b < w.heap.size → tag b = .sh → tag' b = .sh ∧ w'.heap[b]? = w.heap[b]?
  own : ∀ b r p, b < w.heap.size → tag b = .own (r :: p) → d r = false → tag' b = .own (r :: p) ∧ w'.heap[b]? = w.heap[b]?
  hv : ∀ r p, d r = false → hv' (r :: p) = hv (r :: p)

theorem VR.hop {p : List Nat} {m : Md} {l : Lf} {v : Value} {r : Nat} (h : VR tag hv w (r :: p) m l v) (hh : Hop d tag tag' hv hv' w w') (hr : d r = false) (hi : ∀ b, w.heap.size ≤ b → tag b = .off) : VR tag' hv' w' (r :: p) m l v := by
  refine h.move _ (fun b hb => ?_) (fun rest _ => ⟨hh.hv r (p ++ rest) hr, fun b hb => ?_⟩)
  · rcases Nat.lt_or_ge b w.heap.size with hlt | hge
    · exact hh.sh b hlt hb
    · rw [hi b hge] at hb; cases hb
  · rcases Nat.lt_or_ge b w.heap.size with hlt | hge
    · exact hh.own b r (p ++ rest) hlt hb hr
    · rw [hi b hge] at hb; cases hb
theorem VR.hop_s {p : List Nat} {l : Lf} {v : Value} (h : VR tag hv w p .s l v) (hh : Hop d tag tag' hv hv' w w') (hi : ∀ b, w.heap.size ≤ b → tag b = .off) : VR tag' hv' w' p .s l v := by
  refine h.move _ (fun b hb => ?_) (fun rest hr => by cases hr)
  rcases Nat.lt_or_ge b w.heap.size with hlt | hge
  · exact hh.sh b hlt hb
  · rw [hi b hge] at hb; cases hb
theorem LR.hop {l : LV} {v : Value} (h : LR tag hv w l v) (hh : Hop d tag tag' hv hv' w w') (hi : ∀ b, w.heap.size ≤ b → tag b = .off) : LR tag' hv' w' (l.fr d) v := by
  cases l with
  | s l => exact VR.hop_s h hh hi
  | n z => exact h
  | u => exact h
  | r p =>
    obtain ⟨h1, A, n, c, h2⟩ := h
    cases p with
    | nil => simp only [LV.fr]; rw [h2]; rfl
    | cons r p =>
      simp only [LV.fr]
      split
      · rw [h2]; rfl
      · rename_i hne
        exact ⟨by rw [hh.hv r p (by simpa using hne)]; exact h1, A, n, c, h2⟩
theorem All2.map_left {α β γ : Type} {R : β → γ → Prop} {f : α → β} {as : List α} {cs : List γ} (h : All2 (fun x y => R (f x) y) as cs) : All2 R (as.map f) cs := by
  induction h with
  | nil => exact .nil
  | cons h _ ih => exact .cons h ih
theorem VV.hop {ag : Bool} {ls : List LV} {v : Value} (h : VV tag hv w ag ls v) (hh : Hop d tag tag' hv hv' w w') (hi : ∀ b, w.heap.size ≤ b → tag b = .off) : VV tag' hv' w' ag (ls.map (LV.fr d)) v := by
  obtain ⟨cs, h1, h2, h3⟩ := h
  exact ⟨cs, h1, (h2.imp fun _ _ h => h.hop hh hi).map_left, by simpa using h3⟩
theorem PR.hop {q : PV} {v : Value} (h : PR tag hv w q v) (hq : q.hd d = false) (hh : Hop d tag tag' hv hv' w w') (hi : ∀ b, w.heap.size ≤ b → tag b = .off) : PR tag' hv' w' q v := by
  cases q with
  | pt p sz i off =>
    cases p with
    | nil => simp [PV.hd] at hq
    | cons r p =>
      obtain ⟨b, n, c, h1, h2⟩ := h
      refine ⟨b, n, c, ?_, h2⟩
      rw [hh.hv r p hq]
      exact h1
  | vw p sz lo n =>
    cases p with
    | nil => simp [PV.hd] at hq
    | cons r p =>
      simp only [PR]
      rw [hh.hv r p hq]
      exact h
  | bx b off =>
    obtain ⟨k, h1, h2⟩ := h
    refine ⟨k, ?_, h2⟩
    rw [hh.hv b [0] hq]
    exact h1
  | ps ds =>
    obtain ⟨b, off, h1, h2, h3⟩ := h
    have hb : ∀ j, j < ds.length → b < w.heap.size := fun j hj => by
      obtain ⟨u, hu, _⟩ := h3 j hj
      exact World.block_lt_of_cell? _ _ hu
    have hsh : tag' b = .sh := by
      rcases Nat.lt_or_ge b w.heap.size with hlt | hge
      · exact (hh.sh b hlt h2).1
      · rw [hi b hge] at h2; cases h2
    refine ⟨b, off, h1, hsh, fun j hj => ?_⟩
    obtain ⟨u, hu, hr⟩ := h3 j hj
    refine ⟨u, ?_, hr.hop_s hh hi⟩
    rw [World.cell?_of_block (w := w) ((hh.sh b (hb j hj) h2).2)]
    exact hu
theorem SR.hop : ∀ {sv : SV} {v : Value}, SR tag hv w sv v → Hop d tag tag' hv hv' w w' → (∀ b, w.heap.size ≤ b → tag b = .off) → SR tag' hv' w' (sv.fr d) v
  | .dead, _, _, _, _ => trivial
  | .v ag ls, v, h, hh, hi => VV.hop h hh hi
  | .tu parts, v, h, hh, hi => by
    obtain ⟨vs, h1, h2⟩ := h
    exact ⟨vs, h1, All2.map_left (h2.imp fun q u h => VV.hop h hh hi)⟩
  | .p q, v, h, hh, hi => by
    simp only [SV.fr]
    split
    · trivial
    · rename_i hq
      exact PR.hop h (by simpa using hq) hh hi
  | .fn k caps, v, h, hh, hi => by
    simp only [SV.fr]
    split
    · trivial
    · rename_i hq
      obtain ⟨vs, h1, h2⟩ := h
      refine ⟨vs, h1, ?_⟩
      simp only [List.any_eq_true, not_exists, not_and, Bool.not_eq_true] at hq
      clear h1
      induction h2 with
      | nil => exact .nil
      | cons h hs ih => exact .cons (PR.hop h (hq _ (by simp)) hh hi) (ih fun x hx => hq x (by simp [hx]))
  | .g c s, v, h, hh, hi => ⟨fun hc => SR.hop (h.1 hc) hh hi, h.2⟩
  | .pin r x, v, h, hh, hi => by
    simp only [SV.fr]
    split
    · trivial
    · rename_i hr
      exact (hh.hv r [] (by simpa using hr)).trans h

/-! where no name is taken anew -/
theorem LR.hop0 {l : LV} {v : Value} (h : LR tag hv w l v) (hh : Hop (fun _ => false) tag tag' hv hv w w') (hi : ∀ b, w.heap.size ≤ b → tag b = .off) : LR tag' hv w' l v := by
  cases l with
  | s l => exact VR.hop_s h hh hi
  | _ => exact h
theorem VV.hop0 {ag : Bool} {ls : List LV} {v : Value} (h : VV tag hv w ag ls v) (hh : Hop (fun _ => false) tag tag' hv hv w w') (hi : ∀ b, w.heap.size ≤ b → tag b = .off) : VV tag' hv w' ag ls v := by
  obtain ⟨cs, h1, h2, h3⟩ := h
  exact ⟨cs, h1, h2.imp fun _ _ h => h.hop0 hh hi, h3⟩
theorem PR.hop0 {q : PV} {v : Value} (h : PR tag hv w q v) (hh : Hop (fun _ => false) tag tag' hv hv w w') (hi : ∀ b, w.heap.size ≤ b → tag b = .off) : PR tag' hv w' q v := by
  cases q with
  | pt p sz i off => exact h
  | vw p sz lo n => exact h
  | bx b off => exact h
  | ps ds => exact PR.hop (q := .ps ds) h rfl hh hi
theorem SR.hop0 : ∀ {sv : SV} {v : Value}, SR tag hv w sv v → Hop (fun _ => false) tag tag' hv hv w w' → (∀ b, w.heap.size ≤ b → tag b = .off) → SR tag' hv w' sv v
  | .dead, _, _, _, _ => trivial
  | .v ag ls, v, h, hh, hi => VV.hop0 h hh hi
  | .tu parts, v, h, hh, hi => by
    obtain ⟨vs, h1, h2⟩ := h
    exact ⟨vs, h1, h2.imp fun q u h => VV.hop0 h hh hi⟩
  | .p q, v, h, hh, hi => PR.hop0 h hh hi
  | .fn k caps, v, h, hh, hi => by
    obtain ⟨vs, h1, h2⟩ := h
    exact ⟨vs, h1, h2.imp fun _ _ h => h.hop0 hh hi⟩
  | .g c s, v, h, hh, hi => ⟨fun hc => SR.hop0 (h.1 hc) hh hi, h.2⟩
  | .pin r x, v, h, hh, hi => h

/-- The environment behind a step that takes the name d anew. -/
theorem St.hop (hs : St w0 tag0 E tag hv a w) (hh : Hop d tag tag' hv hv' w w') (hf : Fr w0 tag0 tag' w') (hi' : ∀ b, w'.heap.size ≤ b → tag' b = .off) : St w0 tag0 (E.fresh d) tag' hv' a w' := by
  have hi := hs.hi
  refine ⟨hs.nt, hs.df, fun t sv h => ?_, fun b ls h => ?_, fun r x h => ?_, hf, hi'⟩
  · simp only [Env.fresh, lkp_map] at h
    obtain ⟨sv0, h1, rfl⟩ := Option.map_eq_some_iff.1 h
    exact SR.hop (hs.sl t sv0 h1) hh hi
  · simp only [Env.fresh, lkp_map, lkp_delD] at h
    obtain ⟨ls0, h1, rfl⟩ := Option.map_eq_some_iff.1 h
    split at h1
    · cases h1
    · rename_i hne
      obtain ⟨k, cur, e, h2, h3, h4, h5⟩ := hs.bx b ls0 h1
      have hk : k < w.heap.size := by
        rcases Nat.lt_or_ge k w.heap.size with hlt | hge
        · exact hlt
        · rw [Array.getElem?_eq_none hge] at h4; cases h4
      have h6 := hh.own k b [0] hk h3 (by simpa using hne)
      exact ⟨k, cur, e, by rw [hh.hv b [0] (by simpa using hne)]; exact h2, h6.1, h6.2.trans h4, (h5.imp fun _ _ h => h.hop hh hi).map_left⟩
  · simp only [Env.fresh, lkp_delD] at h
    split at h
    · cases h
    · rename_i hne
      have := (hs.rt r x h).hop hh (by simpa using hne) hi
      rw [hh.hv r [] (by simpa using hne)]
      exact this
end Go.Sm
