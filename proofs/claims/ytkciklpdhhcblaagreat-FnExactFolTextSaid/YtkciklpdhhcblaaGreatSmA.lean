import Derived.Test.YtkciklpdhhcblaaGreatSm11
/-
  Roots that turn: an environment behind a step that moves, makes or writes slices of the call's own.
-/
namespace Go.Sm
open Go.RowKit

variable {P : Program} {ti : TT} {E : Env} {tag tag' tag0 : Nat → Tag} {hv hv' : Hv} {a : Act} {w w' w0 : World} {t d : Nat}

/-! ### each place has one block -/
def pl : Value → Option Nat
  | .slice (some x) _ _ => some x.block
  | .pointer (some x) => some x.block
  | _ => none
def normT (tag : Nat → Tag) (hv : Hv) : Nat → Tag := fun b => match tag b with
  | .own p => if pl (hv p) = some b then .own p else .off
  | s => s
theorem normT_sh {b : Nat} : normT tag hv b = .sh ↔ tag b = .sh := by
  unfold normT
  cases h : tag b with
  | own p => simp only; split <;> simp
  | _ => simp
theorem normT_own {b : Nat} {p : List Nat} (h : normT tag hv b = .own p) : tag b = .own p ∧ pl (hv p) = some b := by
  unfold normT at h
  cases hb : tag b with
  | own q =>
    rw [hb] at h
    simp only at h
    split at h
    · rename_i h1
      cases h
      exact ⟨rfl, h1⟩
    · cases h
  | sh => rw [hb] at h; cases h
  | off => rw [hb] at h; cases h
theorem normT_one {b b' : Nat} {p : List Nat} (h : normT tag hv b = .own p) (h' : normT tag hv b' = .own p) : b = b' := by
  have h1 := (normT_own h).2
  rw [(normT_own h').2] at h1
  exact (Option.some.inj h1).symm
theorem VR.norm {p : List Nat} {m : Md} {l : Lf} {v : Value} (h : VR tag hv w p m l v) : VR (normT tag hv) hv w p m l v := by
  induction h with
  | dead h1 => exact .dead h1
  | sc h1 => exact .sc h1
  | sh0 => exact .sh0
  | sh cell hn hc ht hl hcell hr ih => exact .sh cell hn hc (normT_sh.2 ht) hl hcell ih
  | own0 hh => exact .own0 hh
  | own cur hn hc hm ht hh hb hs hl hr ih =>
    refine .own cur hn hc hm ?_ hh hb hs hl ih
    simp [normT, ht, hh, pl]
theorem LR.norm {l : LV} {v : Value} (h : LR tag hv w l v) : LR (normT tag hv) hv w l v := by
  cases l with
  | s l => exact VR.norm h
  | _ => exact h
theorem VV.norm {ag : Bool} {ls : List LV} {v : Value} (h : VV tag hv w ag ls v) : VV (normT tag hv) hv w ag ls v := by
  obtain ⟨cs, h1, h2, h3⟩ := h
  exact ⟨cs, h1, h2.imp fun _ _ h => h.norm, h3⟩
theorem PR.norm {q : PV} {v : Value} (h : PR tag hv w q v) : PR (normT tag hv) hv w q v := by
  cases q with
  | ps ds =>
    obtain ⟨b, off, h1, h2, h3⟩ := h
    refine ⟨b, off, h1, normT_sh.2 h2, fun j hj => ?_⟩
    obtain ⟨u, hu, hr⟩ := h3 j hj
    exact ⟨u, hu, hr.norm⟩
  | _ => exact h
theorem SR.norm : ∀ {sv : SV} {v : Value}, SR tag hv w sv v → SR (normT tag hv) hv w sv v
  | .dead, _, _ => trivial
  | .v ag ls, v, h => VV.norm h
  | .tu parts, v, h => by
    obtain ⟨vs, h1, h2⟩ := h
    exact ⟨vs, h1, h2.imp fun _ _ h => VV.norm h⟩
  | .p q, v, h => PR.norm h
  | .fn k caps, v, h => by
    obtain ⟨vs, h1, h2⟩ := h
    exact ⟨vs, h1, h2.imp fun _ _ h => h.norm⟩
  | .g c s, v, h => ⟨fun hc => SR.norm (h.1 hc), h.2⟩
  | .pin r x, v, h => h
theorem St.norm (hs : St w0 tag0 E tag hv a w) : St w0 tag0 E (normT tag hv) hv a w := by
  refine ⟨hs.nt, hs.df, fun t sv h => (hs.sl t sv h).norm, fun b ls h => ?_, fun r x h => (hs.rt r x h).norm, ?_, fun b hb => ?_⟩
  · obtain ⟨k, cur, e, h1, h2, h3, h4⟩ := hs.bx b ls h
    exact ⟨k, cur, e, h1, by simp [normT, h2, h1, pl], h3, h4.imp fun _ _ h => h.norm⟩
  · refine ⟨hs.fr.os, hs.fr.tape, hs.fr.output, hs.fr.size, fun b hb hq => ?_⟩
    obtain ⟨h1, h2⟩ := hs.fr.heap b hb hq
    refine ⟨h1, ?_⟩
    unfold normT
    rcases hq with hq | hq <;> simp [h2, hq]
  · simp [normT, hs.hi b hb]

theorem lkp_app {α : Type} (l2 : List (Nat × α)) (t : Nat) : ∀ l1 : List (Nat × α), lkp (l1 ++ l2) t = match lkp l1 t with | some y => some y | none => lkp l2 t
  | [] => rfl
  | (k, x) :: r => by
    simp only [List.cons_append, lkp]
    split
    · rfl
    · exact lkp_app l2 t r

/-! ### names that die -/
/-- Heads R, and what lies under the places P. -/
def dth (R : Nat → Bool) (P : List (List Nat)) (q : List Nat) : Bool := (match q with | r :: _ => R r | [] => true) || P.any fun p => p.isPrefixOf q
def LV.ct (R : Nat → Bool) (P : List (List Nat)) : LV → LV
  | .r q => if dth R P q = true then .u else .r q
  | l => l
def PV.ct (R : Nat → Bool) (P : List (List Nat)) : PV → Bool
  | .pt q _ _ _ => dth R P q
  | .vw q _ _ _ => dth R P q
  | .bx b _ => dth R P [b, 0]
  | .ps _ => false
def SV.ct (R : Nat → Bool) (P : List (List Nat)) : SV → SV
  | .v ag ls => .v ag (ls.map (LV.ct R P))
  | .tu parts => .tu (parts.map fun q => (q.1, q.2.map (LV.ct R P)))
  | .p q => if q.ct R P then .dead else .p q
  | .fn k caps => if caps.any (PV.ct R P) then .dead else .fn k caps
  | .g c s => .g c (s.ct R P)
  | .pin r x => if dth R P [r] then .dead else .pin r x
  | .dead => .dead
def hdE (r : Nat) : List Nat → Bool
  | k :: _ => k == r
  | [] => true
/-- W: the places whose blocks are written. -/
def Env.re (E : Env) (R : Nat → Bool) (P W : List (List Nat)) (rts : List (Nat × Md × Lf)) : Env :=
  { E with sl := E.sl.map (fun x => (x.1, x.2.ct R P)), bx := (delD E.bx fun b => dth R P [b, 0]).map (fun x => (x.1, x.2.map (LV.ct R P))),
           rt := rts ++ delD E.rt fun r => R r || (P.any (hdE r) || W.any (hdE r)) }

/-- Memory moves on, but for what is named. -/
structure Hp (R : Nat → Bool) (P W : List (List Nat)) (tag tag' : Nat → Tag) (hv hv' : Hv) (w w' : World) : Prop where
  sh : ∀ b, b < w.heap.size → tag b = .sh → tag' b = .sh ∧ w'.heap[b]? = w.heap[b]?
  own : ∀ b q, b < w.heap.size → tag b = .own q → dth R P q = false → tag' b = .own q ∧ (q ∉ W → w'.heap[b]? = w.heap[b]?)
  off : ∀ b, b < w.heap.size → tag b = .off → tag' b = .off ∧ w'.heap[b]? = w.heap[b]?
  hv : ∀ q, dth R P q = false → hv' q = hv q
  os : w'.os = w.os
  tape : w'.tape = w.tape
  output : w'.output = w.output
  size : w.heap.size ≤ w'.heap.size
  hi : ∀ b, w'.heap.size ≤ b → tag' b = .off

section
variable {R : Nat → Bool} {Ps Ws : List (List Nat)}
theorem VR.hp_s {p p' : List Nat} {l : Lf} {v : Value} (h : VR tag hv w p .s l v) (hh : Hp R Ps Ws tag tag' hv hv' w w') (hi : ∀ b, w.heap.size ≤ b → tag b = .off) : VR tag' hv' w' p' .s l v := by
  refine h.move _ (fun b hb => ?_) (fun rest hr => by cases hr)
  rcases Nat.lt_or_ge b w.heap.size with hlt | hge
  · exact hh.sh b hlt hb
  · rw [hi b hge] at hb; cases hb
theorem VR.hp {p : List Nat} {m : Md} {l : Lf} {v : Value} (h : VR tag hv w p m l v) (hh : Hp R Ps Ws tag tag' hv hv' w w') (hi : ∀ b, w.heap.size ≤ b → tag b = .off) (hd : ∀ rest, OwnIn m l rest → dth R Ps (p ++ rest) = false ∧ p ++ rest ∉ Ws) : VR tag' hv' w' p m l v := by
  refine h.move _ (fun b hb => ?_) (fun rest hr => ⟨hh.hv _ (hd rest hr).1, fun b hb => ?_⟩)
  · rcases Nat.lt_or_ge b w.heap.size with hlt | hge
    · exact hh.sh b hlt hb
    · rw [hi b hge] at hb; cases hb
  · rcases Nat.lt_or_ge b w.heap.size with hlt | hge
    · have := hh.own b _ hlt hb (hd rest hr).1
      exact ⟨this.1, this.2 (hd rest hr).2⟩
    · rw [hi b hge] at hb; cases hb
theorem LR.hp {l : LV} {v : Value} (h : LR tag hv w l v) (hh : Hp R Ps Ws tag tag' hv hv' w w') (hi : ∀ b, w.heap.size ≤ b → tag b = .off) : LR tag' hv' w' (l.ct R Ps) v := by
  cases l with
  | s l => exact VR.hp_s h hh hi
  | n z => exact h
  | u => exact h
  | r p =>
    obtain ⟨h1, A, n, c, h2⟩ := h
    simp only [LV.ct]
    split
    · rw [h2]; rfl
    · rename_i hne
      exact ⟨by rw [hh.hv p (by simpa using hne)]; exact h1, A, n, c, h2⟩
theorem VV.hp {ag : Bool} {ls : List LV} {v : Value} (h : VV tag hv w ag ls v) (hh : Hp R Ps Ws tag tag' hv hv' w w') (hi : ∀ b, w.heap.size ≤ b → tag b = .off) : VV tag' hv' w' ag (ls.map (LV.ct R Ps)) v := by
  obtain ⟨cs, h1, h2, h3⟩ := h
  exact ⟨cs, h1, (h2.imp fun _ _ h => h.hp hh hi).map_left, by simpa using h3⟩
theorem PR.hp {q : PV} {v : Value} (h : PR tag hv w q v) (hq : q.ct R Ps = false) (hh : Hp R Ps Ws tag tag' hv hv' w w') (hi : ∀ b, w.heap.size ≤ b → tag b = .off) : PR tag' hv' w' q v := by
  cases q with
  | pt p sz i off =>
    obtain ⟨b, n, c, h1, h2⟩ := h
    refine ⟨b, n, c, ?_, h2⟩
    rw [hh.hv p hq]
    exact h1
  | vw p sz lo n =>
    simp only [PR]
    rw [hh.hv p hq]
    exact h
  | bx b off =>
    obtain ⟨k, h1, h2⟩ := h
    refine ⟨k, ?_, h2⟩
    rw [hh.hv [b, 0] hq]
    exact h1
  | ps ds =>
    obtain ⟨b, off, h1, h2, h3⟩ := h
    have hb : ∀ j, j < ds.length → b < w.heap.size := fun j hj => by
      obtain ⟨u, hu, _⟩ := h3 j hj
      exact World.block_lt_of_cell? _ _ hu
    have hsh : tag' b = .sh := by
      rcases Nat.lt_or_ge b w.heap.size with hlt | hge
      · exact (hh.sh b hlt h2).1
      · rw [hi b hge] at h2; cases h2
    refine ⟨b, off, h1, hsh, fun j hj => ?_⟩
    obtain ⟨u, hu, hr⟩ := h3 j hj
    refine ⟨u, ?_, hr.hp_s hh hi⟩
    rw [World.cell?_of_block (w := w) ((hh.sh b (hb j hj) h2).2)]
    exact hu
theorem SR.hp : ∀ {sv : SV} {v : Value}, SR tag hv w sv v → Hp R Ps Ws tag tag' hv hv' w w' → (∀ b, w.heap.size ≤ b → tag b = .off) → SR tag' hv' w' (sv.ct R Ps) v
  | .dead, _, _, _, _ => trivial
  | .v ag ls, v, h, hh, hi => VV.hp h hh hi
  | .tu parts, v, h, hh, hi => by
    obtain ⟨vs, h1, h2⟩ := h
    exact ⟨vs, h1, All2.map_left (h2.imp fun q u h => VV.hp h hh hi)⟩
  | .p q, v, h, hh, hi => by
    simp only [SV.ct]
    split
    · trivial
    · rename_i hq
      exact PR.hp h (by simpa using hq) hh hi
  | .fn k caps, v, h, hh, hi => by
    simp only [SV.ct]
    split
    · trivial
    · rename_i hq
      obtain ⟨vs, h1, h2⟩ := h
      refine ⟨vs, h1, ?_⟩
      simp only [List.any_eq_true, not_exists, not_and, Bool.not_eq_true] at hq
      clear h1
      induction h2 with
      | nil => exact .nil
      | cons h hs ih => exact .cons (PR.hp h (hq _ (by simp)) hh hi) (ih fun x hx => hq x (by simp [hx]))
  | .g c s, v, h, hh, hi => ⟨fun hc => SR.hp (h.1 hc) hh hi, h.2⟩
  | .pin r x, v, h, hh, hi => by
    simp only [SV.ct]
    split
    · trivial
    · rename_i hr
      exact (hh.hv [r] (by simpa using hr)).trans h

theorem dth_root {r : Nat} {rest : List Nat} (h : (R r || (Ps.any (hdE r) || Ws.any (hdE r))) = false) : dth R Ps (r :: rest) = false ∧ r :: rest ∉ Ws := by
  simp only [Bool.or_eq_false_iff, List.any_eq_false] at h
  simp only [dth, Bool.or_eq_false_iff, List.any_eq_false]
  refine ⟨⟨h.1, fun p hp => ?_⟩, fun hm => ?_⟩
  · have := h.2.1 p hp
    cases p with
    | nil => simp [hdE] at this
    | cons k p =>
      simp only [hdE, beq_iff_eq] at this
      simp [List.isPrefixOf, this]
  · have := h.2.2 _ hm
    simp [hdE] at this

theorem St.re (hs : St w0 tag0 E tag hv a w) (hh : Hp R Ps Ws tag tag' hv hv' w w') (hW : ∀ q ∈ Ws, q.length ≠ 2) {rts : List (Nat × Md × Lf)} (hrt : ∀ r y, lkp rts r = some y → VR tag' hv' w' [r] y.1 y.2 (hv' [r])) : St w0 tag0 (E.re R Ps Ws rts) tag' hv' a w' := by
  have hi := hs.hi
  refine ⟨hs.nt, hs.df, fun t sv h => ?_, fun b ls h => ?_, fun r x h => ?_, hs.fr.step hh.os hh.tape hh.output hh.size fun b hb hq => ?_, hh.hi⟩
  · simp only [Env.re, lkp_map] at h
    obtain ⟨sv0, h1, rfl⟩ := Option.map_eq_some_iff.1 h
    exact SR.hp (hs.sl t sv0 h1) hh hi
  · simp only [Env.re, lkp_map, lkp_delD] at h
    obtain ⟨ls0, h1, rfl⟩ := Option.map_eq_some_iff.1 h
    split at h1
    · cases h1
    · rename_i hne
      obtain ⟨k, cur, e, h2, h3, h4, h5⟩ := hs.bx b ls0 h1
      have hk : k < w.heap.size := by
        rcases Nat.lt_or_ge k w.heap.size with hlt | hge
        · exact hlt
        · rw [Array.getElem?_eq_none hge] at h4; cases h4
      have h6 := hh.own k [b, 0] hk h3 (by simpa using hne)
      exact ⟨k, cur, e, by rw [hh.hv [b, 0] (by simpa using hne)]; exact h2, h6.1, (h6.2 (fun hm => hW _ hm rfl)).trans h4, (h5.imp fun _ _ h => h.hp hh hi).map_left⟩
  · simp only [Env.re, lkp_app] at h
    split at h
    · rename_i z hz
      cases h
      exact hrt r _ hz
    · rw [lkp_delD] at h
      split at h
      · cases h
      · rename_i hne
        have hne' : (R r || (Ps.any (hdE r) || Ws.any (hdE r))) = false := by simpa using hne
        have := (hs.rt r x h).hp hh hi (fun rest _ => dth_root hne')
        rw [hh.hv [r] (dth_root hne').1]
        exact this
  · rcases hq with hq | hq
    · have := hh.sh b hb hq
      exact ⟨this.2, this.1.trans hq.symm⟩
    · have := hh.off b hb hq
      exact ⟨this.2, this.1.trans hq.symm⟩
end
end Go.Sm
