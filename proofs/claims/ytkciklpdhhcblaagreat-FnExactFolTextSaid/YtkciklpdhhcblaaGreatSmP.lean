import Derived.Test.YtkciklpdhhcblaaGreatSmN
/-
  Calls that use up what is handed over ('VX'): the callee holds the caller's slices as its own, under names 900, 901, ..; behind the call they are gone, or they are among its answers.
-/
namespace Go.Sm
open Go.RowKit
set_option linter.unusedVariables false
set_option linter.unusedSimpArgs false

variable {P : Program} {ti : TT} {E : Env} {tag tag' tag0 : Nat → Tag} {hv hv' : Hv} {a : Act} {w w' w0 : World} {t d : Nat} {T : List (List Nat)} {R : List Nat}

/-- Function f, called with what reads as 'as' (slices 900, 901, .. were the caller's, and read as 'ms' says: they are used up), answers what reads as 'rs'. -/
def VX (P : Program) (f : FuncId) (as : List SV) (ms : List (Md × Lf)) (rs : List (Bool × ML)) : Prop :=
  (∃ fn c, P.funcs[f]? = some fn ∧ fn.body = some c ∧ (fn.name == "runtime.NumGoroutine") = false) ∧
  ∀ (w : World) (tag : Nat → Tag) (hv : Hv) (vs : List Value), (∀ b, tag b = .sh ∨ tag b = .off ∨ ∃ k rest, tag b = .own (k :: rest) ∧ 900 ≤ k ∧ k < 900 + ms.length) → (∀ b, w.heap.size ≤ b → tag b = .off) → All2 (SR tag hv w) as vs →
    (∀ i x, ms[i]? = some x → VR tag hv w [900 + i] x.1 x.2 (hv [900 + i])) →
    Calls P f vs.toArray w fun e w' => ∃ tag' hv' rv, e = .returned rv ∧ Fr w tag tag' w' ∧ (∀ b, w'.heap.size ≤ b → tag' b = .off) ∧ RV tag' hv' w' rs rv

/-! ### how the callee holds memory -/
def tagX (T : List (List Nat)) (R : List Nat) (tag : Nat → Tag) : Nat → Tag := fun b => match tag b with
  | .own q => match wh T 900 q with
    | some (k, rest) => .own (k :: rest)
    | none => match q with
      | k :: _ => if k ∈ R then .sh else .off
      | [] => .off
  | s => s
theorem tagX_cases (b : Nat) : tagX T R tag b = .sh ∨ tagX T R tag b = .off ∨ ∃ k rest, tagX T R tag b = .own (k :: rest) ∧ 900 ≤ k ∧ k < 900 + T.length := by
  unfold tagX
  split
  · split
    · rename_i k rest hw
      obtain ⟨i, p, h1, h2, _⟩ := wh_eq hw
      have := (List.getElem?_eq_some_iff.1 h1).1
      exact .inr (.inr ⟨k, rest, rfl, by omega, by omega⟩)
    · split
      · split
        · exact .inl rfl
        · exact .inr (.inl rfl)
      · exact .inr (.inl rfl)
  · rename_i h
    cases ht : tag b with
    | sh => exact .inl rfl
    | off => exact .inr (.inl rfl)
    | own q => exact absurd ht (h q)
theorem tagX_sh {b : Nat} (h : tag b = .sh) : tagX T R tag b = .sh := by simp [tagX, h]
theorem tagX_nm {b : Nat} (h : nmB T (tag b) = true) : tagX T R tag b = .sh ∨ tagX T R tag b = .off := by
  unfold tagX
  cases ht : tag b with
  | sh => exact .inl rfl
  | off => exact .inr rfl
  | own q =>
    rw [ht] at h
    simp only [nmB, Option.isNone_iff_eq_none] at h
    simp only [h]
    split
    · split
      · exact .inl rfl
      · exact .inr rfl
    · exact .inr rfl
theorem tagX_nm0 {b : Nat} (hR : R = []) (h : nmB T (tag b) = true) (h1 : tagX T R tag b = .sh) : tag b = .sh := by
  subst hR
  cases ht : tag b with
  | sh => rfl
  | off => simp [tagX, ht] at h1
  | own q =>
    rw [ht] at h
    simp only [nmB, Option.isNone_iff_eq_none] at h
    simp only [tagX, ht, h] at h1
    split at h1
    · simp at h1
    · cases h1
theorem tagX_lend {b : Nat} (hT : hdsOk T) (hd : ∀ p ∈ T, hd0 p ∉ R) (h : lend R tag b = .sh) : tagX T R tag b = .sh := by
  unfold lend at h
  unfold tagX
  split at h
  · rename_i k rest ht
    split at h
    · rename_i hk
      rw [ht]
      have : wh T 900 (k :: rest) = none := wh_none hT.2 (fun p hp e => hd p hp (e ▸ hk))
      simp [this, hk]
    · cases h
  · cases h
  · rename_i h1 h2
    cases ht : tag b with
    | sh => rfl
    | off => rw [ht] at h; cases h
    | own q => cases q with
      | nil => exact absurd ht h2
      | cons k q => exact absurd ht (h1 k q)
theorem fwdX (hT : hdsOk T) {i : Nat} {p : List Nat} {m : Md} {l : Lf} {v : Value} (hp : T[i]? = some p) (h : VR tag hv w p m l v) : VR (tagX T R tag) (hvC T hv) w [900 + i] m l v := by
  refine h.move [900 + i] (fun b hb => ⟨tagX_sh hb, rfl⟩) (fun rest _ => ⟨?_, fun b hb => ⟨?_, rfl⟩⟩)
  · simp [hvC, plN_at hp]
  · simp [tagX, hb, wh_app hT hp]

/-- Arguments, as the callee holds them. -/
def SV.us (E : Env) (T : List (List Nat)) : SV → Option (Prop × SV)
  | .v ag ls => some (True, .v ag (ls.map (LV.mv T)))
  | .p q => E.shS (.p q)
  | .fn k caps => E.shS (.fn k caps)
  | _ => none
def Env.usS (E : Env) (T : List (List Nat)) : List SV → Option (Prop × List SV)
  | [] => some (True, [])
  | s :: r => match s.us E T, E.usS T r with
    | some (C, s'), some (D, r') => some (C ∧ D, s' :: r')
    | _, _ => none
def SV.lnm (E : Env) : SV → List Nat
  | .p q => E.nm (.p q)
  | .fn k caps => E.nm (.fn k caps)
  | _ => []
theorem PR.ps_mono {tag1 tag2 : Nat → Tag} {hv1 hv2 : Hv} {ds : List Lf} {v : Value} (hm : ∀ b, tag1 b = .sh → tag2 b = .sh) (h : PR tag1 hv1 w (.ps ds) v) : PR tag2 hv2 w (.ps ds) v := by
  obtain ⟨b, off, h1, h2, h3⟩ := h
  refine ⟨b, off, h1, hm b h2, fun j hj => ?_⟩
  obtain ⟨u, hu, hr⟩ := h3 j hj
  exact ⟨u, hu, hr.move [] (fun b hb => ⟨hm b hb, rfl⟩) (fun rest hr => by cases hr)⟩
theorem PRs.ps_mono {tag1 tag2 : Nat → Tag} {hv1 hv2 : Hv} (hm : ∀ b, tag1 b = .sh → tag2 b = .sh) : ∀ {ds : List (List Lf)} {vs : List Value}, All2 (PR tag1 hv1 w) (ds.map .ps) vs → All2 (PR tag2 hv2 w) (ds.map .ps) vs
  | [], _, h => by cases h; exact .nil
  | _ :: _, _, h => by
    cases h with
    | cons h1 h2 => exact .cons (PR.ps_mono hm h1) (PRs.ps_mono hm h2)
theorem SV.us_ok {s s' : SV} {C : Prop} {v : Value} (hs : St w0 tag0 E tag hv a w) (hT : hdsOk T) (hd : ∀ p ∈ T, hd0 p ∉ R) (hR : ∀ k ∈ s.lnm E, k ∈ R) (h : s.us E T = some (C, s')) (hC : C) (hv0 : SR tag hv w s v) : SR (tagX T R tag) (hvC T hv) w s' v := by
  cases s with
  | v ag ls =>
    simp only [SV.us, Option.some.injEq, Prod.mk.injEq] at h
    obtain ⟨rfl, rfl⟩ := h
    obtain ⟨cs, h1, h2, h3⟩ := hv0
    refine ⟨cs, h1, (h2.imp fun l v h => ?_).map_left, by simpa using h3⟩
    cases l with
    | s l => exact VR.move h [] (fun b hb => ⟨tagX_sh hb, rfl⟩) (fun rest hr => by cases hr)
    | n z => exact h
    | u => exact h
    | r q =>
      obtain ⟨h1, A, n, c, h2⟩ := h
      simp only [LV.mv]
      split
      · rename_i k hw
        obtain ⟨i, p, q1, rfl, q3⟩ := wh_eq hw
        rw [List.append_nil] at q3
        subst q3
        refine ⟨?_, A, n, c, h2⟩
        simp [hvC, plN_at q1, h1]
      · rw [h2]; rfl
  | p q =>
    simp only [SV.us] at h
    have := shS_ok (hv' := hv) hs h hC hR hv0
    simp only [Env.shS] at h
    split at h
    · cases h
      exact PR.ps_mono (fun b hb => tagX_lend hT hd hb) this
    · cases h
  | fn k caps =>
    simp only [SV.us] at h
    have := shS_ok (hv' := hv) hs h hC hR hv0
    simp only [Env.shS] at h
    split at h
    · cases h
      obtain ⟨vs, h1, h2⟩ := this
      exact ⟨vs, h1, PRs.ps_mono (fun b hb => tagX_lend hT hd hb) h2⟩
    · cases h
  | _ => simp [SV.us] at h
theorem usS_ok (hs : St w0 tag0 E tag hv a w) (hT : hdsOk T) (hd : ∀ p ∈ T, hd0 p ∉ R) : ∀ {ss ss' : List SV} {C : Prop} {vs : List Value}, (∀ k ∈ ss.flatMap (SV.lnm E), k ∈ R) → E.usS T ss = some (C, ss') → C → All2 (SR tag hv w) ss vs → All2 (SR (tagX T R tag) (hvC T hv) w) ss' vs
  | [], ss', C, vs, _, h, hC, hv0 => by
    simp only [Env.usS, Option.some.injEq, Prod.mk.injEq] at h
    obtain ⟨rfl, rfl⟩ := h
    cases hv0
    exact .nil
  | s :: r, ss', C, vs, hR, h, hC, hv0 => by
    simp only [Env.usS] at h
    split at h
    · rename_i C1 s1 C2 r1 h1 h2
      cases h
      cases hv0 with
      | cons h3 h4 =>
        exact .cons (SV.us_ok hs hT hd (fun k hk => hR k (List.mem_flatMap.2 ⟨s, by simp, hk⟩)) h1 hC.1 h3) (usS_ok hs hT hd (fun k hk => by
          obtain ⟨x, hx, hk⟩ := List.mem_flatMap.1 hk
          exact hR k (List.mem_flatMap.2 ⟨x, by simp [hx], hk⟩)) h2 hC.2 h4)
    · cases h

/-! ### answers under their names in the caller -/
section
variable {tn : Nat → Tag} {hn : Hv}
variable (H : ∀ b rest, hn ((d + 1000 * b) :: rest) = hv' (b :: rest) ∧ ∀ b', tag' b' = .own (b :: rest) → tn b' = .own ((d + 1000 * b) :: rest))
include H
theorem rmv {b : Nat} {m : Md} {l : Lf} {v : Value} (hR : (∀ b', tag' b' = .sh → tn b' = .sh) ∨ Ow m l) (h : VR tag' hv' w' [b] m l v) : VR tn hn w' [d + 1000 * b] m l v := by
  have hown : ∀ rest, hn ([d + 1000 * b] ++ rest) = hv' ([b] ++ rest) ∧ ∀ b', tag' b' = .own ([b] ++ rest) → tn b' = .own ([d + 1000 * b] ++ rest) ∧ w'.heap[b']? = w'.heap[b']? :=
    fun rest => ⟨(H b rest).1, fun b' hb' => ⟨(H b rest).2 b' hb', rfl⟩⟩
  rcases hR with hR | hR
  · exact h.move _ (fun b' hb' => ⟨hR b' hb', rfl⟩) (fun rest _ => hown rest)
  · exact h.moveOw hR _ (fun rest _ => hown rest)
theorem rL : ∀ {b : Nat} {ml : ML} {cs : List Value}, ((∀ b', tag' b' = .sh → tn b' = .sh) ∨ OwML ml) → RC tag' hv' w' b ml cs → All2 (LR tn hn w') (resL d b ml) cs
  | b, [], [], _, _ => .nil
  | b, [], _ :: _, _, h => by simp [RC] at h
  | b, _ :: _, [], _, h => by simp [RC] at h
  | b, (m, l) :: r, c :: cs, hR, h => by
    simp only [RC] at h
    have h1 := rmv H (hR.imp id fun ho => ho (m, l) (by simp)) h.1
    have h2 := rL (hR.imp id fun ho x hx => ho x (by simp [hx])) h.2
    cases m with
    | s => exact .cons (res_sh h1) h2
    | x => exact .cons h1.one h2
    | o e cols =>
      cases l with
      | sc u => cases h1
      | ls z rows =>
        refine .cons ?_ h2
        obtain ⟨h3, h4⟩ := h1.open_own
        refine ⟨h3.symm, ?_⟩
        rcases h4 with ⟨h5, _⟩ | ⟨_, _, _, h5, _⟩ <;> exact ⟨_, _, _, h5⟩
theorem rR : ∀ {b : Nat} {ml : ML} {cs : List Value}, ((∀ b', tag' b' = .sh → tn b' = .sh) ∨ OwML ml) → RC tag' hv' w' b ml cs → ∀ x ∈ resR d b ml, VR tn hn w' [x.1] x.2.1 x.2.2 (hn [x.1])
  | b, [], [], _, _ => by simp [resR]
  | b, [], _ :: _, _, h => by simp [RC] at h
  | b, _ :: _, [], _, h => by simp [RC] at h
  | b, (m, l) :: r, c :: cs, hR, h => by
    simp only [RC] at h
    have h1 := rmv H (hR.imp id fun ho => ho (m, l) (by simp)) h.1
    have h2 := rR (hR.imp id fun ho x hx => ho x (by simp [hx])) h.2
    intro x hx
    cases m with
    | s => exact h2 x hx
    | x => exact h2 _ hx
    | o e cols =>
      simp only [resR, List.mem_cons] at hx
      rcases hx with rfl | hx
      · cases l with
        | sc u => cases h1
        | ls z rows =>
          have := h1.open_own.1
          simp only
          rw [this]
          exact h1
      · exact h2 x hx
theorem rPs : ∀ {b : Nat} {ps : List (Bool × ML)} {vs : List Value}, ((∀ b', tag' b' = .sh → tn b' = .sh) ∨ OwRs ps) → RVs tag' hv' w' b ps vs → All2 (fun (q : Bool × List LV) u => VV tn hn w' q.1 q.2 u) (resPs d b ps) vs ∧
    ∀ x ∈ resRs d b ps, VR tn hn w' [x.1] x.2.1 x.2.2 (hn [x.1])
  | b, [], [], _, _ => ⟨.nil, by simp [resRs]⟩
  | b, [], _ :: _, _, h => by simp [RVs] at h
  | b, _ :: _, [], _, h => by simp [RVs] at h
  | b, (ag, ml) :: r, v :: vs, hR, h => by
    simp only [RVs] at h
    obtain ⟨⟨cs, h1, h2, h3⟩, h4⟩ := h
    have hm : (∀ b', tag' b' = .sh → tn b' = .sh) ∨ OwML ml := hR.imp id fun ho => ho (ag, ml) (by simp)
    have ih := rPs (hR.imp id fun ho x hx => ho x (by simp [hx])) h4
    refine ⟨.cons ⟨cs, h1, rL H hm h2, fun hf => ?_⟩ ih.1, fun x hx => ?_⟩
    · have : ∀ b (ml : ML), (resL d b ml).length = ml.length := by
        intro b ml
        induction ml generalizing b with
        | nil => rfl
        | cons y r ih =>
          obtain ⟨m, l⟩ := y
          cases m <;> simp [resL, ih]
      rw [this]
      exact h3 hf
    · simp only [resRs, List.mem_append] at hx
      rcases hx with hx | hx
      · exact rR H hm h2 x hx
      · exact ih.2 x hx
end
theorem RV_key {rs : List (Bool × ML)} {rv : Value} (hrv : RV tag' hv' w' rs rv) : ∃ vs, RVs tag' hv' w' 0 rs vs ∧ ((rs.length = 1 ∧ vs = [rv]) ∨ (rs.length ≠ 1 ∧ rv = .tuple vs.toArray)) := by
  unfold RV at hrv
  split at hrv
  · exact ⟨_, hrv, .inl ⟨rfl, rfl⟩⟩
  · rename_i h9
    obtain ⟨vs, h2, h3⟩ := hrv
    refine ⟨vs, h3, .inr ⟨fun hl => ?_, h2⟩⟩
    match rs, hl, h9 with
    | [p], _, h9 => exact h9 p rfl

/-! ### the environment behind such a call -/
def rt1 (T : List (List Nat)) : Nat → Bool := fun r => T.any fun p => match p with | [k] => k == r | _ => false
def pl3 (T : List (List Nat)) : List (List Nat) := T.filter fun p => p.length == 3
def kil1 (i j : Nat) : Md × Lf → Md × Lf
  | (.o e cols, l) => (.o e (fun k => if k = i then (cols i).set j .x else cols k), l)
  | x => x
def kil3 (E : Env) : List (List Nat) → List (Nat × Md × Lf)
  | [r, i, j] :: T => (match lkp E.rt r with | some x => [(r, kil1 i j x)] | none => []) ++ kil3 E T
  | _ :: T => kil3 E T
  | [] => []
def Env.useE (E : Env) (d : Nat) (T : List (List Nat)) (rs : List (Bool × ML)) : Env :=
  E.re (fun r => fam d r || rt1 T r) (pl3 T) [] (resRs d 0 rs ++ kil3 E T)
def uPre (E : Env) : List (List Nat) → List (Md × Lf) → Prop
  | [], [] => True
  | p :: T, (m, l) :: ms => E.at_ p = some (m, l) ∧ E.vld p ∧ (match m with | .o _ _ => True | _ => False) ∧ uPre E T ms
  | _, _ => False
theorem uPre_len : ∀ {T : List (List Nat)} {ms : List (Md × Lf)}, uPre E T ms → T.length = ms.length
  | [], [], _ => rfl
  | [], _ :: _, h => by simp [uPre] at h
  | _ :: _, [], h => by simp [uPre] at h
  | p :: T, (m, l) :: ms, h => by simp [uPre_len h.2.2.2]
theorem uPre_get : ∀ {T : List (List Nat)} {ms : List (Md × Lf)} {i : Nat} {p : List Nat}, uPre E T ms → T[i]? = some p → ∃ m l, ms[i]? = some (m, l) ∧ E.at_ p = some (m, l) ∧ E.vld p ∧ ∃ e cols, m = .o e cols
  | [], _, _, _, h, hp => by simp at hp
  | _ :: _, [], _, _, h, _ => by simp [uPre] at h
  | p0 :: T, (m, l) :: ms, 0, p, h, hp => by
    simp only [List.getElem?_cons_zero, Option.some.injEq] at hp
    subst hp
    obtain ⟨h1, h2, h3, _⟩ := h
    cases m with
    | o e cols => exact ⟨_, l, rfl, h1, h2, e, cols, rfl⟩
    | s => exact h3.elim
    | x => exact h3.elim
  | p0 :: T, (m, l) :: ms, i + 1, p, h, hp => by
    simp only [List.getElem?_cons_succ] at hp ⊢
    exact uPre_get h.2.2.2 hp
theorem lkp_kil3 {r : Nat} {y : Md × Lf} : ∀ {T : List (List Nat)}, lkp (kil3 E T) r = some y → ∃ i j x, [r, i, j] ∈ T ∧ lkp E.rt r = some x ∧ y = kil1 i j x
  | [], h => by simp [kil3, lkp] at h
  | p :: T, h => by
    have ih : lkp (kil3 E T) r = some y → ∃ i j x, [r, i, j] ∈ p :: T ∧ lkp E.rt r = some x ∧ y = kil1 i j x := fun h => by
      obtain ⟨i, j, x, h1, h2⟩ := lkp_kil3 h
      exact ⟨i, j, x, by simp [h1], h2⟩
    unfold kil3 at h
    split at h
    · rename_i r0 i j T0 e
      cases e
      rw [lkp_app] at h
      split at h
      · rename_i z hz
        cases h
        split at hz
        · rename_i x hx
          simp only [lkp] at hz
          split at hz
          · rename_i e
            subst e
            cases hz
            exact ⟨i, j, x, by simp, hx, rfl⟩
          · cases hz
        · simp [lkp] at hz
      · exact ih h
    · rename_i e
      cases e
      exact ih h
    · cases ‹_ :: _ = []›

def tagV (T : List (List Nat)) (sz d : Nat) (tag tag' : Nat → Tag) : Nat → Tag := fun b =>
  if b < sz ∧ nmB T (tag b) = true then tag b else match tag' b with
    | .own (r :: rest) => .own ((d + 1000 * r) :: rest)
    | .own [] => .off
    | s => s

theorem dth_wh {d : Nat} {q : List Nat} (hT : hdsOk T) (h : dth (fun r => fam d r || rt1 T r) (pl3 T) q = false) : wh T 900 q = none := by
  cases hw : wh T 900 q with
  | none => rfl
  | some y =>
    exfalso
    obtain ⟨k, rest⟩ := y
    obtain ⟨i, p, h1, h2, rfl⟩ := wh_eq hw
    have hm := List.mem_of_getElem? h1
    have hp := hT.2 p hm
    simp only [dth, Bool.or_eq_false_iff, List.any_eq_false] at h
    match p, hp, hm, h with
    | [k], _, hm, h =>
      have h3 : rt1 T k = false := by
        have := h.1
        simp only [List.cons_append, Bool.or_eq_false_iff] at this
        exact this.2
      simp only [rt1, List.any_eq_false] at h3
      have := h3 _ hm
      simp at this
    | [k, i, j], _, hm, h =>
      have := h.2 [k, i, j] (List.mem_filter.2 ⟨hm, rfl⟩)
      simp [List.isPrefixOf] at this

theorem St.use {ms : List (Md × Lf)} {rs : List (Bool × ML)} {rv : Value} (hs : St w0 tag0 E tag hv a w) (hT : hdsOk T) (hd : d < 1000) (hdT : ∀ p ∈ pl3 T, fam d (hd0 p) = false) (hpre : uPre E T ms) (hfr : Fr w (tagX T R tag) tag' w') (hi' : ∀ b, w'.heap.size ≤ b → tag' b = .off)
    (hR : R = [] ∨ OwRs rs) (hrv : RV tag' hv' w' rs rv) : ∃ tg hh, St w0 tag0 (E.useE d T rs) tg hh a w' ∧ SR tg hh w' (resS d rs) rv := by
  have hkeep : ∀ b, b < w.heap.size → nmB T (tag b) = true → w'.heap[b]? = w.heap[b]? ∧ tagV T w.heap.size d tag tag' b = tag b := fun b hb hn =>
    ⟨(hfr.heap b hb (tagX_nm hn)).1, by simp [tagV, hb, hn]⟩
  have hHp : Hp (fun r => fam d r || rt1 T r) (pl3 T) [] tag (tagV T w.heap.size d tag tag') hv (hvN hv hv' d) w w' := by
    refine ⟨fun b hb h => ?_, fun b q hb h hq => ?_, fun b hb h => ?_, fun q hq => ?_, hfr.os, hfr.tape, hfr.output, hfr.size, fun b hb => ?_⟩
    · have := hkeep b hb (by simp [nmB, h])
      exact ⟨this.2.trans h, this.1⟩
    · have := hkeep b hb (by simp [nmB, h, dth_wh hT hq])
      exact ⟨this.2.trans h, fun _ => this.1⟩
    · have := hkeep b hb (by simp [nmB, h])
      exact ⟨this.2.trans h, this.1⟩
    · cases q with
      | nil => simp [dth] at hq
      | cons r q =>
        simp only [dth, Bool.or_eq_false_iff] at hq
        simp [hvN, hq.1.1]
    · have hlt : ¬ b < w.heap.size := by have := hfr.size; omega
      simp [tagV, hlt, hi' b hb]
  have H : ∀ b rest, hvN hv hv' d ((d + 1000 * b) :: rest) = hv' (b :: rest) ∧ ∀ b', tag' b' = .own (b :: rest) → tagV T w.heap.size d tag tag' b' = .own ((d + 1000 * b) :: rest) := by
    intro b rest
    refine ⟨hvN_new hd b rest, fun b' hb' => ?_⟩
    simp only [tagV]
    split
    · rename_i hc
      have h1 := (hfr.heap b' hc.1 (tagX_nm hc.2)).2
      rcases tagX_nm (R := R) hc.2 with h2 | h2 <;> rw [h1, h2] at hb' <;> cases hb'
    · rw [hb']
  have hSh : (∀ b', tag' b' = .sh → tagV T w.heap.size d tag tag' b' = .sh) ∨ OwRs rs := by
    refine hR.imp (fun hR b' hb' => ?_) id
    simp only [tagV]
    split
    · rename_i hc
      have h1 := (hfr.heap b' hc.1 (tagX_nm hc.2)).2
      rw [hb'] at h1
      exact tagX_nm0 hR hc.2 h1.symm
    · rw [hb']
  obtain ⟨vs, h2, h3⟩ := RV_key hrv
  have h4 := rPs H hSh h2
  refine ⟨tagV T w.heap.size d tag tag', hvN hv hv' d, hs.re hHp (fun q hq => by cases hq) (fun r y hl => ?_), ?_⟩
  · rcases lkp_append _ _ _ _ hl with ⟨z, hz, rfl⟩ | hl
    · exact h4.2 _ hz
    · obtain ⟨i, j, x, hm, hx, rfl⟩ := lkp_kil3 hl
      have hm3 : [r, i, j] ∈ pl3 T := List.mem_filter.2 ⟨hm, rfl⟩
      obtain ⟨n, hn⟩ := List.getElem?_of_mem hm
      obtain ⟨m, l, _, hat, hvl, _⟩ := uPre_get hpre hn
      simp only [Env.at_, hx, Option.bind_some] at hat
      simp only [Env.vld, hx] at hvl
      have hfd : fam d r = false := hdT _ hm3
      have hr1 : rt1 T r = false := by
        simp only [rt1, List.any_eq_false]
        intro p hp
        obtain ⟨n', hn'⟩ := List.getElem?_of_mem hp
        split
        · rename_i k
          intro e
          have e' : k = r := by simpa using e
          subst e'
          have := (hd_inj hT hn' hn rfl).2
          cases this
        · simp
      have hdt : ∀ q : List Nat, ¬ [i, j] <+: q → dth (fun r => fam d r || rt1 T r) (pl3 T) (r :: q) = false := by
        intro q hq
        simp only [dth, hfd, hr1, Bool.or_self, Bool.false_or, List.any_eq_false]
        intro p hp hpre
        have hp' := (List.mem_filter.1 hp).1
        have hpl := List.isPrefixOf_iff_prefix.1 hpre
        obtain ⟨n', hn'⟩ := List.getElem?_of_mem hp'
        obtain ⟨r', p', rfl⟩ := plOk_cons (hT.2 p hp')
        obtain ⟨u, hu⟩ := hpl
        simp only [List.cons_append, List.cons.injEq] at hu
        have := (hd_inj hT hn' hn hu.1).2
        simp only [List.cons.injEq] at this
        exact hq ⟨u, by rw [← this.2]; exact hu.2⟩
      obtain ⟨mx, lx⟩ := x
      cases mx with
      | s => cases lx <;> simp [vldL] at hvl
      | x => cases lx <;> simp [vldL] at hvl
      | o e cols =>
        cases lx with
        | sc u => simp [vldL] at hvl
        | ls z rows =>
          simp only [vldL] at hvl
          simp only [kil1]
          have ev : hvN hv hv' d [r] = hv [r] := by simp [hvN, hfd]
          rw [ev]
          obtain ⟨hh0, h8 | ⟨b, c, cur, hvv, hc, hmx, ht, hbl, hsz, hl, hrr⟩⟩ := (hs.rt r _ hx).open_own
          · rw [h8.2] at hvl; simp at hvl
          · have hbs : b < w.heap.size := by
              rcases Nat.lt_or_ge b w.heap.size with hlt | hge
              · exact hlt
              · rw [Array.getElem?_eq_none hge] at hbl; cases hbl
            have hown := hHp.own b [r] hbs ht (hdt [] (by simp))
            rw [hvv]
            refine .own cur rfl hc hmx hown.1 (ev.trans hvv) ((hown.2 (by simp)).trans hbl) hsz hl (fun i' j' hi' hj' => ?_)
            by_cases hij : i' = i ∧ j' = j
            · obtain ⟨rfl, rfl⟩ := hij
              rcases md_set_same (cols := cols) (i := i') (j := j') (y := Md.x) with h9 | h9 <;> rw [h9] <;> exact .dead (hrr i' j' hi' hj').one
            · rw [md_set_other hij]
              exact (hrr i' j' hi' hj').hp hHp hs.hi (fun rest _ => ⟨hdt _ (by
                rintro ⟨u, hu⟩
                have hu' := hu
                simp at hu'
                exact hij ⟨hu'.1.symm, hu'.2.1.symm⟩), by simp⟩)
  · unfold resS
    split
    · rename_i ag ml
      rcases h3 with ⟨_, rfl⟩ | ⟨h5, _⟩
      · have := h4.1
        simp only [resPs] at this
        cases this with
        | cons h hs => exact h
      · simp at h5
    · rename_i h9
      rcases h3 with ⟨h5, _⟩ | ⟨_, rfl⟩
      · match rs, h5, h9 with
        | [(ag, ml)], _, h9 => exact absurd rfl (h9 ag ml)
      · exact ⟨vs, rfl, h4.1⟩

/-! ### the call -/
/-- A call: by 'VC', by 'VM', or by 'VX'. -/
def CallMx (P : Program) (k : Nat) (as : List SV) (F : List (Bool × ML) → Prop) (G : List SV → List (Md × Lf × Lf) → Int → Prop) (H : List SV → List (Md × Lf) → List (Bool × ML) → Prop) : Prop :=
  (∃ rs, VC P k as rs ∧ F rs) ∨ (∃ as' ms n, VM P k as' ms n ∧ G as' ms n) ∨ ∃ as' ms rs, VX P k as' ms rs ∧ H as' ms rs
section
variable {k : Nat} {as as' : List SV} {F : List (Bool × ML) → Prop} {G : List SV → List (Md × Lf × Lf) → Int → Prop} {H : List SV → List (Md × Lf) → List (Bool × ML) → Prop}
theorem CallMx.of {rs : List (Bool × ML)} (h : VC P k as rs) (hF : F rs) : CallMx P k as F G H := .inl ⟨rs, h, hF⟩
theorem CallMx.mut {ms : List (Md × Lf × Lf)} {n : Int} (h : VM P k as' ms n) (hG : G as' ms n) : CallMx P k as F G H := .inr (.inl ⟨as', ms, n, h, hG⟩)
theorem CallMx.use {ms : List (Md × Lf)} {rs : List (Bool × ML)} (h : VX P k as' ms rs) (hH : H as' ms rs) : CallMx P k as F G H := .inr (.inr ⟨as', ms, rs, h, hH⟩)
end
def kUse (ti : TT) (c : Call) (d : Nat) (dst : Option Nat) (K : Env → Prop) (E : Env) (as' : List SV) (ms : List (Md × Lf)) (rs : List (Bool × ML)) : Prop :=
  match c.callee with
  | .value f => match opd ti E 0 f, argsO ti E c.args.toList c.argTypes.toList with
    | some (.fn _ []), some ss => match E.usS (ss.flatMap SV.pls) ss with
      | some (C, ss') => C ∧ as' = ss' ∧ hdsOk (ss.flatMap SV.pls) ∧ (∀ p ∈ ss.flatMap SV.pls, hd0 p ∉ ss.flatMap (SV.lnm E)) ∧ (∀ p ∈ pl3 (ss.flatMap SV.pls), fam d (hd0 p) = false) ∧ uPre E (ss.flatMap SV.pls) ms ∧ (ss.flatMap (SV.lnm E) = [] ∨ OwRs rs) ∧ d < 1000 ∧
        K ((E.useE d (ss.flatMap SV.pls) rs).put dst (resS d rs))
      | none => False
    | _, _ => False
  | _ => False
theorem use_run {o : Oper} {c : Call} {k k' : Nat} {f : Operand} {ss as' : List SV} {ms : List (Md × Lf)} {rs : List (Bool × ML)} (hs : St w0 tag0 E tag hv a w) (ho : o.op = .call c) (hcf : c.callee = .value f)
    {C D : Prop} {as : List SV} {R0 : List Nat} (hc : callO ti E c = some (C, k, as, R0)) (hvx : VX P k as' ms rs) (h1 : opd ti E 0 f = some (.fn k' [])) (h2 : argsO ti E c.args.toList c.argTypes.toList = some ss)
    (hus : E.usS (ss.flatMap SV.pls) ss = some (D, as')) (hD : D) (hT : hdsOk (ss.flatMap SV.pls)) (hdj : ∀ p ∈ ss.flatMap SV.pls, hd0 p ∉ ss.flatMap (SV.lnm E)) (hpre : uPre E (ss.flatMap SV.pls) ms) :
    ∃ vs : List Value, (execOp a.eval o).run P w = .ok (.enter k vs.toArray) w ∧ Calls P k vs.toArray w fun e w' => ∃ tag' hv' rv, e = .returned rv ∧ Fr w (tagX (ss.flatMap SV.pls) (ss.flatMap (SV.lnm E)) tag) tag' w' ∧ (∀ b, w'.heap.size ≤ b → tag' b = .off) ∧ RV tag' hv' w' rs rv := by
  obtain ⟨callee, args, ats⟩ := c
  simp only at hcf h2
  subst hcf
  have hkk : k' = k := by
    simp only [callO, h1, h2] at hc
    split at hc
    · cases hc
      rfl
    · cases hc
  subst hkk
  generalize hTT : ss.flatMap SV.pls = T at hT hdj hpre hus
  obtain ⟨cs, h4, h5⟩ := opd_ok hs h1
  cases h5
  have h6 := argsO_ok hs h2
  refine ⟨args.toList.map a.eval, ?_, ?_⟩
  · obtain ⟨fn, b, q1, q2, q3⟩ := hvx.1
    have q4 : args.map a.eval = (args.toList.map a.eval).toArray := by
      apply Array.ext'
      simp
    rw [← q4]
    simp only [execOp, ho, resolve, Sem.run_bind, h4, Deferred.ofValue, Sem.run_pure, Result.andThen_ok, invoke, callFunc, run_program, q1, q3, Bool.false_eq_true, if_false, q2, Option.isNone_some, Array.empty_append]
    simp
  · have hlen := uPre_len hpre
    refine (hvx.2 w (tagX T (ss.flatMap (SV.lnm E)) tag) (hvC T hv) _ (fun b => ?_) (fun b hb => ?_) (usS_ok hs hT hdj (fun k hk => hk) hus hD h6) (fun i x hx => ?_)).mono ?_
    · rw [← hlen]
      exact tagX_cases b
    · simp [tagX, hs.hi b hb]
    · have hi : i < T.length := by rw [hlen]; exact (List.getElem?_eq_some_iff.1 hx).1
      have hp : T[i]? = some T[i] := List.getElem?_eq_getElem hi
      obtain ⟨m, l, q1, q2, q3, e, cols, rfl⟩ := uPre_get hpre hp
      rw [hx] at q1
      cases q1
      have ev : hvC T hv [900 + i] = hv T[i] := by simp [hvC, plN_at hp]
      rw [ev]
      refine fwdX hT hp ?_
      cases l with
      | ls z rows => exact at_own hs q2 q3
      | sc u =>
        exfalso
        obtain ⟨r, rest, hrr⟩ := plOk_cons (hT.2 _ (List.getElem_mem hi))
        rw [hrr] at q2 q3
        simp only [Env.at_, Env.vld] at q2 q3
        cases hx0 : lkp E.rt r with
        | none => rw [hx0] at q2; simp at q2
        | some x0 =>
          rw [hx0] at q2 q3
          simp only [Option.bind_some] at q2
          obtain ⟨v', h9, _⟩ := VR.get rest _ _ _ _ _ _ (hs.rt r x0 hx0) q3 q2
          cases h9
    · rintro e w' ⟨tag', hv', rv, rfl, hfr, hi', hrv⟩
      exact ⟨tag', hv', rv, rfl, hfr, hi', hrv⟩
theorem kUse_ok {K : Env → Prop} {o : Oper} {c : Call} {k : Nat} {as' : List SV} {ms : List (Md × Lf)} {rs : List (Bool × ML)} (hs : St w0 tag0 E tag hv a w) (ho : o.op = .call c)
    {C : Prop} {as : List SV} {R0 : List Nat} (hc : callO ti E c = some (C, k, as, R0)) (hvx : VX P k as' ms rs) (h : kUse ti c d o.dst K E as' ms rs) :
    ∃ vs : List Value, (execOp a.eval o).run P w = .ok (.enter k vs.toArray) w ∧ Calls P k vs.toArray w fun e w' => ∃ rv, e = .returned rv ∧ ∃ E' tg hh, St w0 tag0 E' tg hh a w' ∧ SR tg hh w' (resS d rs) rv ∧ K (E'.put o.dst (resS d rs)) := by
  unfold kUse at h
  split at h
  · rename_i f hcf
    split at h
    · rename_i k' ss h1 h2
      split at h
      · rename_i D ss' hus
        obtain ⟨hD, rfl, hT, hdj, hd3, hpre, hR, hd, hK⟩ := h
        obtain ⟨vs, q1, q2⟩ := use_run hs ho hcf hc hvx h1 h2 hus hD hT hdj hpre
        refine ⟨vs, q1, q2.mono ?_⟩
        rintro e w' ⟨tag', hv', rv, rfl, hfr, hi', hrv⟩
        obtain ⟨tg, hh, h7, h8⟩ := hs.use hT hd hd3 hpre hfr hi' hR hrv
        exact ⟨rv, rfl, _, tg, hh, h7, h8, hK⟩
      · exact h.elim
    · exact h.elim
  · exact h.elim
end Go.Sm
