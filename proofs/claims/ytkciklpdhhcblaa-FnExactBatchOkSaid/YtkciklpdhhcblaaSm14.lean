import Derived.Test.YtkciklpdhhcblaaSm13
namespace Go.Sm
open Go.RowKit

variable {P : Program} {ti : TT} {E : Env} {tag tag' tag0 : Nat → Tag} {hv hv' : Hv} {a : Act} {w w' w0 : World} {t d : Nat}

/-- From whatever environment that looks like Er where o looks, o puts sv. -/
def StepOk (P : Program) (ops : Array Oper) (o : Oper) (Er : Env) (sv : SV) (rts : RT) : Prop :=
  ∀ (w0 : World) (tag0 : Nat → Tag) (E : Env) (tag : Nat → Tag) (hv : Hv) (a : Act) (w : World) (N : Act → World → Prop) (Q : Exit → Act → World → Prop),
    St w0 tag0 E tag hv a w → E.kp (lks ops.toList o) = Er → (isCallO o = true → E.cl (fam (dn o))) →
    (∀ tag' hv' v w', St w0 tag0 ((E.addR rts).put o.dst sv) tag' hv' (a.put o.dst v) w' → N (a.put o.dst v) w') →
    if Region.wanted o (yielded ops a.tmps) = true then o.wp P a w N Q else N (a.put o.dst undef) w

theorem addR_nil : E.addR [] = E := rfl
/-- What stands behind. -/
def Beh (P : Program) (ops : Array Oper) (o : Oper) (Er : Env) (K : SV → RT → Prop) : Prop :=
  ∃ sv rts, K sv rts ∧ StepOk P ops o Er sv rts ∧ (rts ≠ [] → isCallO o = true) ∧ ∀ x ∈ rts, fam (dn o) x.1 = true

theorem callO_isCall {o : Oper} {c : Call} {X : Prop × Nat × List SV × List Nat} (ho : o.op = .call c) (h : callO ti E c = some X) (hd : o.dst.isSome = true) : isCallO o = true := by
  unfold callO at h
  split at h
  · rename_i f hf
    unfold isCallO
    rw [ho]
    simp only [hf]
    exact hd
  · cases h
theorem opd_kp {ts : List Nat} {T : Nat} {x : Operand} {sv : SV} (h : opd ti (E.kp ts) T x = some sv) : opd ti E T x = some sv := by
  cases x with
  | tmp t => exact lkp_keepL _ t sv ts h
  | const v => exact h
  | func k => exact h
  | global g => exact h
theorem LV.hit_ct {d : Nat → Bool} {l : LV} (h : l.hit d = false) : l.ct d [] = l := by
  cases l with
  | r p => cases p with
    | nil => simp [LV.hit] at h
    | cons k p =>
      simp only [LV.hit] at h
      simp [LV.ct, dth, h]
  | _ => rfl
theorem LVs.hit_ct {d : Nat → Bool} {ls : List LV} (h : ls.any (LV.hit d) = false) : ls.map (LV.ct d []) = ls := by
  rw [List.any_eq_false] at h
  conv => rhs; rw [← List.map_id ls]
  exact List.map_congr_left fun l hl => LV.hit_ct (by simpa using h l hl)
theorem PV.hit_ct {d : Nat → Bool} {q : PV} (h : q.hd d = false) : q.ct d [] = false := by
  cases q with
  | pt p sz i off => cases p with
    | nil => simp [PV.hd] at h
    | cons k p => simp only [PV.hd] at h; simp [PV.ct, dth, h]
  | bx b off => simp only [PV.hd] at h; simp [PV.ct, dth, h]
  | ps ds => rfl
theorem SV.hit_ct {d : Nat → Bool} : ∀ {s : SV}, s.hit d = false → s.ct d [] = s
  | .dead, _ => rfl
  | .v ag ls, h => by simp only [SV.ct, LVs.hit_ct h]
  | .tu ps, h => by
    simp only [SV.hit, List.any_eq_false] at h
    simp only [SV.ct]
    congr 1
    conv => rhs; rw [← List.map_id ps]
    refine List.map_congr_left fun q hq => ?_
    have := LVs.hit_ct (by simpa using h q hq)
    simp only [this, id_eq]
  | .p q, h => by simp only [SV.hit] at h; simp [SV.ct, PV.hit_ct h]
  | .fn k caps, h => by
    simp only [SV.hit, List.any_eq_false] at h
    simp only [SV.ct]
    rw [if_neg]
    simp only [List.any_eq_true, not_exists, not_and]
    intro q hq
    simp [PV.hit_ct (by simpa using h q hq)]
  | .g c s, h => by simp only [SV.ct, SV.hit_ct (s := s) h]
  | .pin r x, h => by simp only [SV.hit] at h; simp [SV.ct, dth, h]
theorem St.of_re {d : Nat} {rts : RT} (hc : E.cl (fam d)) (hs : St w0 tag0 (E.re (appR d none none) [] [] rts) tag hv a w) : St w0 tag0 (E.addR rts) tag hv a w := by
  have hR : appR d none none = fam d := by funext r; simp [appR]
  rw [hR] at hs
  refine hs.ext' rfl (fun t sv h => ?_) (fun b ls h => ?_) (fun r y h => ?_)
  · have h1 : lkp E.sl t = some sv := h
    simp only [Env.re, lkp_map, h1, Option.map_some, SV.hit_ct (hc.sl t sv h1)]
  · have h0 : lkp E.bx b = some ls := h
    have h1 := hc.bx b ls h0
    have h2 : dth (fam d) [] [b, 0] = false := by simp [dth, h1.1]
    simp only [Env.re, lkp_map, lkp_delD, h2, Bool.false_eq_true, if_false, h0, Option.map_some, LVs.hit_ct h1.2]
  · simp only [Env.re, Env.addR, lkp_app] at h ⊢
    split at h
    · exact h
    · have h1 := hc.rt r y h
      simp only [lkp_delD, h1, List.any_nil, Bool.or_false, Bool.false_eq_true, if_false]
      exact h
theorem appDS_ok {o : Oper} {c : Call} {s x : Operand} {t1 t2 : Nat} {C : Prop} {m : Md} {l : Lf} {ts : List Nat} (hT : TGood P ti) (hs : St w0 tag0 E tag hv a w) (hc0 : E.cl (fam d)) (ho : o.op = .call c) (hc : c = { callee := .builtin .append, args := #[s, x], argTypes := #[t1, t2] })
    (h : appDS ti (E.kp ts) d t1 t2 s x = some (C, m, l)) (hC : C) : ∃ v w' tg hh, (execOp a.eval o).run P w = .ok (.value v) w' ∧ St w0 tag0 (E.addR [(d, m, l)]) tg hh a w' ∧ SR tg hh w' (.v false [.r [d]]) v := by
  unfold appDS at h
  split at h
  · rename_i z0 sv e hb hx he
    split at h
    · rename_i C2 rows hr
      cases h
      obtain ⟨h1, h2, h3, h4, h5, h6, h7⟩ := hC
      have hS : E.appS ti (ti e).z t2 sv = some (C2, rows, fun _ => (ti e).z.map (fun _ => .s), none) := by
        unfold appD0 at hr
        split at hr
        · cases hr; rfl
        · cases hr; rfl
        · cases hr
      have hO : appO ti E d t1 t2 s x = some ((ti t1).ok = true ∧ (ti t2).ok = true ∧ (ti e).ok = true ∧ (ti e).sz = (ti e).z.length ∧ d < 1000 ∧ True ∧ C2 ∧ (([] : List (List Lf)).length + rows.length) * (ti e).by_ ≤ 140737488355328 ∧ (∀ r, (none : Option Nat) = some r → (none : Option Nat) ≠ some r),
          E.re (appR d none none) [] [] [(d, .o e (appC ([] : List (List Lf)).length none (fun _ => []) (fun _ => (ti e).z.map (fun _ => .s))), .ls (ti e).z ([] ++ rows))]) := by
        simp only [appO, opd_kp hb, opd_kp hx, he, Env.appB, appZ, hS]
      obtain ⟨v, w', tg, hh, q1, q2, q3⟩ := appO_ok hT hs ho hc hO ⟨h1, h2, h3, h4, h5, trivial, h6, by simpa using h7, fun r hr => by cases hr⟩
      exact ⟨v, w', tg, hh, q1, St.of_re hc0 q2, q3⟩
    · cases h
  · cases h
theorem dU_ok (hT : TGood P ti) {ops : Array Oper} {o : Oper} {K : SV → RT → Prop} {Er : Env} (hg : o.guard = none) (h : dU P ti o K Er) : Beh P ops o Er K := by
  have hw : ∀ y, Region.wanted o y = true := by intro y; simp [Region.wanted, hg]
  have hpur : (match pur ti Er o with | some (C, sv) => C ∧ K sv [] | none => False) → Beh P ops o Er K := by
    intro h
    split at h
    · rename_i C sv hp
      refine ⟨sv, [], h.2, fun w0 tag0 E tag hv a w N Q hs he _ hN => ?_, fun h => absurd rfl h, by simp⟩
      rw [if_pos (hw _)]
      obtain ⟨v, h1, h2⟩ := pur_ok hT (he ▸ hs.kp _) hp h.1
      exact upon_value h1 (hN _ _ _ _ (hs.put h2))
    · exact h.elim
  unfold dU at h
  split at h
  · rename_i c x y ho
    split at h
    · rename_i C r hp
      refine ⟨bool r, [], h.2, fun w0 tag0 E tag hv a w N Q hs he _ hN => ?_, fun h => absurd rfl h, by simp⟩
      rw [if_pos (hw _)]
      exact upon_value (pick3_ok (he ▸ hs.kp _) ho hp h.1) (hN _ _ _ _ (hs.put mk_bool))
    · exact h.elim
  · rename_i c ho
    split at h
    · rename_i C k as R hc
      obtain ⟨hC, rs, hvc, hR, hd, hds, hK⟩ := h
      have hic := callO_isCall ho hc hds
      refine ⟨_, _, hK, fun w0 tag0 E tag hv a w N Q hs he hcl hN => ?_, fun _ => hic, resRs_fam hd 0 rs⟩
      rw [if_pos (hw _)]
      obtain ⟨vs, h1, h2⟩ := callO_ok (he ▸ hs.kp _) ho hc hC hvc.1
      unfold Oper.wp
      rw [h1, Oper.upon_enter]
      refine (hvc.2 w (lend R tag) hv vs (lend_cases R) (fun b hb => by simp [lend, hs.hi b hb]) h2).mono ?_
      rintro e w' ⟨tag', hv', rv, rfl, hfr, hi', hrv⟩
      obtain ⟨tg, hh, h3, h4⟩ := hs.ret hd hfr hi' hR hrv
      exact hN _ _ _ _ ((h3.of_ret (hcl hic)).put h4)
    · split at h
      · rename_i C sv hp
        exact hpur (by rw [hp]; exact h)
      · split at h
        · rename_i C m l ha
          unfold appDX at ha
          split at ha
          · rename_i s1 x1 t1 t2 h1 h2 h3
            have hcc : c = { callee := .builtin .append, args := #[s1, x1], argTypes := #[t1, t2] } := by
              obtain ⟨c1, c2, c3⟩ := c
              simp only at h1 h2 h3
              rw [h1, show c2 = _ from (Array.toList_inj.1 (h2.trans rfl)), show c3 = _ from (Array.toList_inj.1 (h3.trans rfl))]
            have hic : isCallO o = true := by
              unfold isCallO
              rw [ho, hcc]
              exact h.2.1
            refine ⟨_, _, h.2.2.2, fun w0 tag0 E tag hv a w N Q hs he hcl hN => ?_, fun _ => hic, fun y hy => by
              simp only [List.mem_singleton] at hy
              subst hy
              have := h.2.2.1
              simp only [fam, beq_iff_eq]
              omega⟩
            rw [if_pos (hw _)]
            obtain ⟨v, w', tg, hh, q1, q2, q3⟩ := appDS_ok hT hs (hcl hic) ho hcc (by rw [he]; exact ha) h.1
            exact upon_value q1 (hN _ _ _ _ (q2.put q3))
          · cases ha
        · exact h.elim
  · exact hpur h
theorem dG_ok (hT : TGood P ti) {ops : Array Oper} {o : Oper} {K : SV → RT → Prop} {Er : Env} {j : Nat} {b g : Bool} (hg : o.guard = some (j, b)) (hgb : guardB Er ops.toList j b = some g) (h : dG P ti g o K Er) : Beh P ops o Er K := by
  have hw : ∀ {w0 tag0 E tag hv a w}, St w0 tag0 E tag hv a w → E.kp (lks ops.toList o) = Er → Region.wanted o (yielded ops a.tmps) = g := by
    intro w0 tag0 E tag hv a w hs he
    have := guardB_ok (he ▸ hs.kp _) hgb
    simp only [Region.wanted, hg]
    exact this
  have hpur : (match pur ti (Er.un (opTmps o.op)) o with | some (C, sv) => (g = true → gsOk Er (opTmps o.op) ∧ C) ∧ K (.g g sv) [] | none => False) → Beh P ops o Er K := by
    intro h
    split at h
    · rename_i C sv hp
      refine ⟨_, [], h.2, fun w0 tag0 E tag hv a w N Q hs he _ hN => ?_, fun h => absurd rfl h, by simp⟩
      rw [hw hs he]
      split
      · rename_i hgt
        obtain ⟨h1, h2⟩ := h.1 hgt
        have hs1 : St w0 tag0 Er tag hv a w := he ▸ hs.kp _
        obtain ⟨v, h3, h4⟩ := pur_ok hT (hs1.un h1) hp h2
        exact upon_value h3 (hN _ _ _ _ (hs.put (sv := .g g sv) ⟨fun _ => h4, fun hf => by rw [hgt] at hf; cases hf⟩))
      · rename_i hgt
        exact hN _ _ _ _ (hs.put (sv := .g g sv) ⟨fun hf => absurd hf hgt, fun _ => rfl⟩)
    · exact h.elim
  unfold dG at h
  split at h
  · rename_i c x y ho
    split at h
    · rename_i C r hp
      refine ⟨_, [], h.2, fun w0 tag0 E tag hv a w N Q hs he _ hN => ?_, fun h => absurd rfl h, by simp⟩
      rw [hw hs he]
      split
      · rename_i hgt
        exact upon_value (pick3_ok (he ▸ hs.kp _) ho hp (h.1 hgt)) (hN _ _ _ _ (hs.put (sv := .g g (bool r)) ⟨fun _ => mk_bool, fun hf => by rw [hgt] at hf; cases hf⟩))
      · rename_i hgt
        exact hN _ _ _ _ (hs.put (sv := .g g (bool r)) ⟨fun hf => absurd hf hgt, fun _ => rfl⟩)
    · exact h.elim
  · rename_i c ho
    split at h
    · rename_i C k as R hc
      obtain ⟨u, h1, hK⟩ := h
      refine ⟨_, [], hK, fun w0 tag0 E tag hv a w N Q hs he _ hN => ?_, fun h => absurd rfl h, by simp⟩
      rw [hw hs he]
      split
      · rename_i hgt
        obtain ⟨⟨h2, hC⟩, hvc⟩ := h1 hgt
        have hs1 : St w0 tag0 Er tag hv a w := he ▸ hs.kp _
        obtain ⟨vs, h3, h4⟩ := callO_ok (hs1.un h2) ho hc hC hvc.1
        unfold Oper.wp
        rw [h3, Oper.upon_enter]
        refine (hvc.2 w (lend R tag) hv vs (lend_cases R) (fun b hb => by simp [lend, hs.hi b hb]) h4).mono ?_
        rintro e w' ⟨tag', hv', rv, rfl, hfr, hi', hrv⟩
        obtain ⟨tg, h5, h6⟩ := hs.ret0 hfr hrv
        exact hN _ _ _ _ (h5.put (sv := .g g (.v false [.s (.sc u)])) ⟨fun _ => h6, fun hf => by rw [hgt] at hf; cases hf⟩)
      · rename_i hgt
        exact hN _ _ _ _ (hs.put (sv := .g g (.v false [.s (.sc u)])) ⟨fun hf => absurd hf hgt, fun _ => rfl⟩)
    · exact hpur h
  · exact hpur h

/-! ### what is listed -/
abbrev PL := List (Option Nat × SV × RT)
/-- The environment with what the listed ones of l (numbers from k on) put. -/
def Ep : PL → Nat → (Nat → Bool) → Env → Env
  | [], _, _, E => E
  | x :: r, k, b, E => Ep r (k + 1) b (if b k = true then (E.addR x.2.2).put x.1 x.2.1 else E)

theorem evD_good (hT : TGood P ti) {ops : Array Oper} {K : Env → Prop} : ∀ (rest : List Oper) (n : Nat) (E : Env), evD P ti ops.toList rest n K E →
    ∃ l : PL, l.length = rest.length ∧ K (Ep l 0 (fun _ => true) E) ∧ ∀ k o, rest[k]? = some o → ∃ sv rts, l[k]? = some (o.dst, sv, rts) ∧ StepOk P ops o ((Ep l 0 (fun j => decide (j < k)) E).kp (lks ops.toList o)) sv rts ∧
      (rts ≠ [] → isCallO o = true) ∧ (∀ x ∈ rts, fam (dn o) x.1 = true) ∧ clrL ops.toList (n + k) sv (callsOf ops.toList 0)
  | [], n, E, h => ⟨[], rfl, h, fun k o hk => by simp at hk⟩
  | o :: rest, n, E, h => by
    have key : Beh P ops o (E.kp (lks ops.toList o)) (fun sv rts => clrL ops.toList n sv (callsOf ops.toList 0) ∧ evD P ti ops.toList rest (n + 1) K ((E.addR rts).put o.dst sv)) := by
      simp only [evD] at h
      split at h
      · rename_i hg
        exact dU_ok hT hg h
      · rename_i j b hg
        split at h
        · rename_i g hgb
          exact dG_ok hT hg hgb h
        · exact h.elim
    obtain ⟨sv, rts, ⟨h0, h1⟩, h2, h21, h22⟩ := key
    obtain ⟨l, h3, h4, h5⟩ := evD_good hT rest _ _ h1
    have hsh : ∀ (l : PL) (n : Nat) (b : Nat → Bool) (E : Env), Ep l (n + 1) b E = Ep l n (fun j => b (j + 1)) E := by
      intro l
      induction l with
      | nil => intros; rfl
      | cons x r ih => intro n b E; simp only [Ep]; rw [ih]
    have h0' : ∀ (l : PL) (n : Nat) (E : Env), Ep l n (fun j => decide (j < 0)) E = E := by
      intro l
      induction l with
      | nil => intros; rfl
      | cons x r ih => intro n E; simp only [Ep]; rw [ih]; simp
    refine ⟨(o.dst, sv, rts) :: l, by simp [h3], ?_, fun k o' hk => ?_⟩
    · simp only [Ep, if_true]
      rw [hsh]
      exact h4
    · cases k with
      | zero =>
        simp only [List.getElem?_cons_zero, Option.some.injEq] at hk
        subst hk
        refine ⟨sv, rts, rfl, ?_, h21, h22, h0⟩
        rw [h0']
        exact h2
      | succ k =>
        simp only [List.getElem?_cons_succ] at hk
        obtain ⟨sv', rts', h6, h7, h8, h9, h10⟩ := h5 k o' hk
        refine ⟨sv', rts', by simpa using h6, ?_, h8, h9, by rwa [show n + 1 + k = n + (k + 1) by omega] at h10⟩
        simp only [Ep]
        rw [if_pos (by simp), hsh]
        simpa using h7

theorem lkp_put {E : Env} {x : Option Nat} {sv : SV} {t : Nat} : lkp (E.put x sv).sl t = if x = some t then (if t < E.nt then some sv else none) else lkp E.sl t := by
  cases x with
  | none => simp [Env.put]
  | some d =>
    simp only [Env.put]
    split
    · rename_i hd
      simp only [lkp_putL, Option.some.injEq]
      by_cases h : d = t
      · subst h; simp [hd]
      · simp [h]
    · rename_i hd
      simp only [lkp_delL, Option.some.injEq]
      by_cases h : d = t
      · subst h; simp [hd]
      · simp [h]
theorem put_rest {E : Env} {x : Option Nat} {sv : SV} : (E.put x sv).nt = E.nt ∧ (E.put x sv).bx = E.bx ∧ (E.put x sv).rt = E.rt := by
  cases x with
  | none => exact ⟨rfl, rfl, rfl⟩
  | some d => simp only [Env.put]; split <;> exact ⟨rfl, rfl, rfl⟩
theorem Ep_rest : ∀ (l : PL) (k : Nat) (b : Nat → Bool) (E : Env), (Ep l k b E).nt = E.nt ∧ (Ep l k b E).bx = E.bx
  | [], _, _, _ => ⟨rfl, rfl⟩
  | x :: r, k, b, E => by
    simp only [Ep]
    obtain ⟨h1, h2⟩ := Ep_rest r (k + 1) b (if b k = true then (E.addR x.2.2).put x.1 x.2.1 else E)
    split at h1
    · rename_i hb
      rw [if_pos hb] at h2
      rw [if_pos hb]
      exact ⟨h1.trans put_rest.1, h2.trans put_rest.2.1⟩
    · rename_i hb
      rw [if_neg hb] at h2
      rw [if_neg hb]
      exact ⟨h1, h2⟩
/-- No two of them put into one slot. -/
def Apart (l : PL) : Prop := ∀ (i j : Nat) (x y : Option Nat × SV × RT) (t : Nat), l[i]? = some x → l[j]? = some y → x.1 = some t → y.1 = some t → i = j
theorem Apart.tail {x : Option Nat × SV × RT} {r : PL} (h : Apart (x :: r)) : Apart r := fun i j y z t h1 h2 h3 h4 => by
  have := h (i + 1) (j + 1) y z t (by simpa using h1) (by simpa using h2) h3 h4
  omega
theorem lkp_Ep_none : ∀ (l : PL) (k : Nat) (b : Nat → Bool) (E : Env) (t : Nat), (∀ (i : Nat) (x : Option Nat × SV × RT), l[i]? = some x → x.1 ≠ some t) → lkp (Ep l k b E).sl t = lkp E.sl t
  | [], _, _, _, _, _ => rfl
  | x :: r, k, b, E, t, h => by
    simp only [Ep]
    rw [lkp_Ep_none r (k + 1) b _ t (fun i y hy => h (i + 1) y (by simpa using hy))]
    split
    · rw [lkp_put, if_neg (h 0 x rfl)]
      rfl
    · rfl
theorem lkp_Ep_some : ∀ (l : PL) (k : Nat) (b : Nat → Bool) (E : Env) (t i : Nat) (sv : SV) (rts : RT), Apart l → l[i]? = some (some t, sv, rts) → lkp (Ep l k b E).sl t = if b (k + i) = true then (if t < E.nt then some sv else none) else lkp E.sl t
  | [], _, _, _, _, _, _, _, _, h => by simp at h
  | x :: r, k, b, E, t, 0, sv, rts, ha, h => by
    simp only [List.getElem?_cons_zero, Option.some.injEq] at h
    subst h
    simp only [Ep, Nat.add_zero]
    rw [lkp_Ep_none r (k + 1) b _ t (fun i y hy he => by
      have := ha 0 (i + 1) _ y t rfl (by simpa using hy) rfl he
      omega)]
    split
    · rw [lkp_put, if_pos rfl]
      rfl
    · rfl
  | x :: r, k, b, E, t, i + 1, sv, rts, ha, h => by
    simp only [List.getElem?_cons_succ] at h
    simp only [Ep]
    rw [lkp_Ep_some r (k + 1) b _ t i sv rts ha.tail h, show k + 1 + i = k + (i + 1) by omega]
    have hne : x.1 ≠ some t := fun he => by
      have := ha 0 (i + 1) x _ t rfl (by simpa using h) he rfl
      omega
    have h1 : lkp (if b k = true then (E.addR x.2.2).put x.1 x.2.1 else E).sl t = lkp E.sl t := by
      split
      · rw [lkp_put, if_neg hne]
        rfl
      · rfl
    have h2 : (if b k = true then (E.addR x.2.2).put x.1 x.2.1 else E).nt = E.nt := by
      split
      · exact put_rest.1
      · rfl
    rw [h1, h2]
theorem lkp_none_of {α : Type} {r : Nat} : ∀ {l : List (Nat × α)}, (∀ y, (r, y) ∉ l) → lkp l r = none
  | [], _ => rfl
  | (k, z) :: t, h => by
    simp only [lkp]
    rw [if_neg (fun e => h z (by simp [e])), lkp_none_of (fun y hy => h y (by simp [hy]))]
theorem lkp_mem {α : Type} {r : Nat} {y : α} : ∀ {l : List (Nat × α)}, lkp l r = some y → (r, y) ∈ l
  | [], h => by simp [lkp] at h
  | (k, z) :: t, h => by
    simp only [lkp] at h
    split at h
    · rename_i e
      cases h
      simp [e]
    · exact List.mem_cons_of_mem _ (lkp_mem h)
theorem rt_Ep : ∀ (l : PL) (k : Nat) (b b' : Nat → Bool) (E E' : Env) (r : Nat), lkp E.rt r = lkp E'.rt r → (∀ (i : Nat) (x : Option Nat × SV × RT) (y : Md × Lf), l[i]? = some x → (r, y) ∈ x.2.2 → b (k + i) = b' (k + i)) →
    lkp (Ep l k b E).rt r = lkp (Ep l k b' E').rt r
  | [], _, _, _, _, _, _, h, _ => h
  | x :: t, k, b, b', E, E', r, h, hb => by
    simp only [Ep]
    refine rt_Ep t (k + 1) b b' _ _ r ?_ (fun i z y hz hy => ?_)
    · have e0 : ∀ E : Env, lkp ((E.addR x.2.2).put x.1 x.2.1).rt r = match lkp x.2.2 r with | some y => some y | none => lkp E.rt r := fun E => by
        rw [put_rest.2.2]
        simp only [Env.addR, lkp_app]
        cases lkp x.2.2 r <;> rfl
      cases hx : lkp x.2.2 r with
      | none =>
        have e1 : ∀ (E : Env) (c : Bool), lkp (if c = true then (E.addR x.2.2).put x.1 x.2.1 else E).rt r = lkp E.rt r := fun E c => by
          split
          · rw [e0, hx]
          · rfl
        rw [e1, e1]
        exact h
      | some y =>
        have := hb 0 x y rfl (lkp_mem hx)
        simp only [Nat.add_zero] at this
        rw [this]
        split
        · rw [e0, e0, hx]
        · exact h
    · have := hb (i + 1) z y (by simpa using hz) hy
      rwa [show k + (i + 1) = k + 1 + i by omega] at this
theorem rt_Ep_mem : ∀ (l : PL) (k : Nat) (b : Nat → Bool) (E : Env) (r : Nat) (y : Md × Lf), lkp (Ep l k b E).rt r = some y → (∃ (i : Nat) (x : Option Nat × SV × RT), l[i]? = some x ∧ b (k + i) = true ∧ (r, y) ∈ x.2.2) ∨ lkp E.rt r = some y
  | [], _, _, _, _, _, h => .inr h
  | x :: t, k, b, E, r, y, h => by
    simp only [Ep] at h
    rcases rt_Ep_mem t (k + 1) b _ r y h with ⟨i, z, h1, h2, h3⟩ | h
    · exact .inl ⟨i + 1, z, by simpa using h1, by rwa [show k + (i + 1) = k + 1 + i by omega], h3⟩
    · split at h
      · rename_i hb
        rw [put_rest.2.2] at h
        simp only [Env.addR, lkp_app] at h
        cases hx : lkp x.2.2 r with
        | some z =>
          rw [hx] at h
          cases h
          exact .inl ⟨0, x, rfl, hb, lkp_mem hx⟩
        | none =>
          rw [hx] at h
          exact .inr h
      · exact .inr h

theorem rt_Ep_none : ∀ (l : PL) (k : Nat) (b : Nat → Bool) (E : Env) (r : Nat), (∀ (i : Nat) (x : Option Nat × SV × RT) (y : Md × Lf), l[i]? = some x → (r, y) ∉ x.2.2) → lkp (Ep l k b E).rt r = lkp E.rt r
  | [], _, _, _, _, _ => rfl
  | x :: t, k, b, E, r, h => by
    simp only [Ep]
    rw [rt_Ep_none t (k + 1) b _ r (fun i z y hz => h (i + 1) z y (by simpa using hz))]
    split
    · rw [put_rest.2.2]
      simp only [Env.addR, lkp_app, lkp_none_of (fun y => h 0 x y rfl)]
    · rfl
theorem rt_Ep_at : ∀ (l : PL) (k : Nat) (b : Nat → Bool) (E : Env) (r i : Nat) (x : Option Nat × SV × RT) (y : Md × Lf), l[i]? = some x → lkp x.2.2 r = some y → b (k + i) = true →
    (∀ (j : Nat) (z : Option Nat × SV × RT) (u : Md × Lf), j ≠ i → l[j]? = some z → (r, u) ∉ z.2.2) → lkp (Ep l k b E).rt r = some y
  | [], _, _, _, _, _, _, _, h, _, _, _ => by simp at h
  | x :: t, k, b, E, r, 0, z, y, h, hy, hb, ho => by
    simp only [List.getElem?_cons_zero, Option.some.injEq] at h
    subst h
    simp only [Ep, Nat.add_zero] at hb ⊢
    rw [rt_Ep_none t (k + 1) b _ r (fun i z u hz => ho (i + 1) z u (by omega) (by simpa using hz)), if_pos hb, put_rest.2.2]
    simp only [Env.addR, lkp_app, hy]
  | x :: t, k, b, E, r, i + 1, z, y, h, hy, hb, ho => by
    simp only [Ep]
    exact rt_Ep_at t (k + 1) b _ r i z y (by simpa using h) hy (by rwa [show k + 1 + i = k + (i + 1) by omega]) (fun j z u hj hz => ho (j + 1) z u (by omega) (by simpa using hz))

/-- Only what is looked up counts. -/
theorem St.ext {E' : Env} (hs : St w0 tag0 E tag hv a w) (h0 : E'.nt = E.nt) (h1 : ∀ t, lkp E'.sl t = lkp E.sl t) (h2 : E'.bx = E.bx) (h3 : ∀ r, lkp E'.rt r = lkp E.rt r) : St w0 tag0 E' tag hv a w :=
  hs.weak h0 (fun t sv h => by rw [← h1 t]; exact h) (fun b ls h => by rw [← h2]; exact h) (fun r y h => by rw [← h3]; exact h)
theorem keepL_congr {α : Type} {l l' : List (Nat × α)} : ∀ {vs : List Nat}, (∀ t ∈ vs, lkp l t = lkp l' t) → keepL l vs = keepL l' vs
  | [], _ => rfl
  | t :: r, h => by
    simp only [keepL]
    rw [h t (by simp), keepL_congr (fun s hs => h s (by simp [hs]))]
end Go.Sm
