import Derived.Test.YtkciklpdhhcblaaGreatSm13
namespace Go.Sm
open Go.RowKit

variable {P : Program} {ti : TT} {E : Env} {tag tag' tag0 : Nat → Tag} {hv hv' : Hv} {a : Act} {w w' w0 : World} {t d : Nat}

/-- From whatever environment that knows what o looks at, o puts sv, makes rts, uses up ks. -/
def StepOk (P : Program) (ops : Array Oper) (o : Oper) (Er : Env) (sv : SV) (rts : RT) (ks : List Nat) : Prop :=
  ∀ (w0 : World) (tag0 : Nat → Tag) (E : Env) (tag : Nat → Tag) (hv : Hv) (a : Act) (w : World) (N : Act → World → Prop) (Q : Exit → Act → World → Prop),
    St w0 tag0 E tag hv a w → Er.le E → (isCallO o = true → E.cl (fam (dn o))) → (ks = [] ∨ bxClr ks E.bx = true) →
    (∀ tag' hv' v w', St w0 tag0 (((E.addR rts).put o.dst sv).killD (inL ks)) tag' hv' (a.put o.dst v) w' → N (a.put o.dst v) w') →
    if Region.wanted o (yielded ops a.tmps) = true then o.wp P a w N Q else N (a.put o.dst undef) w

theorem addR_nil : E.addR [] = E := rfl
/-- What stands behind. -/
def Beh (P : Program) (ops : Array Oper) (o : Oper) (Er : Env) (K : DK) : Prop :=
  ∃ sv rts ks, K sv rts ks ∧ StepOk P ops o Er sv rts ks ∧ (rts ≠ [] → isCallO o = true) ∧ ∀ x ∈ rts, fam (dn o) x.1 = true

theorem callO_isCall {o : Oper} {c : Call} {X : Prop × Nat × List SV × List Nat} (ho : o.op = .call c) (h : callO ti E c = some X) (hd : o.dst.isSome = true) : isCallO o = true := by
  unfold callO at h
  split at h
  · rename_i f hf
    unfold isCallO
    rw [ho]
    simp only [hf]
    exact hd
  · cases h
theorem opd_le {E1 E2 : Env} (hl : E1.le E2) {T : Nat} {x : Operand} {sv : SV} (h : opd ti E1 T x = some sv) : opd ti E2 T x = some sv := by
  cases x with
  | tmp t => exact hl.sl t sv h
  | const v => exact h
  | func k => exact h
  | global g => exact h
theorem LV.hit_ct {d : Nat → Bool} {l : LV} (h : l.hit d = false) : l.ct d [] = l := by
  cases l with
  | r p => cases p with
    | nil => simp [LV.hit] at h
    | cons k p =>
      simp only [LV.hit] at h
      simp [LV.ct, dth, h]
  | _ => rfl
theorem LVs.hit_ct {d : Nat → Bool} {ls : List LV} (h : ls.any (LV.hit d) = false) : ls.map (LV.ct d []) = ls := by
  rw [List.any_eq_false] at h
  conv => rhs; rw [← List.map_id ls]
  exact List.map_congr_left fun l hl => LV.hit_ct (by simpa using h l hl)
theorem PV.hit_ct {d : Nat → Bool} {q : PV} (h : q.hd d = false) : q.ct d [] = false := by
  cases q with
  | pt p sz i off => cases p with
    | nil => simp [PV.hd] at h
    | cons k p => simp only [PV.hd] at h; simp [PV.ct, dth, h]
  | vw p sz lo n => cases p with
    | nil => simp [PV.hd] at h
    | cons k p => simp only [PV.hd] at h; simp [PV.ct, dth, h]
  | bx b off => simp only [PV.hd] at h; simp [PV.ct, dth, h]
  | ps ds => rfl
theorem SV.hit_ct {d : Nat → Bool} : ∀ {s : SV}, s.hit d = false → s.ct d [] = s
  | .dead, _ => rfl
  | .v ag ls, h => by simp only [SV.ct, LVs.hit_ct h]
  | .tu ps, h => by
    simp only [SV.hit, List.any_eq_false] at h
    simp only [SV.ct]
    congr 1
    conv => rhs; rw [← List.map_id ps]
    refine List.map_congr_left fun q hq => ?_
    have := LVs.hit_ct (by simpa using h q hq)
    simp only [this, id_eq]
  | .p q, h => by simp only [SV.hit] at h; simp [SV.ct, PV.hit_ct h]
  | .fn k caps, h => by
    simp only [SV.hit, List.any_eq_false] at h
    simp only [SV.ct]
    rw [if_neg]
    simp only [List.any_eq_true, not_exists, not_and]
    intro q hq
    simp [PV.hit_ct (by simpa using h q hq)]
  | .g c s, h => by simp only [SV.ct, SV.hit_ct (s := s) h]
  | .pin r x, h => by simp only [SV.hit] at h; simp [SV.ct, dth, h]
theorem SV.hit_of {D d0 : Nat → Bool} : ∀ {s : SV}, s.hit d0 = false → s.nms.any D = false → s.hit D = false := by
  have hL : ∀ l : LV, l.hit d0 = false → l.nms.any D = false → l.hit D = false := by
    intro l h1 h2
    cases l with
    | r p => cases p with
      | nil => simp [LV.hit] at h1
      | cons k p => simpa [LV.nms, LV.hit] using h2
    | _ => rfl
  have hLs : ∀ ls : List LV, ls.any (LV.hit d0) = false → (ls.flatMap LV.nms).any D = false → ls.any (LV.hit D) = false := by
    intro ls h1 h2
    rw [List.any_eq_false] at h1 h2 ⊢
    intro l hl
    have := hL l (by simpa using h1 l hl) (by
      rw [List.any_eq_false]
      exact fun x hx => h2 x (List.mem_flatMap.2 ⟨l, hl, hx⟩))
    simp [this]
  have hP : ∀ q : PV, q.hd d0 = false → q.nms.any D = false → q.hd D = false := by
    intro q h1 h2
    cases q with
    | pt p sz i off => cases p with
      | nil => simp [PV.hd] at h1
      | cons k p => simpa [PV.nms, PV.hd] using h2
    | vw p sz lo n => cases p with
      | nil => simp [PV.hd] at h1
      | cons k p => simpa [PV.nms, PV.hd] using h2
    | bx b off => simpa [PV.nms, PV.hd] using h2
    | ps ds => rfl
  intro s
  induction s with
  | dead => exact fun _ _ => rfl
  | v ag ls => exact fun h1 h2 => hLs ls h1 h2
  | tu ps =>
    intro h1 h2
    simp only [SV.hit, SV.nms] at h1 h2 ⊢
    rw [List.any_eq_false] at h1 h2 ⊢
    intro q hq
    have := hLs q.2 (by simpa using h1 q hq) (by
      rw [List.any_eq_false]
      exact fun x hx => h2 x (List.mem_flatMap.2 ⟨q, hq, hx⟩))
    simp [this]
  | p q => exact fun h1 h2 => hP q h1 h2
  | fn k caps =>
    intro h1 h2
    simp only [SV.hit, SV.nms] at h1 h2 ⊢
    rw [List.any_eq_false] at h1 h2 ⊢
    intro q hq
    have := hP q (by simpa using h1 q hq) (by
      rw [List.any_eq_false]
      exact fun x hx => h2 x (List.mem_flatMap.2 ⟨q, hq, hx⟩))
    simp [this]
  | g c s ih => exact fun h1 h2 => ih h1 h2
  | pin r x =>
    intro h1 h2
    simpa [SV.nms, SV.hit] using h2
theorem inL_false {l : List Nat} {x : Nat} : inL l x = false ↔ x ∉ l := by
  rw [← inL_mem]
  cases inL l x <;> simp
theorem bxClr_ok {ks : List Nat} : ∀ {bx : List (Nat × List LV)}, bxClr ks bx = true → ∀ z ∈ bx, inL ks z.1 = false ∧ (z.2.flatMap LV.nms).any (inL ks) = false
  | [], _, z, hz => by cases hz
  | (b, ls) :: r, h, z, hz => by
    simp only [bxClr, Bool.and_eq_true, Bool.not_eq_true'] at h
    rcases List.mem_cons.1 hz with rfl | hz
    · exact ⟨h.1, h.2.1⟩
    · exact bxClr_ok h.2.2 z hz
theorem lkp_mem' {α : Type} {r : Nat} {y : α} : ∀ {l : List (Nat × α)}, lkp l r = some y → (r, y) ∈ l
  | [], h => by simp [lkp] at h
  | (k, z) :: t, h => by
    simp only [lkp] at h
    split at h
    · rename_i e
      cases h
      simp [e]
    · exact List.mem_cons_of_mem _ (lkp_mem' h)
/-- What a step makes and uses up, behind it. -/
theorem St.of_re {R : Nat → Bool} {d : Nat} {rts : RT} {ks : List Nat} {x : Option Nat} {sv : SV} (hR : ∀ r, R r = (fam d r || inL ks r)) (hc : E.cl (fam d)) (hb : ks = [] ∨ bxClr ks E.bx = true)
    (hs : St w0 tag0 ((E.re R [] [] rts).put x sv) tag hv a w) : St w0 tag0 (((E.addR rts).put x sv).killD (inL ks)) tag hv a w := by
  have hput : ∀ (X : Env) (t : Nat), lkp (X.put x sv).sl t = if x = some t then (if t < X.nt then some sv else none) else lkp X.sl t := fun X t => by
    cases x with
    | none => simp [Env.put]
    | some d =>
      simp only [Env.put]
      split
      · rename_i hd
        simp only [lkp_putL, Option.some.injEq]
        by_cases h : d = t
        · subst h; simp [hd]
        · simp [h]
      · rename_i hd
        simp only [lkp_delL, Option.some.injEq]
        by_cases h : d = t
        · subst h; simp [hd]
        · simp [h]
  have hrest : ∀ X : Env, (X.put x sv).nt = X.nt ∧ (X.put x sv).bx = X.bx ∧ (X.put x sv).rt = X.rt := fun X => by
    cases x with
    | none => exact ⟨rfl, rfl, rfl⟩
    | some d => simp only [Env.put]; split <;> exact ⟨rfl, rfl, rfl⟩
  have hb' : ∀ z ∈ E.bx, inL ks z.1 = false ∧ (z.2.flatMap LV.nms).any (inL ks) = false := by
    rcases hb with rfl | hb
    · refine fun z _ => ⟨rfl, ?_⟩
      rw [List.any_eq_false]
      intro x _ h
      cases h
    · exact bxClr_ok hb
  refine hs.le ⟨?_, fun t sv' h => ?_, fun b ls h => ?_, fun r y h => ?_⟩
  · exact ((hrest _).1.trans rfl).trans (hrest (E.re R [] [] rts)).1.symm
  · have h0 := lkp_klS.1 h
    have h1 := h0.1
    rw [hput] at h1 ⊢
    split at h1
    · rename_i hx
      rw [if_pos hx]
      exact h1
    · rename_i hx
      rw [if_neg hx]
      have h2 : lkp E.sl t = some sv' := h1
      have h3 : sv'.hit R = false := by
        refine SV.hit_of (hc.sl t sv' h2) ?_
        rw [List.any_eq_false]
        intro r hr
        have h4 := List.any_eq_false.1 h0.2 r hr
        rw [hR]
        have h5 : fam d r = false := by
          have := hc.sl t sv' h2
          cases hq : fam d r with
          | false => rfl
          | true => rw [SV.nms_hit hr hq] at this; cases this
        simp [h5, h4]
      simp only [Env.re, lkp_map, h2, Option.map_some, SV.hit_ct h3]
  · rw [(hrest _).2.1]
    have h1 : lkp E.bx b = some ls := by
      have : ((((E.addR rts).put x sv).killD (inL ks)).bx) = E.bx := (hrest _).2.1
      rwa [this] at h
    have h2 := hb' _ (lkp_mem' h1)
    have h3 := hc.bx b ls h1
    have h4 : ls.any (LV.hit R) = false := by
      have := SV.hit_of (s := .v false ls) (d0 := fam d) (D := R) h3.2 (by
        simp only [SV.nms]
        rw [List.any_eq_false]
        intro r hr
        have h4 := List.any_eq_false.1 h2.2 r hr
        rw [hR]
        have h5 : fam d r = false := by
          cases hq : fam d r with
          | false => rfl
          | true =>
            have := SV.nms_hit (s := .v false ls) hr hq
            rw [show SV.hit (fam d) (.v false ls) = ls.any (LV.hit (fam d)) from rfl, h3.2] at this
            cases this
        simp [h5, h4])
      exact this
    have h5 : dth R [] [b, 0] = false := by simp [dth, hR, h3.1, h2.1]
    simp only [Env.re, lkp_map, lkp_delD, h5, Bool.false_eq_true, if_false, h1, Option.map_some, LVs.hit_ct h4]
  · have h0 := lkp_delD'.1 h
    rw [(hrest _).2.2] at h0 ⊢
    simp only [Env.re, Env.addR, lkp_app] at h0 ⊢
    split at h0
    · rename_i z hz
      exact h0.1
    · have h1 := hc.rt r y h0.1
      simp only [lkp_delD, hR, h1, h0.2, List.any_nil, Bool.or_false, Bool.false_eq_true, if_false]
      exact h0.1
theorem at_le {E1 E2 : Env} (hl : E1.le E2) {q : List Nat} {X : Md × Lf} (h : E1.at_ q = some X) : E2.at_ q = some X := by
  cases q with
  | nil => exact h
  | cons r q =>
    simp only [Env.at_, Option.bind_eq_some_iff] at h ⊢
    obtain ⟨y, h1, h2⟩ := h
    exact ⟨y, hl.rt r y h1, h2⟩
theorem vld_le {E1 E2 : Env} (hl : E1.le E2) {q : List Nat} (hv : E1.vld q) : E2.vld q := by
  cases q with
  | nil => exact hv
  | cons r q =>
    simp only [Env.vld] at hv ⊢
    split at hv
    · rename_i x hx
      rw [hl.rt r x hx]
      exact hv
    · exact hv.elim
theorem appB_le {E1 E2 : Env} (hl : E1.le E2) {e : Nat} {b : LV} {X} (h : E1.appB e b = some X) : E2.appB e b = some X := by
  unfold Env.appB at h ⊢
  split at h
  · exact h
  · split at h
    · rename_i hk
      rw [hl.rt _ _ hk]
      exact h
    · cases h
  · cases h
theorem appZ_le {E1 E2 : Env} (hl : E1.le E2) {e : Nat} {b : LV} {X} (h : appZ ti E1 e b = some X) : appZ ti E2 e b = some X := by
  unfold appZ at h ⊢
  split at h
  · exact h
  · split at h
    · rename_i hk
      rw [hl.rt _ _ hk]
      exact h
    · cases h
  · cases h
theorem appS_le {E1 E2 : Env} (hl : E1.le E2) {z : List Lf} {t2 : Nat} {sv : SV} {C : Prop} {rows : List (List Lf)} {cols : Nat → List Md} {kill : Option Nat} (h : E1.appS ti z t2 sv = some (C, rows, cols, kill)) :
    ∃ C', E2.appS ti z t2 sv = some (C', rows, cols, kill) ∧ (C → C') := by
  unfold Env.appS at h ⊢
  split at h
  · cases h; exact ⟨_, rfl, id⟩
  · cases h; exact ⟨_, rfl, id⟩
  · cases h; exact ⟨_, rfl, id⟩
  · split at h
    · rename_i hk
      simp only [at_le hl hk]
      split at h
      · rename_i hz
        cases h
        rw [if_pos hz]
        exact ⟨_, rfl, fun q => ⟨q.1, q.2.1, vld_le hl q.2.2.1, q.2.2.2⟩⟩
      · rename_i hz
        rw [if_neg hz]
        split at h
        · cases h
          exact ⟨_, rfl, fun q => ⟨q.1, q.2.1, vld_le hl q.2.2⟩⟩
        · cases h
    · cases h
  · cases h
theorem appR_ks {d : Nat} {k kill : Option Nat} (r : Nat) : appR d k kill r = (fam d r || inL (ksL k kill) r) := by
  cases k <;> cases kill <;> simp [appR, ksL, inL]
  all_goals grind
theorem appDS_ok {Er : Env} {o : Oper} {c : Call} {s x : Operand} {t1 t2 : Nat} {C : Prop} {m : Md} {l : Lf} {ks : List Nat} (hT : TGood P ti) (hs : St w0 tag0 E tag hv a w) (hle : Er.le E) (hc0 : E.cl (fam d)) (hb0 : ks = [] ∨ bxClr ks E.bx = true) (ho : o.op = .call c) (hc : c = { callee := .builtin .append, args := #[s, x], argTypes := #[t1, t2] })
    (h : appDS ti Er d t1 t2 s x = some (C, ks, m, l)) (hC : C) : ∃ v w' tg hh, (execOp a.eval o).run P w = .ok (.value v) w' ∧ St w0 tag0 (((E.addR [(d, m, l)]).put o.dst (.v false [.r [d]])).killD (inL ks)) tg hh (a.put o.dst v) w' := by
  unfold appDS at h
  split at h
  · rename_i b sv e hb hx he
    split at h
    · rename_i C1 rows cols k z hB hZ
      split at h
      · rename_i C2 rows' cols' kill hr
        cases h
        obtain ⟨C2', hS, hC2⟩ := appS_le hle hr
        obtain ⟨h1, h2, h3, h4, h5, h6, h7, h8, h9⟩ := hC
        have hO : appO ti E d t1 t2 s x = some ((ti t1).ok = true ∧ (ti t2).ok = true ∧ (ti e).ok = true ∧ (ti e).sz = z.length ∧ d < 1000 ∧ C1 ∧ C2' ∧ (rows.length + rows'.length) * (ti e).by_ ≤ 140737488355328 ∧ (∀ r, kill = some r → k ≠ some r),
            E.re (appR d k kill) [] [] [(d, .o e (appC rows.length k cols cols'), .ls z (rows ++ rows'))]) := by
          simp only [appO, opd_le hle hb, opd_le hle hx, he, appB_le hle hB, appZ_le hle hZ, hS]
        obtain ⟨v, w', tg, hh, q1, q2, q3⟩ := appO_ok hT hs ho hc hO ⟨h1, h2, h3, h4, h5, h6, hC2 h7, h8, h9⟩
        exact ⟨v, w', tg, hh, q1, St.of_re appR_ks hc0 hb0 (q2.put q3)⟩
      · cases h
    · cases h
  · cases h
theorem yv_le {E1 E2 : Env} (hl : E1.le E2) {x : LV} {y : Md × Lf} (h : E1.yv x = some y) : E2.yv x = some y := by
  unfold Env.yv at h ⊢
  split at h <;> first | exact h | exact hl.rt _ _ h | (cases h)
theorem yvM_le {E1 E2 : Env} (hl : E1.le E2) {x : LV} {m : Md} {y : Md × Lf} (h : E1.yvM x m = some y) : E2.yvM x m = some y := by
  unfold Env.yvM at h ⊢
  split at h
  · exact h
  · exact yv_le hl h
theorem yvsM_le {E1 E2 : Env} (hl : E1.le E2) : ∀ {ls : List LV} {ms : List Md} {ys : List (Md × Lf)}, E1.yvsM ls ms = some ys → E2.yvsM ls ms = some ys
  | [], _, ys, h => h
  | x :: r, ms, ys, h => by
    simp only [Env.yvsM] at h ⊢
    split at h
    · rename_i y ys' h1 h2
      rw [yvM_le hl h1, yvsM_le hl h2]
      exact h
    · cases h
theorem yvsR_le {E1 E2 : Env} (hl : E1.le E2) {ms : List Md} : ∀ {rs : List (List LV)} {ys : List (List (Md × Lf))}, E1.yvsR ms rs = some ys → E2.yvsR ms rs = some ys
  | [], ys, h => h
  | x :: r, ys, h => by
    simp only [Env.yvsR] at h ⊢
    split at h
    · rename_i y ys' h1 h2
      rw [yvsM_le hl h1, yvsR_le hl h2]
      exact h
    · cases h
theorem bparts_le {E1 E2 : Env} (hl : E1.le E2) {place : Nat → Option (Nat × Nat)} : ∀ {parts : List (Nat × Operand)} {ls : List LV} {C : Prop} {F : List LV}, bparts ti E1 place parts ls = some (C, F) → bparts ti E2 place parts ls = some (C, F)
  | [], ls, C, F, h => h
  | (i, x) :: r, ls, C, F, h => by
    simp only [bparts] at h ⊢
    split at h
    · rename_i off u hp
      split at h
      · rename_i ag new hx
        rw [opd_le hl hx]
        simp only
        split at h
        · rename_i C1 l1 h1
          rw [bparts_le hl h1]
          exact h
        · cases h
      · cases h
    · cases h
theorem bsDO_ok {Er : Env} {o : Oper} {t n : Nat} {parts : Array (Nat × Operand)} {C : Prop} {m : Md} {l : Lf} {ks : List Nat} (hT : TGood P ti) (hs : St w0 tag0 E tag hv a w) (hle : Er.le E) (hc0 : E.cl (fam d)) (hb0 : ks = [] ∨ bxClr ks E.bx = true) (ho : o.op = .buildSlice t n parts)
    (h : bsDO ti Er d t n parts.toList = some (C, ks, m, l)) (hC : C) : ∃ v w' tg hh, (execOp a.eval o).run P w = .ok (.value v) w' ∧ St w0 tag0 (((E.addR [(d, m, l)]).put o.dst (.v false [.r [d]])).killD (inL ks)) tg hh (a.put o.dst v) w' := by
  unfold bsDO at h
  split at h
  · rename_i e he
    split at h
    · rename_i C1 F hF
      split at h
      · rename_i D r hr
        cases h
        unfold Env.bsD at hr
        split at hr
        · rename_i ys hys
          cases hr
          have hO := bsO_ok (d := d) (C := (ti t).ok = true ∧ (ti e).ok = true ∧ n * (ti e).sz ≤ 16777216 ∧ d < 1000 ∧ C1 ∧ ((mvsR d 0 (chunks (ti e).z.length n F)).map (·.1)).Nodup ∧ F.length = n * (ti e).z.length) hT hs ho (by
            simp only [bsO, he, bparts_le hle hF, Env.bs, yvsR_le hle hys]
            rfl) hC
          obtain ⟨v, w', tg, hh, q1, q2, q3⟩ := hO
          refine ⟨v, w', tg, hh, q1, St.of_re (fun r => ?_) hc0 hb0 (q2.put q3)⟩
          have : inL ((mvsR d 0 (chunks (ti e).z.length n F)).map (·.1)) r = ((mvsR d 0 (chunks (ti e).z.length n F)).map (·.1)).contains r := by
            rw [Bool.eq_iff_iff, inL_mem, List.contains_iff_mem]
          rw [this]
          rfl
        · cases hr
      · cases h
    · cases h
  · cases h
theorem St.kil0 (hs : St w0 tag0 E tag hv a w) (D : Nat → Bool) : St w0 tag0 (E.killD D) tag hv a w := hs.le (E.killD_le D)
theorem fam_one {o : Oper} {m : Md} {l : Lf} (h : dn o < 1000) : ∀ x ∈ ([(dn o, m, l)] : RT), fam (dn o) x.1 = true := fun y hy => by
  simp only [List.mem_singleton] at hy
  subst hy
  simp only [fam, beq_iff_eq]
  omega
theorem uPre_le {E1 E2 : Env} (hl : E1.le E2) : ∀ {T : List (List Nat)} {ms : List (Md × Lf)}, uPre E1 T ms → uPre E2 T ms
  | [], [], _ => trivial
  | [], _ :: _, h => by simp [uPre] at h
  | _ :: _, [], h => by simp [uPre] at h
  | p :: T, (m, l) :: ms, h => ⟨at_le hl h.1, vld_le hl h.2.1, h.2.2.1, uPre_le hl h.2.2.2⟩
theorem rt1_inL : ∀ {T : List (List Nat)}, (∀ p ∈ T, p.length = 1) → ∀ {r : Nat} {d : Nat}, (fam d r || rt1 T r) = (fam d r || inL (T.map hd0) r)
  | [], _, r, d => by simp [rt1, inL]
  | p :: T, h, r, d => by
    have ih := rt1_inL (T := T) (fun p hp => h p (by simp [hp])) (r := r) (d := d)
    have h1 := h p (by simp)
    match p, h1 with
    | [k], _ =>
      have e : rt1 ([k] :: T) r = (k == r || rt1 T r) := rfl
      have e2 : inL (([k] :: T).map hd0) r = (if k = r then true else inL (T.map hd0) r) := rfl
      rw [e, e2]
      by_cases hk : k = r
      · simp [hk]
      · have : (k == r) = false := by simpa using hk
        rw [this, if_neg hk, Bool.false_or]
        exact ih
theorem useE_one {E : Env} {d : Nat} {rs : List (Bool × ML)} {T : List (List Nat)} (h : ∀ p ∈ T, p.length = 1) : E.useE d T rs = E.re (fun r => fam d r || rt1 T r) [] [] (resRs d 0 rs) := by
  have hp3 : pl3 T = [] := by
    unfold pl3
    rw [List.filter_eq_nil_iff]
    intro p hp
    simp [h p hp]
  have hk3 : ∀ T : List (List Nat), (∀ p ∈ T, p.length = 1) → kil3 E T = [] := by
    intro T
    induction T with
    | nil => intro _; rfl
    | cons p T ih =>
      intro h
      have h1 := h p (by simp)
      match p, h1 with
      | [k], _ => exact ih fun p hp => h p (by simp [hp])
  simp only [Env.useE, hp3, hk3 T h, List.append_nil]
theorem dU_ok (hT : TGood P ti) {ops : Array Oper} {o : Oper} {K : DK} {Er : Env} (hg : o.guard = none) (h : dU P ti o K Er) : Beh P ops o Er K := by
  have hw : ∀ y, Region.wanted o y = true := by intro y; simp [Region.wanted, hg]
  have hpur : (match pur ti Er o with | some (C, sv) => C ∧ K sv [] [] | none => False) → Beh P ops o Er K := by
    intro h
    split at h
    · rename_i C sv hp
      refine ⟨sv, [], [], h.2, fun w0 tag0 E tag hv a w N Q hs he _ _ hN => ?_, fun h => absurd rfl h, by simp⟩
      rw [if_pos (hw _)]
      obtain ⟨v, h1, h2⟩ := pur_ok hT (hs.le he) hp h.1
      exact upon_value h1 (hN _ _ _ _ ((hs.put h2).kil0 _))
    · exact h.elim
  unfold dU at h
  split at h
  · rename_i c x y ho
    split at h
    · rename_i C r hp
      refine ⟨bool r, [], [], h.2, fun w0 tag0 E tag hv a w N Q hs he _ _ hN => ?_, fun h => absurd rfl h, by simp⟩
      rw [if_pos (hw _)]
      exact upon_value (pick3_ok (hs.le he) ho hp h.1) (hN _ _ _ _ ((hs.put mk_bool).kil0 _))
    · exact h.elim
  · rename_i t ho
    obtain ⟨h1, h2, h3, h4, h5⟩ := h
    have hic : isCallO o = true := by
      unfold isCallO
      rw [ho]
      exact h3
    refine ⟨_, _, _, h5, fun w0 tag0 E tag hv a w N Q hs he hcl hbx hN => ?_, fun _ => hic, fam_one h4⟩
    rw [if_pos (hw _)]
    obtain ⟨w', v, tg, hh, q1, q2, q3⟩ := run_al hT hs h4 h1 h2 ho
    exact upon_value q1 (hN _ _ _ _ (St.of_re (R := fam (dn o)) (ks := []) (fun r => by simp [inL]) (hcl hic) (.inl rfl) (q2.put q3)))
  · rename_i t n parts ho
    split at h
    · rename_i C ks m l hb
      have hic : isCallO o = true := by
        unfold isCallO
        rw [ho]
        exact h.2.1
      refine ⟨_, _, _, h.2.2.2, fun w0 tag0 E tag hv a w N Q hs he hcl hbx hN => ?_, fun _ => hic, fam_one h.2.2.1⟩
      rw [if_pos (hw _)]
      obtain ⟨v, w', tg, hh, q1, q2⟩ := bsDO_ok hT hs he (hcl hic) hbx ho hb h.1
      exact upon_value q1 (hN _ _ _ _ q2)
    · exact h.elim
  · rename_i c ho
    split at h
    · rename_i C k as R hc
      obtain ⟨hC, ⟨rs, hvc, hR, hd, hds, hK⟩ | ⟨as', ms, rs, hvx, hk⟩⟩ := h
      case inr =>
        unfold kUseD at hk
        split at hk
        · rename_i f hcf
          split at hk
          · rename_i k' ss h1 h2
            split at hk
            · rename_i D ss' hus
              obtain ⟨hD, rfl, hTT, hdj, hd1, hpre, hR, hd, hds, hK⟩ := hk
              have hic := callO_isCall ho hc hds
              refine ⟨_, _, _, hK, fun w0 tag0 E tag hv a w N Q hs he hcl hbx hN => ?_, fun _ => hic, resRs_fam hd 0 rs⟩
              rw [if_pos (hw _)]
              obtain ⟨vs, q1, q2⟩ := use_run (hs.le he) ho hcf hc hvx h1 h2 hus hD hTT hdj hpre
              unfold Oper.wp
              rw [q1, Oper.upon_enter]
              refine q2.mono ?_
              rintro e w' ⟨tag', hv', rv, rfl, hfr, hi', hrv⟩
              have hp3 : pl3 (ss.flatMap SV.pls) = [] := by
                unfold pl3
                rw [List.filter_eq_nil_iff]
                intro p hp
                simp [hd1 p hp]
              obtain ⟨tg, hh, h3, h4⟩ := hs.use hTT hd (by rw [hp3]; simp) (uPre_le he hpre) hfr hi' hR hrv
              refine hN _ _ _ _ (St.of_re (fun r => ?_) (hcl hic) hbx ((useE_one (E := E) hd1 ▸ h3).put h4))
              rw [rt1_inL hd1]
            · exact hk.elim
          · exact hk.elim
        · exact hk.elim
      have hic := callO_isCall ho hc hds
      refine ⟨_, _, _, hK, fun w0 tag0 E tag hv a w N Q hs he hcl _ hN => ?_, fun _ => hic, resRs_fam hd 0 rs⟩
      rw [if_pos (hw _)]
      obtain ⟨vs, h1, h2⟩ := callO_ok (hs.le he) ho hc hC hvc.1
      unfold Oper.wp
      rw [h1, Oper.upon_enter]
      refine (hvc.2 w (lend R tag) hv vs (lend_cases R) (fun b hb => by simp [lend, hs.hi b hb]) h2).mono ?_
      rintro e w' ⟨tag', hv', rv, rfl, hfr, hi', hrv⟩
      obtain ⟨tg, hh, h3, h4⟩ := hs.ret hd hfr hi' hR hrv
      exact hN _ _ _ _ (((h3.of_ret (hcl hic)).put h4).kil0 _)
    · split at h
      · rename_i C sv hp
        exact hpur (by rw [hp]; exact h)
      · split at h
        · rename_i C ks m l ha
          unfold appDX at ha
          split at ha
          · rename_i s1 x1 t1 t2 h1 h2 h3
            have hcc : c = { callee := .builtin .append, args := #[s1, x1], argTypes := #[t1, t2] } := by
              obtain ⟨c1, c2, c3⟩ := c
              simp only at h1 h2 h3
              rw [h1, show c2 = _ from (Array.toList_inj.1 (h2.trans rfl)), show c3 = _ from (Array.toList_inj.1 (h3.trans rfl))]
            have hic : isCallO o = true := by
              unfold isCallO
              rw [ho, hcc]
              exact h.2.1
            refine ⟨_, _, _, h.2.2.2, fun w0 tag0 E tag hv a w N Q hs he hcl hbx hN => ?_, fun _ => hic, fam_one h.2.2.1⟩
            rw [if_pos (hw _)]
            obtain ⟨v, w', tg, hh, q1, q2⟩ := appDS_ok hT hs he (hcl hic) hbx ho hcc ha h.1
            exact upon_value q1 (hN _ _ _ _ q2)
          · cases ha
        · exact h.elim
  · exact hpur h
theorem dG_ok (hT : TGood P ti) {ops : Array Oper} {o : Oper} {K : DK} {Er : Env} {j : Nat} {b g : Bool} (hg : o.guard = some (j, b)) (hgb : guardB Er ops.toList j b = some g) (h : dG P ti g o K Er) : Beh P ops o Er K := by
  have hw : ∀ {w0 tag0 E tag hv a w}, St w0 tag0 E tag hv a w → Er.le E → Region.wanted o (yielded ops a.tmps) = g := by
    intro w0 tag0 E tag hv a w hs he
    have := guardB_ok (hs.le he) hgb
    simp only [Region.wanted, hg]
    exact this
  have hpur : (match pur ti (Er.un (opTmps o.op)) o with | some (C, sv) => (g = true → gsOk Er (opTmps o.op) ∧ C) ∧ K (.g g sv) [] [] | none => False) → Beh P ops o Er K := by
    intro h
    split at h
    · rename_i C sv hp
      refine ⟨_, [], [], h.2, fun w0 tag0 E tag hv a w N Q hs he _ _ hN => ?_, fun h => absurd rfl h, by simp⟩
      rw [hw hs he]
      split
      · rename_i hgt
        obtain ⟨h1, h2⟩ := h.1 hgt
        have hs1 : St w0 tag0 Er tag hv a w := hs.le he
        obtain ⟨v, h3, h4⟩ := pur_ok hT (hs1.un h1) hp h2
        exact upon_value h3 (hN _ _ _ _ ((hs.put (sv := .g g sv) ⟨fun _ => h4, fun hf => by rw [hgt] at hf; cases hf⟩).kil0 _))
      · rename_i hgt
        exact hN _ _ _ _ ((hs.put (sv := .g g sv) ⟨fun hf => absurd hf hgt, fun _ => rfl⟩).kil0 _)
    · exact h.elim
  unfold dG at h
  split at h
  · rename_i c x y ho
    split at h
    · rename_i C r hp
      refine ⟨_, [], [], h.2, fun w0 tag0 E tag hv a w N Q hs he _ _ hN => ?_, fun h => absurd rfl h, by simp⟩
      rw [hw hs he]
      split
      · rename_i hgt
        exact upon_value (pick3_ok (hs.le he) ho hp (h.1 hgt)) (hN _ _ _ _ ((hs.put (sv := .g g (bool r)) ⟨fun _ => mk_bool, fun hf => by rw [hgt] at hf; cases hf⟩).kil0 _))
      · rename_i hgt
        exact hN _ _ _ _ ((hs.put (sv := .g g (bool r)) ⟨fun hf => absurd hf hgt, fun _ => rfl⟩).kil0 _)
    · exact h.elim
  · rename_i c ho
    split at h
    · rename_i C k as R hc
      obtain ⟨rs, h1, hR, hf, hK⟩ := h
      refine ⟨_, [], [], hK, fun w0 tag0 E tag hv a w N Q hs he _ _ hN => ?_, fun h => absurd rfl h, by simp⟩
      rw [hw hs he]
      split
      · rename_i hgt
        obtain ⟨⟨h2, hC⟩, hvc⟩ := h1 hgt
        have hs1 : St w0 tag0 Er tag hv a w := hs.le he
        obtain ⟨vs, h3, h4⟩ := callO_ok (hs1.un h2) ho hc hC hvc.1
        unfold Oper.wp
        rw [h3, Oper.upon_enter]
        refine (hvc.2 w (lend R tag) hv vs (lend_cases R) (fun b hb => by simp [lend, hs.hi b hb]) h4).mono ?_
        rintro e w' ⟨tag', hv', rv, rfl, hfr, hi', hrv⟩
        obtain ⟨tg, h5, h6⟩ := hs.retF hfr hi' hR hf hrv
        exact hN _ _ _ _ ((h5.put (sv := .g g (frzS rs)) ⟨fun _ => h6, fun hf => by rw [hgt] at hf; cases hf⟩).kil0 _)
      · rename_i hgt
        exact hN _ _ _ _ ((hs.put (sv := .g g (frzS rs)) ⟨fun hf => absurd hf hgt, fun _ => rfl⟩).kil0 _)
    · exact hpur h
  · exact hpur h

/-! ### what is listed -/
abbrev PE := Option Nat × SV × RT × List Nat
abbrev PL := List PE
/-- The environment with what the listed ones of l (numbers from k on) put. -/
def Ep : PL → Nat → (Nat → Bool) → Env → Env
  | [], _, _, E => E
  | x :: r, k, b, E => Ep r (k + 1) b (if b k = true then (E.addR x.2.2.1).put x.1 x.2.1 else E)
/-- What the listed ones have used up. -/
def Dl : PL → Nat → (Nat → Bool) → Nat → Bool
  | [], _, _, _ => false
  | x :: l, k, b, r => (b k && inL x.2.2.2 r) || Dl l (k + 1) b r
theorem Dl_iff {b : Nat → Bool} {r : Nat} : ∀ {l : PL} {k : Nat}, Dl l k b r = true ↔ ∃ i x, l[i]? = some x ∧ b (k + i) = true ∧ r ∈ x.2.2.2
  | [], k => by simp [Dl]
  | x :: l, k => by
    simp only [Dl, Bool.or_eq_true, Bool.and_eq_true, Dl_iff, inL_mem]
    constructor
    · rintro (⟨h1, h2⟩ | ⟨i, y, h1, h2, h3⟩)
      · exact ⟨0, x, rfl, h1, h2⟩
      · exact ⟨i + 1, y, by simpa using h1, by rwa [show k + (i + 1) = k + 1 + i by omega], h3⟩
    · rintro ⟨i, y, h1, h2, h3⟩
      cases i with
      | zero =>
        simp only [List.getElem?_cons_zero, Option.some.injEq] at h1
        subst h1
        exact .inl ⟨h2, h3⟩
      | succ i => exact .inr ⟨i, y, by simpa using h1, by rwa [show k + 1 + i = k + (i + 1) by omega], h3⟩
theorem addR_le {E1 E2 : Env} (h : E1.le E2) (rts : RT) : (E1.addR rts).le (E2.addR rts) := by
  refine ⟨h.nt, h.sl, h.bx, fun r y q => ?_⟩
  simp only [Env.addR, lkp_app] at q ⊢
  split at q
  · exact q
  · exact h.rt r y q
theorem lkp_put {E : Env} {x : Option Nat} {sv : SV} {t : Nat} : lkp (E.put x sv).sl t = if x = some t then (if t < E.nt then some sv else none) else lkp E.sl t := by
  cases x with
  | none => simp [Env.put]
  | some d =>
    simp only [Env.put]
    split
    · rename_i hd
      simp only [lkp_putL, Option.some.injEq]
      by_cases h : d = t
      · subst h; simp [hd]
      · simp [h]
    · rename_i hd
      simp only [lkp_delL, Option.some.injEq]
      by_cases h : d = t
      · subst h; simp [hd]
      · simp [h]
theorem put_rest {E : Env} {x : Option Nat} {sv : SV} : (E.put x sv).nt = E.nt ∧ (E.put x sv).bx = E.bx ∧ (E.put x sv).rt = E.rt := by
  cases x with
  | none => exact ⟨rfl, rfl, rfl⟩
  | some d => simp only [Env.put]; split <;> exact ⟨rfl, rfl, rfl⟩
theorem put_le {E1 E2 : Env} (h : E1.le E2) (x : Option Nat) (sv : SV) : (E1.put x sv).le (E2.put x sv) := by
  refine ⟨put_rest.1.trans (h.nt.trans put_rest.1.symm), fun t v q => ?_, fun b ls q => ?_, fun r y q => ?_⟩
  · rw [lkp_put] at q ⊢
    split at q
    · rename_i hx
      rw [if_pos hx, ← h.nt]
      exact q
    · rename_i hx
      rw [if_neg hx]
      exact h.sl t v q
  · rw [put_rest.2.1] at q ⊢
    exact h.bx b ls q
  · rw [put_rest.2.2] at q ⊢
    exact h.rt r y q
theorem Ep_le : ∀ (l : PL) (k : Nat) (b : Nat → Bool) {E1 E2 : Env}, E1.le E2 → (Ep l k b E1).le (Ep l k b E2)
  | [], _, _, _, _, h => h
  | x :: r, k, b, E1, E2, h => by
    simp only [Ep]
    refine Ep_le r (k + 1) b ?_
    split
    · exact put_le (addR_le h _) _ _
    · exact h
/-- What an operation that knows Er looks at. -/
structure ErIn (Er : Env) (ts : List Nat) (bx : List (Nat × List LV)) : Prop where
  sl : ∀ t sv, lkp Er.sl t = some sv → t ∈ ts
  rt : ∀ r y, lkp Er.rt r = some y → (∃ t sv, lkp Er.sl t = some sv ∧ r ∈ sv.nms) ∨ ∃ z ∈ bx, r ∈ z.2.flatMap LV.nms
theorem keepL_lkp {α : Type} {L : List (Nat × α)} {t : Nat} {y : α} : ∀ {ts : List Nat}, (t, y) ∈ keepL L ts → t ∈ ts ∧ lkp L t = some y
  | [], h => by simp [keepL] at h
  | s :: r, h => by
    simp only [keepL] at h
    split at h
    · rename_i z hz
      rcases List.mem_cons.1 h with e | h
      · cases e
        exact ⟨by simp, hz⟩
      · have := keepL_lkp h
        exact ⟨by simp [this.1], this.2⟩
    · have := keepL_lkp h
      exact ⟨by simp [this.1], this.2⟩
theorem lkp_keepL_mem {α : Type} {L : List (Nat × α)} {t : Nat} {y : α} : ∀ {ts : List Nat}, t ∈ ts → lkp L t = some y → lkp (keepL L ts) t = some y
  | [], h, _ => by cases h
  | s :: r, h, hl => by
    simp only [keepL]
    by_cases e : s = t
    · subst e
      rw [hl]
      simp [lkp]
    · have h1 : t ∈ r := by
        rcases List.mem_cons.1 h with e' | h
        · exact absurd e'.symm e
        · exact h
      split
      · simp only [lkp, if_neg e]
        exact lkp_keepL_mem h1 hl
      · exact lkp_keepL_mem h1 hl
theorem kp_in (E : Env) (ts : List Nat) : ErIn (E.kp ts) ts E.bx := by
  refine ⟨fun t sv h => (keepL_lkp (lkp_mem' h)).1, fun r y h => ?_⟩
  have h1 := (keepL_lkp (lkp_mem' h)).1
  rcases List.mem_append.1 h1 with h1 | h1
  · obtain ⟨⟨t, sv⟩, h2, h3⟩ := List.mem_flatMap.1 h1
    have h4 := keepL_lkp h2
    exact .inl ⟨t, sv, lkp_keepL_mem h4.1 h4.2, h3⟩
  · obtain ⟨z, h2, h3⟩ := List.mem_flatMap.1 h1
    exact .inr ⟨z, h2, h3⟩
theorem hOk_ok {ops : List Oper} {k : Nat} {ks : List Nat} : ∀ {H : HL}, hOk ops k ks H → ∀ i ns, (i, ns) ∈ H → i ≠ k → ∀ r ∈ ns, r ∈ ks → closB ops ops.length i k = true
  | [], _, i, ns, h, _, _, _, _ => by cases h
  | (i', ns') :: H, h, i, ns, hm, hne, r, hr, hk => by
    rcases List.mem_cons.1 hm with e | hm
    · cases e
      have h1 := h.1
      rw [if_pos (List.any_eq_true.2 ⟨r, hr, inL_mem.2 hk⟩), if_neg hne] at h1
      exact h1
    · exact hOk_ok h.2 i ns hm hne r hr hk

theorem kill_bx (E : Env) (ks : List Nat) : (E.kill ks).bx = E.bx := by
  unfold Env.kill
  split <;> rfl
/-- What is said of the k-th operation (its number in the region is n + k). -/
structure Said (P : Program) (ops : Array Oper) (l : PL) (E : Env) (D : List Nat) (n k : Nat) (o : Oper) (sv : SV) (rts : RT) (ks : List Nat) (Er : Env) : Prop where
  at_ : l[k]? = some (o.dst, sv, rts, ks)
  step : StepOk P ops o Er sv rts ks
  le : Er.le ((Ep l 0 (fun j => decide (j < k)) E).killD fun r => Dl l 0 (fun j => decide (j < k)) r || inL D r)
  inn : ErIn Er (lks ops.toList o) E.bx
  call : rts ≠ [] → isCallO o = true
  fam : ∀ x ∈ rts, fam (dn o) x.1 = true
  clr : clrL ops.toList (n + k) sv (callsOf ops.toList 0)
  bx : ks = [] ∨ bxClr ks E.bx = true
  hist : ∀ j x, k < j → l[j]? = some x → ∀ t u r, lkp Er.sl t = some u → r ∈ u.nms → r ∈ x.2.2.2 → closB ops.toList ops.toList.length (n + k) (n + j) = true

theorem Ep_shift : ∀ (l : PL) (n : Nat) (b : Nat → Bool) (E : Env), Ep l (n + 1) b E = Ep l n (fun j => b (j + 1)) E
  | [], _, _, _ => rfl
  | x :: r, n, b, E => by simp only [Ep]; rw [Ep_shift r]
theorem Dl_shift : ∀ (l : PL) (n : Nat) (b : Nat → Bool) (r : Nat), Dl l (n + 1) b r = Dl l n (fun j => b (j + 1)) r
  | [], _, _, _ => rfl
  | x :: r, n, b, y => by simp only [Dl]; rw [Dl_shift r]
theorem inL_app {l l' : List Nat} {r : Nat} : inL (l ++ l') r = (inL l r || inL l' r) := by
  rw [Bool.eq_iff_iff, Bool.or_eq_true, inL_mem, inL_mem, inL_mem, List.mem_append]
theorem evD_good (hT : TGood P ti) {bb : Bool} {ops : Array Oper} {K : Env → Prop} : ∀ (rest : List Oper) (n : Nat) (D : List Nat) (H : HL) (E : Env), (∀ x ∈ H, x.1 < n) → (∀ t sv, lkp E.sl t = some sv → sv.nms.any (inL D) = false) → (∀ r y, lkp E.rt r = some y → inL D r = false) → evD P ti bb ops.toList rest n K D H E →
    ∃ l : PL, l.length = rest.length ∧ (∃ G, K G ∧ G.le ((Ep l 0 (fun _ => true) E).killD fun r => Dl l 0 (fun _ => true) r || inL D r)) ∧
      (∀ k o, rest[k]? = some o → ∃ sv rts ks Er, Said P ops l E D n k o sv rts ks Er) ∧
      (∀ (k : Nat) (x : PE), l[k]? = some x → (bb = false → x.2.2.2 = []) ∧ ∀ i ns, (i, ns) ∈ H → ∀ r ∈ ns, r ∈ x.2.2.2 → closB ops.toList ops.toList.length i (n + k) = true)
  | [], n, D, H, E, _, hD1, hD2, h => ⟨[], rfl, ⟨E, h, ⟨rfl, fun t sv q => lkp_klS.2 ⟨q, by simpa [Dl] using hD1 t sv q⟩, fun _ _ q => q, fun r y q => lkp_delD'.2 ⟨q, by simpa [Dl] using hD2 r y q⟩⟩⟩, fun k o hk => by simp at hk, fun k x hk => by simp at hk⟩
  | o :: rest, n, D, H, E, hH, hD1, hD2, h => by
    have key : Beh P ops o (E.kp (lks ops.toList o)) (fun sv rts ks => clrL ops.toList n sv (callsOf ops.toList 0) ∧ kilOk bb ops.toList n E.bx H ks ∧ evD P ti bb ops.toList rest (n + 1) K (ks ++ D) (hcons bb n (E.kp (lks ops.toList o)) H) (((E.addR rts).put o.dst sv).kill (ks ++ D))) := by
      simp only [evD] at h
      split at h
      · rename_i hg
        exact dU_ok hT hg h
      · rename_i j b hg
        split at h
        · rename_i g hgb
          exact dG_ok hT hg hgb h
        · exact h.elim
    obtain ⟨sv, rts, ks, ⟨h0, hkil, h1⟩, h2, h21, h22⟩ := key
    have hF1 : ∀ t u, lkp (((E.addR rts).put o.dst sv).kill (ks ++ D)).sl t = some u → u.nms.any (inL (ks ++ D)) = false := fun t u q => by
      have := Env.kill_D.sl t u q
      exact (lkp_klS.1 this).2
    have hF2 : ∀ r y, lkp (((E.addR rts).put o.dst sv).kill (ks ++ D)).rt r = some y → inL (ks ++ D) r = false := fun r y q => by
      have := Env.kill_D.rt r y q
      exact (lkp_delD'.1 this).2
    have hH' : ∀ x ∈ hcons bb n (E.kp (lks ops.toList o)) H, x.1 < n + 1 := by
      intro x hx
      unfold hcons at hx
      split at hx
      · rcases List.mem_cons.1 hx with rfl | hx
        · simp
        · have := hH x hx
          omega
      · have := hH x hx
        omega
    obtain ⟨l, h3, ⟨G, hG, hGle⟩, h5, h6⟩ := evD_good hT rest _ _ _ _ hH' hF1 hF2 h1
    have hbx : ks = [] ∨ bxClr ks E.bx = true := by
      unfold kilOk at hkil
      split at hkil
      · exact .inl rfl
      · exact .inr hkil.2.1
    have hbb : bb = false → ks = [] := fun hf => by
      unfold kilOk at hkil
      split at hkil
      · rfl
      · rw [hkil.1] at hf
        cases hf
    have hho : ∀ i ns, (i, ns) ∈ H → ∀ r ∈ ns, r ∈ ks → closB ops.toList ops.toList.length i n = true := fun i ns hm r hr hk => by
      unfold kilOk at hkil
      split at hkil
      · cases hk
      · have := hH _ hm
        exact hOk_ok hkil.2.2 i ns hm (by simp only at this; omega) r hr hk
    have hEbx : ((E.addR rts).put o.dst sv).bx = E.bx := put_rest.2.1
    have hmono : ∀ b : Nat → Bool, b 0 = true → ((Ep l 0 (fun j => b (j + 1)) (((E.addR rts).put o.dst sv).kill (ks ++ D))).killD fun r => Dl l 0 (fun j => b (j + 1)) r || inL (ks ++ D) r).le
        ((Ep ((o.dst, sv, rts, ks) :: l) 0 b E).killD fun r => Dl ((o.dst, sv, rts, ks) :: l) 0 b r || inL D r) := fun b hb => by
      simp only [Ep, Dl, hb, Bool.true_and]
      rw [Ep_shift]
      refine (Ep_le l 0 _ (Env.kill_le _ _)).killD fun r hr => ?_
      simp only [Dl_shift, inL_app, Bool.or_eq_true] at hr ⊢
      rcases hr with (hr | hr) | hr
      · exact .inr (.inl hr)
      · exact .inl hr
      · exact .inr (.inr hr)
    refine ⟨(o.dst, sv, rts, ks) :: l, by simp [h3], ⟨G, hG, hGle.trans (hmono (fun _ => true) rfl)⟩, fun k o' hk => ?_, fun k x hk => ?_⟩
    · cases k with
      | zero =>
        simp only [List.getElem?_cons_zero, Option.some.injEq] at hk
        subst hk
        refine ⟨sv, rts, ks, E.kp (lks ops.toList o), ⟨rfl, h2, ?_, kp_in E _, h21, h22, h0, hbx, fun j x hj hx t u r ht hr hrx => ?_⟩⟩
        · have e0 : ∀ (l : PL) (m : Nat) (E : Env), Ep l m (fun j => decide (j < 0)) E = E := by
            intro l
            induction l with
            | nil => intros; rfl
            | cons x r ih => intro m E; simp only [Ep]; rw [ih]; simp
          have e1 : ∀ (l : PL) (m : Nat) (r : Nat), Dl l m (fun j => decide (j < 0)) r = false := by
            intro l
            induction l with
            | nil => intros; rfl
            | cons x r ih => intro m y; simp only [Dl]; rw [ih]; simp
          rw [e0]
          refine (E.kp_le _).trans ⟨rfl, fun t u q => lkp_klS.2 ⟨q, ?_⟩, fun _ _ q => q, fun r y q => lkp_delD'.2 ⟨q, ?_⟩⟩
          · simp only [e1, Bool.false_or]
            exact hD1 t u q
          · simp only [e1, Bool.false_or]
            exact hD2 r y q
        · cases j with
          | zero => omega
          | succ j =>
            simp only [List.getElem?_cons_succ] at hx
            have h7 := h6 j x hx
            cases hq : bb with
            | false =>
              rw [h7.1 hq] at hrx
              cases hrx
            | true =>
              have h8 := h7.2 n ((E.kp (lks ops.toList o)).sl.flatMap fun x => x.2.nms) (by simp [hcons, hq]) r (List.mem_flatMap.2 ⟨(t, u), lkp_mem' ht, hr⟩) hrx
              rwa [show n + 1 + j = n + (j + 1) by omega] at h8
      | succ k =>
        simp only [List.getElem?_cons_succ] at hk
        obtain ⟨sv', rts', ks', Er, hs⟩ := h5 k o' hk
        refine ⟨sv', rts', ks', Er, ⟨by simpa using hs.at_, hs.step, ?_, ?_, hs.call, hs.fam, ?_, ?_, fun j x hj hx t u r ht hr hrx => ?_⟩⟩
        · have := hmono (fun j => decide (j < k + 1)) (by simp)
          have e : (fun j => decide (j + 1 < k + 1)) = (fun j => decide (j < k)) := by funext j; simp
          rw [e] at this
          exact hs.le.trans this
        · have := hs.inn
          rwa [kill_bx, hEbx] at this
        · have := hs.clr
          rwa [show n + 1 + k = n + (k + 1) by omega] at this
        · have := hs.bx
          rwa [kill_bx, hEbx] at this
        · cases j with
          | zero => omega
          | succ j =>
            have := hs.hist j x (by omega) (by simpa using hx) t u r ht hr hrx
            rwa [show n + 1 + k = n + (k + 1) by omega, show n + 1 + j = n + (j + 1) by omega] at this
    · cases k with
      | zero =>
        simp only [List.getElem?_cons_zero, Option.some.injEq] at hk
        subst hk
        exact ⟨hbb, hho⟩
      | succ k =>
        have h7 := h6 k x (by simpa using hk)
        refine ⟨h7.1, fun i ns hm r hr hrx => ?_⟩
        have h8 := h7.2 i ns (by
          unfold hcons
          split
          · exact List.mem_cons_of_mem _ hm
          · exact hm) r hr hrx
        rwa [show n + 1 + k = n + (k + 1) by omega] at h8
theorem Ep_rest : ∀ (l : PL) (k : Nat) (b : Nat → Bool) (E : Env), (Ep l k b E).nt = E.nt ∧ (Ep l k b E).bx = E.bx
  | [], _, _, _ => ⟨rfl, rfl⟩
  | x :: r, k, b, E => by
    simp only [Ep]
    obtain ⟨h1, h2⟩ := Ep_rest r (k + 1) b (if b k = true then (E.addR x.2.2.1).put x.1 x.2.1 else E)
    split at h1
    · rename_i hb
      rw [if_pos hb] at h2
      rw [if_pos hb]
      exact ⟨h1.trans put_rest.1, h2.trans put_rest.2.1⟩
    · rename_i hb
      rw [if_neg hb] at h2
      rw [if_neg hb]
      exact ⟨h1, h2⟩
/-- No two of them put into one slot. -/
def Apart (l : PL) : Prop := ∀ (i j : Nat) (x y : PE) (t : Nat), l[i]? = some x → l[j]? = some y → x.1 = some t → y.1 = some t → i = j
theorem Apart.tail {x : PE} {r : PL} (h : Apart (x :: r)) : Apart r := fun i j y z t h1 h2 h3 h4 => by
  have := h (i + 1) (j + 1) y z t (by simpa using h1) (by simpa using h2) h3 h4
  omega
theorem lkp_Ep_none : ∀ (l : PL) (k : Nat) (b : Nat → Bool) (E : Env) (t : Nat), (∀ (i : Nat) (x : PE), l[i]? = some x → x.1 ≠ some t) → lkp (Ep l k b E).sl t = lkp E.sl t
  | [], _, _, _, _, _ => rfl
  | x :: r, k, b, E, t, h => by
    simp only [Ep]
    rw [lkp_Ep_none r (k + 1) b _ t (fun i y hy => h (i + 1) y (by simpa using hy))]
    split
    · rw [lkp_put, if_neg (h 0 x rfl)]
      rfl
    · rfl
theorem lkp_Ep_some : ∀ (l : PL) (k : Nat) (b : Nat → Bool) (E : Env) (t i : Nat) (sv : SV) (rts : RT × List Nat), Apart l → l[i]? = some (some t, sv, rts) → lkp (Ep l k b E).sl t = if b (k + i) = true then (if t < E.nt then some sv else none) else lkp E.sl t
  | [], _, _, _, _, _, _, _, _, h => by simp at h
  | x :: r, k, b, E, t, 0, sv, rts, ha, h => by
    simp only [List.getElem?_cons_zero, Option.some.injEq] at h
    subst h
    simp only [Ep, Nat.add_zero]
    rw [lkp_Ep_none r (k + 1) b _ t (fun i y hy he => by
      have := ha 0 (i + 1) _ y t rfl (by simpa using hy) rfl he
      omega)]
    split
    · rw [lkp_put, if_pos rfl]
      rfl
    · rfl
  | x :: r, k, b, E, t, i + 1, sv, rts, ha, h => by
    simp only [List.getElem?_cons_succ] at h
    simp only [Ep]
    rw [lkp_Ep_some r (k + 1) b _ t i sv rts ha.tail h, show k + 1 + i = k + (i + 1) by omega]
    have hne : x.1 ≠ some t := fun he => by
      have := ha 0 (i + 1) x _ t rfl (by simpa using h) he rfl
      omega
    have h1 : lkp (if b k = true then (E.addR x.2.2.1).put x.1 x.2.1 else E).sl t = lkp E.sl t := by
      split
      · rw [lkp_put, if_neg hne]
        rfl
      · rfl
    have h2 : (if b k = true then (E.addR x.2.2.1).put x.1 x.2.1 else E).nt = E.nt := by
      split
      · exact put_rest.1
      · rfl
    rw [h1, h2]
theorem lkp_none_of {α : Type} {r : Nat} : ∀ {l : List (Nat × α)}, (∀ y, (r, y) ∉ l) → lkp l r = none
  | [], _ => rfl
  | (k, z) :: t, h => by
    simp only [lkp]
    rw [if_neg (fun e => h z (by simp [e])), lkp_none_of (fun y hy => h y (by simp [hy]))]
theorem lkp_mem {α : Type} {r : Nat} {y : α} : ∀ {l : List (Nat × α)}, lkp l r = some y → (r, y) ∈ l
  | [], h => by simp [lkp] at h
  | (k, z) :: t, h => by
    simp only [lkp] at h
    split at h
    · rename_i e
      cases h
      simp [e]
    · exact List.mem_cons_of_mem _ (lkp_mem h)
theorem rt_Ep : ∀ (l : PL) (k : Nat) (b b' : Nat → Bool) (E E' : Env) (r : Nat), lkp E.rt r = lkp E'.rt r → (∀ (i : Nat) (x : PE) (y : Md × Lf), l[i]? = some x → (r, y) ∈ x.2.2.1 → b (k + i) = b' (k + i)) →
    lkp (Ep l k b E).rt r = lkp (Ep l k b' E').rt r
  | [], _, _, _, _, _, _, h, _ => h
  | x :: t, k, b, b', E, E', r, h, hb => by
    simp only [Ep]
    refine rt_Ep t (k + 1) b b' _ _ r ?_ (fun i z y hz hy => ?_)
    · have e0 : ∀ E : Env, lkp ((E.addR x.2.2.1).put x.1 x.2.1).rt r = match lkp x.2.2.1 r with | some y => some y | none => lkp E.rt r := fun E => by
        rw [put_rest.2.2]
        simp only [Env.addR, lkp_app]
        cases lkp x.2.2.1 r <;> rfl
      cases hx : lkp x.2.2.1 r with
      | none =>
        have e1 : ∀ (E : Env) (c : Bool), lkp (if c = true then (E.addR x.2.2.1).put x.1 x.2.1 else E).rt r = lkp E.rt r := fun E c => by
          split
          · rw [e0, hx]
          · rfl
        rw [e1, e1]
        exact h
      | some y =>
        have := hb 0 x y rfl (lkp_mem hx)
        simp only [Nat.add_zero] at this
        rw [this]
        split
        · rw [e0, e0, hx]
        · exact h
    · have := hb (i + 1) z y (by simpa using hz) hy
      rwa [show k + (i + 1) = k + 1 + i by omega] at this
theorem rt_Ep_mem : ∀ (l : PL) (k : Nat) (b : Nat → Bool) (E : Env) (r : Nat) (y : Md × Lf), lkp (Ep l k b E).rt r = some y → (∃ (i : Nat) (x : PE), l[i]? = some x ∧ b (k + i) = true ∧ (r, y) ∈ x.2.2.1) ∨ lkp E.rt r = some y
  | [], _, _, _, _, _, h => .inr h
  | x :: t, k, b, E, r, y, h => by
    simp only [Ep] at h
    rcases rt_Ep_mem t (k + 1) b _ r y h with ⟨i, z, h1, h2, h3⟩ | h
    · exact .inl ⟨i + 1, z, by simpa using h1, by rwa [show k + (i + 1) = k + 1 + i by omega], h3⟩
    · split at h
      · rename_i hb
        rw [put_rest.2.2] at h
        simp only [Env.addR, lkp_app] at h
        cases hx : lkp x.2.2.1 r with
        | some z =>
          rw [hx] at h
          cases h
          exact .inl ⟨0, x, rfl, hb, lkp_mem hx⟩
        | none =>
          rw [hx] at h
          exact .inr h
      · exact .inr h

theorem rt_Ep_none : ∀ (l : PL) (k : Nat) (b : Nat → Bool) (E : Env) (r : Nat), (∀ (i : Nat) (x : PE) (y : Md × Lf), l[i]? = some x → (r, y) ∉ x.2.2.1) → lkp (Ep l k b E).rt r = lkp E.rt r
  | [], _, _, _, _, _ => rfl
  | x :: t, k, b, E, r, h => by
    simp only [Ep]
    rw [rt_Ep_none t (k + 1) b _ r (fun i z y hz => h (i + 1) z y (by simpa using hz))]
    split
    · rw [put_rest.2.2]
      simp only [Env.addR, lkp_app, lkp_none_of (fun y => h 0 x y rfl)]
    · rfl
theorem rt_Ep_at : ∀ (l : PL) (k : Nat) (b : Nat → Bool) (E : Env) (r i : Nat) (x : PE) (y : Md × Lf), l[i]? = some x → lkp x.2.2.1 r = some y → b (k + i) = true →
    (∀ (j : Nat) (z : PE) (u : Md × Lf), j ≠ i → l[j]? = some z → (r, u) ∉ z.2.2.1) → lkp (Ep l k b E).rt r = some y
  | [], _, _, _, _, _, _, _, h, _, _, _ => by simp at h
  | x :: t, k, b, E, r, 0, z, y, h, hy, hb, ho => by
    simp only [List.getElem?_cons_zero, Option.some.injEq] at h
    subst h
    simp only [Ep, Nat.add_zero] at hb ⊢
    rw [rt_Ep_none t (k + 1) b _ r (fun i z u hz => ho (i + 1) z u (by omega) (by simpa using hz)), if_pos hb, put_rest.2.2]
    simp only [Env.addR, lkp_app, hy]
  | x :: t, k, b, E, r, i + 1, z, y, h, hy, hb, ho => by
    simp only [Ep]
    exact rt_Ep_at t (k + 1) b _ r i z y (by simpa using h) hy (by rwa [show k + 1 + i = k + (i + 1) by omega]) (fun j z u hj hz => ho (j + 1) z u (by omega) (by simpa using hz))

/-- Only what is looked up counts. -/
theorem St.ext {E' : Env} (hs : St w0 tag0 E tag hv a w) (h0 : E'.nt = E.nt) (h1 : ∀ t, lkp E'.sl t = lkp E.sl t) (h2 : E'.bx = E.bx) (h3 : ∀ r, lkp E'.rt r = lkp E.rt r) : St w0 tag0 E' tag hv a w :=
  hs.weak h0 (fun t sv h => by rw [← h1 t]; exact h) (fun b ls h => by rw [← h2]; exact h) (fun r y h => by rw [← h3]; exact h)
theorem keepL_congr {α : Type} {l l' : List (Nat × α)} : ∀ {vs : List Nat}, (∀ t ∈ vs, lkp l t = lkp l' t) → keepL l vs = keepL l' vs
  | [], _ => rfl
  | t :: r, h => by
    simp only [keepL]
    rw [h t (by simp), keepL_congr (fun s hs => h s (by simp [hs]))]
end Go.Sm
