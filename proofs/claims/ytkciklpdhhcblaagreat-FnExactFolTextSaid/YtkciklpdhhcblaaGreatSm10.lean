import Derived.Test.YtkciklpdhhcblaaGreatSm9
/-
  Calls: what a function says to its callers ('VC'), and what a call makes of an environment.
-/
namespace Go.Sm
open Go.RowKit

variable {P : Program} {ti : TT} {E : Env} {tag tag' tag0 : Nat → Tag} {hv hv' : Hv} {a : Act} {w w' w0 : World} {t d : Nat}

/-- Only the call's own slices in it, no memory that others may see. -/
inductive Ow : Md → Lf → Prop
  | sc {v} : Ow .s (.sc v)
  | x {l} : Ow .x l
  | o {e cols z rows} (h : ∀ i j, i < rows.length → j < z.length → Ow (md cols i j) (lf z rows i j)) : Ow (.o e cols) (.ls z rows)

theorem VR.moveOw {p : List Nat} {m : Md} {l : Lf} {v : Value} (h : VR tag hv w p m l v) : Ow m l → ∀ p' : List Nat,
    (∀ rest, OwnIn m l rest → hv' (p' ++ rest) = hv (p ++ rest) ∧ ∀ b, tag b = .own (p ++ rest) → tag' b = .own (p' ++ rest) ∧ w'.heap[b]? = w.heap[b]?) → VR tag' hv' w' p' m l v := by
  induction h with
  | dead h1 => exact fun _ _ _ => .dead h1
  | sc h1 => exact fun _ _ _ => .sc h1
  | sh0 => intro ho; cases ho
  | sh => intro ho; cases ho
  | own0 hh =>
    intro _ p' ho
    have := (ho [] .here).1
    simp only [List.append_nil] at this
    exact .own0 (this.trans hh)
  | own cur hn hc hm ht hh hb hs hl hr ih =>
    intro hO p' ho
    cases hO with
    | o hO =>
    have h0 := ho [] .here
    simp only [List.append_nil] at h0
    have h2 := h0.2 _ ht
    refine .own cur hn hc hm h2.1 (h0.1.trans hh) (h2.2.trans hb) hs hl (fun i j hi hj => ih i j hi hj (hO i j (by omega) hj) _ (fun rest hrest => ?_))
    have := ho (i :: j :: rest) (.deep (by omega) hj hrest)
    simpa using this

/-! ### lending -/
def Env.shL (E : Env) : LV → Option (Prop × Lf)
  | .s l => some (True, l)
  | .n z => some (True, .ls z [])
  | .r p => match E.at_ p with
    | some (.o e cols, .ls z rows) => some (E.vld p ∧ Full (.o e cols) (.ls z rows), .ls z rows)
    | _ => none
  | .u => none
def Env.shLs (E : Env) : List LV → Option (Prop × List Lf)
  | [] => some (True, [])
  | y :: r => match E.shL y, E.shLs r with
    | some (C, l), some (D, ls) => some (C ∧ D, l :: ls)
    | _, _ => none
def Env.shP (E : Env) : PV → Option (Prop × List Lf)
  | .ps ds => some (True, ds)
  | .bx b off => match lkp E.bx b with
    | some ls => E.shLs (ls.drop off)
    | none => none
  | .pt _ _ _ _ => none
  | .vw _ _ _ _ => none
def Env.shPs (E : Env) : List PV → Option (Prop × List (List Lf))
  | [] => some (True, [])
  | y :: r => match E.shP y, E.shPs r with
    | some (C, l), some (D, ls) => some (C ∧ D, l :: ls)
    | _, _ => none
def Env.shS (E : Env) : SV → Option (Prop × SV)
  | .v ag ls => match E.shLs ls with
    | some (C, ds) => some (C, .v ag (ds.map .s))
    | none => none
  | .p q => match E.shP q with
    | some (C, ds) => some (C, .p (.ps ds))
    | none => none
  | .fn k caps => match E.shPs caps with
    | some (C, ds) => some (C, .fn k (ds.map .ps))
    | none => none
  | _ => none

/-- The names of what is lent. -/
def LV.nm : LV → List Nat
  | .r (k :: _) => [k]
  | _ => []
def Env.nmP (E : Env) : PV → List Nat
  | .ps _ => []
  | .bx b _ => b :: (match lkp E.bx b with | some ls => ls.flatMap LV.nm | none => [])
  | .pt (k :: _) _ _ _ => [k]
  | .pt [] _ _ _ => []
  | .vw (k :: _) _ _ _ => [k]
  | .vw [] _ _ _ => []
def Env.nm (E : Env) : SV → List Nat
  | .v _ ls => ls.flatMap LV.nm
  | .p q => E.nmP q
  | .fn _ caps => caps.flatMap E.nmP
  | _ => []

def lend (R : List Nat) (tag : Nat → Tag) : Nat → Tag := fun b => match tag b with
  | .own (k :: _) => if k ∈ R then .sh else .off
  | .own [] => .off
  | s => s

theorem lend_sh {R : List Nat} {b : Nat} (h : tag b = .sh) : lend R tag b = .sh := by simp [lend, h]
theorem lend_own {R : List Nat} {b k : Nat} {p : List Nat} (h : tag b = .own (k :: p)) (hk : k ∈ R) : lend R tag b = .sh := by simp [lend, h, hk]
theorem lend_cases (R : List Nat) (b : Nat) : lend R tag b = .sh ∨ lend R tag b = .off := by
  unfold lend
  split
  · split <;> simp
  · simp
  · rename_i h1 h2
    cases h : tag b with
    | sh => simp
    | off => simp
    | own p =>
      cases p with
      | nil => exact absurd h h2
      | cons k p => exact absurd h (h1 k p)

theorem shL_ok {R : List Nat} {y : LV} {C : Prop} {l : Lf} {v : Value} (hs : St w0 tag0 E tag hv a w) (h : E.shL y = some (C, l)) (hC : C) (hR : ∀ k ∈ y.nm, k ∈ R) (hy : LR tag hv w y v) : VR (lend R tag) hv' w [] .s l v := by
  cases y with
  | s l0 =>
    simp only [Env.shL, Option.some.injEq, Prod.mk.injEq] at h
    obtain ⟨rfl, rfl⟩ := h
    exact VR.move hy [] (fun b hb => ⟨lend_sh hb, rfl⟩) (fun rest hr => by cases hr)
  | n z =>
    simp only [Env.shL, Option.some.injEq, Prod.mk.injEq] at h
    obtain ⟨rfl, rfl⟩ := h
    rw [show v = .slice none 0 0 from hy]
    exact .sh0
  | u => simp [Env.shL] at h
  | r p =>
    simp only [Env.shL] at h
    split at h
    · rename_i e cols z rows hat
      cases h
      have h1 := at_own hs hat hC.1
      rw [hy.1]
      refine h1.share hC.2 (fun b hb => lend_sh hb) (fun rest b _ hb => ?_) []
      cases p with
      | nil => simp [Env.at_] at hat
      | cons k p => exact lend_own hb (hR k (by simp [LV.nm]))
    · cases h
theorem shLs_ok {R : List Nat} (hs : St w0 tag0 E tag hv a w) : ∀ {ls : List LV} {C : Prop} {ds : List Lf} {cs : List Value}, E.shLs ls = some (C, ds) → C → (∀ k ∈ ls.flatMap LV.nm, k ∈ R) → All2 (LR tag hv w) ls cs → All2 (fun l v => VR (lend R tag) hv' w [] .s l v) ds cs
  | [], C, ds, cs, h, hC, hR, hy => by
    simp only [Env.shLs, Option.some.injEq, Prod.mk.injEq] at h
    obtain ⟨rfl, rfl⟩ := h
    cases hy
    exact .nil
  | y :: r, C, ds, cs, h, hC, hR, hy => by
    simp only [Env.shLs] at h
    split at h
    · rename_i C1 l D1 ls h1 h2
      cases h
      cases hy with
      | cons hy hys => exact .cons (shL_ok hs h1 hC.1 (fun k hk => hR k (by simp [hk])) hy) (shLs_ok hs h2 hC.2 (fun k hk => hR k (by rw [List.flatMap_cons]; exact List.mem_append_right _ hk)) hys)
    · cases h
theorem shP_ok {R : List Nat} {q : PV} {C : Prop} {ds : List Lf} {v : Value} (hs : St w0 tag0 E tag hv a w) (h : E.shP q = some (C, ds)) (hC : C) (hR : ∀ k ∈ E.nmP q, k ∈ R) (hq : PR tag hv w q v) : PR (lend R tag) hv' w (.ps ds) v := by
  cases q with
  | ps ds0 =>
    simp only [Env.shP, Option.some.injEq, Prod.mk.injEq] at h
    obtain ⟨rfl, rfl⟩ := h
    obtain ⟨b, off, h1, h2, h3⟩ := hq
    refine ⟨b, off, h1, lend_sh h2, fun j hj => ?_⟩
    obtain ⟨u, hu, hr⟩ := h3 j hj
    exact ⟨u, hu, hr.move [] (fun b hb => ⟨lend_sh hb, rfl⟩) (fun rest hr => by cases hr)⟩
  | pt p sz i off => simp [Env.shP] at h
  | vw p sz lo n => simp [Env.shP] at h
  | bx b off =>
    simp only [Env.shP] at h
    split at h
    · rename_i ls hb
      obtain ⟨k, h1, rfl⟩ := hq
      obtain ⟨k', cur, e, h2, h3, h4, h5⟩ := hs.bx b ls hb
      rw [h1] at h2
      cases h2
      have hall := shLs_ok (hv' := hv') (R := R) hs h hC (fun k hk => hR k (by
        obtain ⟨x, hx, hk2⟩ := List.mem_flatMap.1 hk
        simp only [Env.nmP, hb]
        exact List.mem_cons_of_mem _ (List.mem_flatMap.2 ⟨x, List.mem_of_mem_drop hx, hk2⟩))) (h5.drop off)
      refine ⟨k, off, rfl, lend_own h3 (hR b (by simp [Env.nmP])), fun j hj => ?_⟩
      have hl := hall.len
      have hj2 : j < (cur.toList.drop off).length := by omega
      refine ⟨(cur.toList.drop off)[j], ?_, hall.get j _ _ (by rw [List.getD_eq_getElem?_getD, List.getElem?_eq_getElem hj]; rfl) (List.getElem?_eq_getElem hj2)⟩
      have h6 : (cur.toList.drop off)[j]? = some (cur.toList.drop off)[j] := List.getElem?_eq_getElem hj2
      rw [List.getElem?_drop, Array.getElem?_toList] at h6
      simp only [World.cell?, h4, Option.isSome_none, Bool.false_eq_true, if_false]
      exact h6
    · cases h
theorem shPs_ok {R : List Nat} (hs : St w0 tag0 E tag hv a w) : ∀ {qs : List PV} {C : Prop} {ds : List (List Lf)} {cs : List Value}, E.shPs qs = some (C, ds) → C → (∀ k ∈ qs.flatMap E.nmP, k ∈ R) → All2 (PR tag hv w) qs cs → All2 (PR (lend R tag) hv' w) (ds.map .ps) cs
  | [], C, ds, cs, h, hC, hR, hy => by
    simp only [Env.shPs, Option.some.injEq, Prod.mk.injEq] at h
    obtain ⟨rfl, rfl⟩ := h
    cases hy
    exact .nil
  | y :: r, C, ds, cs, h, hC, hR, hy => by
    simp only [Env.shPs] at h
    split at h
    · rename_i C1 l D1 ls h1 h2
      cases h
      cases hy with
      | cons hy hys => exact .cons (shP_ok hs h1 hC.1 (fun k hk => hR k (by simp [hk])) hy) (shPs_ok hs h2 hC.2 (fun k hk => hR k (by rw [List.flatMap_cons]; exact List.mem_append_right _ hk)) hys)
    · cases h
theorem shS_ok {R : List Nat} {sv sv' : SV} {C : Prop} {v : Value} (hs : St w0 tag0 E tag hv a w) (h : E.shS sv = some (C, sv')) (hC : C) (hR : ∀ k ∈ E.nm sv, k ∈ R) (hv0 : SR tag hv w sv v) : SR (lend R tag) hv' w sv' v := by
  cases sv with
  | v ag ls =>
    simp only [Env.shS] at h
    split at h
    · rename_i C1 ds h1
      cases h
      obtain ⟨cs, h2, h3, h4⟩ := hv0
      have := shLs_ok (hv' := hv') hs h1 hC hR h3
      refine ⟨cs, h2, All2.map_left (f := LV.s) (R := LR (lend R tag) hv' w) this, fun hf => ?_⟩
      have h5 := h4 hf
      rw [List.length_map, this.len, ← h3.len]
      exact h5
    · cases h
  | p q =>
    simp only [Env.shS] at h
    split at h
    · rename_i C1 ds h1
      cases h
      exact shP_ok hs h1 hC hR hv0
    · cases h
  | fn k caps =>
    simp only [Env.shS] at h
    split at h
    · rename_i C1 ds h1
      cases h
      obtain ⟨vs, h2, h3⟩ := hv0
      exact ⟨vs, h2, shPs_ok hs h1 hC hR h3⟩
    · cases h
  | dead => simp [Env.shS] at h
  | tu parts => simp [Env.shS] at h
  | g c s => simp [Env.shS] at h
  | pin r x => simp [Env.shS] at h

/-! ### what a call answers -/
abbrev ML := List (Md × Lf)
def RC (tag : Nat → Tag) (hv : Hv) (w : World) : Nat → ML → List Value → Prop
  | _, [], [] => True
  | b, (m, l) :: r, c :: cs => VR tag hv w [b] m l c ∧ RC tag hv w (b + 1) r cs
  | _, _, _ => False
def RVs (tag : Nat → Tag) (hv : Hv) (w : World) : Nat → List (Bool × ML) → List Value → Prop
  | _, [], [] => True
  | b, (ag, ml) :: ps, v :: vs => (∃ cs, v = mkV ag cs ∧ RC tag hv w b ml cs ∧ (ag = false → ml.length = 1)) ∧ RVs tag hv w (b + ml.length) ps vs
  | _, _, _ => False
def RV (tag : Nat → Tag) (hv : Hv) (w : World) (rs : List (Bool × ML)) (rv : Value) : Prop :=
  match rs with
  | [p] => RVs tag hv w 0 [p] [rv]
  | ps => ∃ vs, rv = .tuple vs.toArray ∧ RVs tag hv w 0 ps vs

/-- Function f, called with what reads as 'as', answers what reads as 'rs', and leaves all memory as it was. -/
def VC (P : Program) (f : FuncId) (as : List SV) (rs : List (Bool × ML)) : Prop :=
  (∃ fn c, P.funcs[f]? = some fn ∧ fn.body = some c ∧ (fn.name == "runtime.NumGoroutine") = false) ∧
  ∀ (w : World) (tag : Nat → Tag) (hv : Hv) (vs : List Value), (∀ b, tag b = .sh ∨ tag b = .off) → (∀ b, w.heap.size ≤ b → tag b = .off) → All2 (SR tag hv w) as vs →
    Calls P f vs.toArray w fun e w' => ∃ tag' hv' rv, e = .returned rv ∧ Fr w tag tag' w' ∧ (∀ b, w'.heap.size ≤ b → tag' b = .off) ∧ RV tag' hv' w' rs rv

def OwML (ml : ML) : Prop := ∀ x ∈ ml, Ow x.1 x.2
def OwRs (rs : List (Bool × ML)) : Prop := ∀ q ∈ rs, OwML q.2

def resL (d : Nat) : Nat → ML → List LV
  | _, [] => []
  | b, (.s, l) :: r => .s l :: resL d (b + 1) r
  | b, (.x, _) :: r => .u :: resL d (b + 1) r
  | b, (.o _ _, _) :: r => .r [d + 1000 * b] :: resL d (b + 1) r
def resR (d : Nat) : Nat → ML → List (Nat × Md × Lf)
  | _, [] => []
  | b, (.o e cols, l) :: r => (d + 1000 * b, .o e cols, l) :: resR d (b + 1) r
  | b, _ :: r => resR d (b + 1) r
def resPs (d : Nat) : Nat → List (Bool × ML) → List (Bool × List LV)
  | _, [] => []
  | b, (ag, ml) :: r => (ag, resL d b ml) :: resPs d (b + ml.length) r
def resRs (d : Nat) : Nat → List (Bool × ML) → List (Nat × Md × Lf)
  | _, [] => []
  | b, (_, ml) :: r => resR d b ml ++ resRs d (b + ml.length) r
def resS (d : Nat) (rs : List (Bool × ML)) : SV :=
  match rs with
  | [(ag, ml)] => .v ag (resL d 0 ml)
  | ps => .tu (resPs d 0 ps)
def Env.ret (E : Env) (d : Nat) (rs : List (Bool × ML)) : Env := { E.fresh (fam d) with rt := resRs d 0 rs ++ (E.fresh (fam d)).rt }

/-! ### behind a call -/
def tagN (tag tag' : Nat → Tag) (sz d : Nat) : Nat → Tag := fun b =>
  if b < sz then tag b else match tag' b with
    | .own (r :: rest) => .own ((d + 1000 * r) :: rest)
    | .own [] => .off
    | s => s
def hvN (hv hv' : Hv) (d : Nat) : Hv := fun p => match p with
  | r :: rest => if fam d r = true then hv' ((r / 1000) :: rest) else hv (r :: rest)
  | [] => hv []

section
variable {R : List Nat}
theorem hvN_new (hd : d < 1000) (b : Nat) (rest : List Nat) : hvN hv hv' d ((d + 1000 * b) :: rest) = hv' (b :: rest) := by
  simp only [hvN, fam, beq_iff_eq]
  rw [if_pos (by omega), show (d + 1000 * b) / 1000 = b by omega]

/-- An answer's cell, under its name in the caller's environment. -/
theorem res_move {b : Nat} {m : Md} {l : Lf} {v : Value} (hd : d < 1000) (hfr : Fr w (lend R tag) tag' w') (hR : R = [] ∨ Ow m l) (h : VR tag' hv' w' [b] m l v) :
    VR (tagN tag tag' w.heap.size d) (hvN hv hv' d) w' [d + 1000 * b] m l v := by
  have hown : ∀ rest, hvN hv hv' d ([d + 1000 * b] ++ rest) = hv' ([b] ++ rest) ∧ ∀ b', tag' b' = .own ([b] ++ rest) → tagN tag tag' w.heap.size d b' = .own ([d + 1000 * b] ++ rest) ∧ w'.heap[b']? = w'.heap[b']? := by
    intro rest
    refine ⟨hvN_new hd b rest, fun b' hb' => ⟨?_, rfl⟩⟩
    simp only [tagN]
    split
    · rename_i hlt
      have h1 := (hfr.heap b' hlt (lend_cases R b')).2
      rcases lend_cases R b' with h2 | h2 <;> rw [h1, h2] at hb' <;> cases hb'
    · rw [hb']
      rfl
  rcases hR with hR | hR
  · refine h.move _ (fun b' hb' => ⟨?_, rfl⟩) (fun rest _ => hown rest)
    simp only [tagN]
    split
    · rename_i hlt
      have h1 := (hfr.heap b' hlt (lend_cases R b')).2
      rw [hb'] at h1
      subst hR
      unfold lend at h1
      split at h1
      · simp at h1
      · cases h1
      · exact h1.symm
    · rw [hb']
  · exact h.moveOw hR _ (fun rest _ => hown rest)
theorem res_sh {l : Lf} {v : Value} {p : List Nat} (h : VR tag hv w p .s l v) : VR tag hv' w [] .s l v := h.move [] (fun _ hb => ⟨hb, rfl⟩) (fun rest hr => by cases hr)

theorem resL_ok (hd : d < 1000) (hfr : Fr w (lend R tag) tag' w') : ∀ {b : Nat} {ml : ML} {cs : List Value}, (R = [] ∨ OwML ml) → RC tag' hv' w' b ml cs → All2 (LR (tagN tag tag' w.heap.size d) (hvN hv hv' d) w') (resL d b ml) cs
  | b, [], [], _, _ => .nil
  | b, [], _ :: _, _, h => by simp [RC] at h
  | b, _ :: _, [], _, h => by simp [RC] at h
  | b, (m, l) :: r, c :: cs, hR, h => by
    simp only [RC] at h
    have h1 := res_move (hv := hv) hd hfr (hR.imp id fun ho => ho (m, l) (by simp)) h.1
    have h2 := resL_ok hd hfr (hR.imp id fun ho x hx => ho x (by simp [hx])) h.2
    cases m with
    | s => exact .cons (res_sh h1) h2
    | x => exact .cons h1.one h2
    | o e cols =>
      cases l with
      | sc u => cases h1
      | ls z rows =>
        refine .cons ?_ h2
        obtain ⟨h3, h4⟩ := h1.open_own
        refine ⟨h3.symm, ?_⟩
        rcases h4 with ⟨h5, _⟩ | ⟨_, _, _, h5, _⟩ <;> exact ⟨_, _, _, h5⟩
theorem resR_ok (hd : d < 1000) (hfr : Fr w (lend R tag) tag' w') : ∀ {b : Nat} {ml : ML} {cs : List Value}, (R = [] ∨ OwML ml) → RC tag' hv' w' b ml cs → ∀ x ∈ resR d b ml, VR (tagN tag tag' w.heap.size d) (hvN hv hv' d) w' [x.1] x.2.1 x.2.2 (hvN hv hv' d [x.1])
  | b, [], [], _, _ => by simp [resR]
  | b, [], _ :: _, _, h => by simp [RC] at h
  | b, _ :: _, [], _, h => by simp [RC] at h
  | b, (m, l) :: r, c :: cs, hR, h => by
    simp only [RC] at h
    have h1 := res_move (hv := hv) hd hfr (hR.imp id fun ho => ho (m, l) (by simp)) h.1
    have h2 := resR_ok hd hfr (hR.imp id fun ho x hx => ho x (by simp [hx])) h.2
    intro x hx
    cases m with
    | s => exact h2 x hx
    | x => exact h2 _ hx
    | o e cols =>
      simp only [resR, List.mem_cons] at hx
      rcases hx with rfl | hx
      · cases l with
        | sc u => cases h1
        | ls z rows =>
          have := h1.open_own.1
          simp only
          rw [this]
          exact h1
      · exact h2 x hx
theorem resPs_ok (hd : d < 1000) (hfr : Fr w (lend R tag) tag' w') : ∀ {b : Nat} {ps : List (Bool × ML)} {vs : List Value}, (R = [] ∨ OwRs ps) → RVs tag' hv' w' b ps vs → All2 (fun (q : Bool × List LV) u => VV (tagN tag tag' w.heap.size d) (hvN hv hv' d) w' q.1 q.2 u) (resPs d b ps) vs ∧
    ∀ x ∈ resRs d b ps, VR (tagN tag tag' w.heap.size d) (hvN hv hv' d) w' [x.1] x.2.1 x.2.2 (hvN hv hv' d [x.1])
  | b, [], [], _, _ => ⟨.nil, by simp [resRs]⟩
  | b, [], _ :: _, _, h => by simp [RVs] at h
  | b, _ :: _, [], _, h => by simp [RVs] at h
  | b, (ag, ml) :: r, v :: vs, hR, h => by
    simp only [RVs] at h
    obtain ⟨⟨cs, h1, h2, h3⟩, h4⟩ := h
    have hm : R = [] ∨ OwML ml := hR.imp id fun ho => ho (ag, ml) (by simp)
    have ih := resPs_ok hd hfr (hR.imp id fun ho x hx => ho x (by simp [hx])) h4
    refine ⟨.cons ⟨cs, h1, resL_ok hd hfr hm h2, fun hf => ?_⟩ ih.1, fun x hx => ?_⟩
    · have : ∀ b (ml : ML), (resL d b ml).length = ml.length := by
        intro b ml
        induction ml generalizing b with
        | nil => rfl
        | cons y r ih =>
          obtain ⟨m, l⟩ := y
          cases m <;> simp [resL, ih]
      rw [this]
      exact h3 hf
    · simp only [resRs, List.mem_append] at hx
      rcases hx with hx | hx
      · exact resR_ok hd hfr hm h2 x hx
      · exact ih.2 x hx
theorem lkp_append {α : Type} (l2 : List (Nat × α)) (t : Nat) (y : α) : ∀ l1 : List (Nat × α), lkp (l1 ++ l2) t = some y → (∃ x ∈ l1, x = (t, y)) ∨ lkp l2 t = some y
  | [], h => .inr h
  | (k, x) :: r, h => by
    simp only [List.cons_append, lkp] at h
    split at h
    · rename_i he
      cases h
      subst he
      exact .inl ⟨_, by simp, rfl⟩
    · rcases lkp_append l2 t y r h with ⟨z, h1, h2⟩ | h1
      · exact .inl ⟨z, by simp [h1], h2⟩
      · exact .inr h1
theorem resRs_fam (hd : d < 1000) : ∀ (b : Nat) (ps : List (Bool × ML)), ∀ x ∈ resRs d b ps, fam d x.1 = true := by
  have h1 : ∀ (b : Nat) (ml : ML), ∀ x ∈ resR d b ml, fam d x.1 = true := by
    intro b ml
    induction ml generalizing b with
    | nil => simp [resR]
    | cons y r ih =>
      obtain ⟨m, l⟩ := y
      intro x hx
      cases m with
      | s => exact ih _ x hx
      | x => exact ih _ _ hx
      | o e cols =>
        simp only [resR, List.mem_cons] at hx
        rcases hx with rfl | hx
        · simp only [fam, beq_iff_eq]; omega
        · exact ih _ x hx
  intro b ps
  induction ps generalizing b with
  | nil => simp [resRs]
  | cons y r ih =>
    obtain ⟨ag, ml⟩ := y
    intro x hx
    simp only [resRs, List.mem_append] at hx
    rcases hx with hx | hx
    · exact h1 _ _ x hx
    · exact ih _ x hx

theorem St.ret {rs : List (Bool × ML)} {rv : Value} (hs : St w0 tag0 E tag hv a w) (hd : d < 1000) (hfr : Fr w (lend R tag) tag' w') (hi' : ∀ b, w'.heap.size ≤ b → tag' b = .off) (hR : R = [] ∨ OwRs rs) (hrv : RV tag' hv' w' rs rv) :
    ∃ tg hh, St w0 tag0 (E.ret d rs) tg hh a w' ∧ SR tg hh w' (resS d rs) rv := by
  have hop : Hop (fam d) tag (tagN tag tag' w.heap.size d) hv (hvN hv hv' d) w w' := by
    refine ⟨fun b hb h => ⟨by simp [tagN, hb, h], (hfr.heap b hb (lend_cases R b)).1⟩, fun b r p hb h _ => ⟨by simp [tagN, hb, h], (hfr.heap b hb (lend_cases R b)).1⟩, fun r p hr => ?_⟩
    simp [hvN, hr]
  have hF : Fr w0 tag0 (tagN tag tag' w.heap.size d) w' := hs.fr.step hfr.os hfr.tape hfr.output hfr.size fun b hb _ => ⟨(hfr.heap b hb (lend_cases R b)).1, by simp [tagN, hb]⟩
  have h1 := hs.hop hop hF (fun b hb => by
    have hlt : ¬ b < w.heap.size := by have := hfr.size; omega
    simp [tagN, hlt, hi' b hb])
  have key : ∃ ps vs, RVs tag' hv' w' 0 ps vs ∧ (rs = ps) ∧ ((rs.length = 1 ∧ vs = [rv]) ∨ (rs.length ≠ 1 ∧ rv = .tuple vs.toArray)) := by
    unfold RV at hrv
    split at hrv
    · exact ⟨_, _, hrv, rfl, .inl ⟨rfl, rfl⟩⟩
    · rename_i h9
      obtain ⟨vs, h2, h3⟩ := hrv
      refine ⟨_, vs, h3, rfl, .inr ⟨fun hl => ?_, h2⟩⟩
      match rs, hl, h9 with
      | [p], _, h9 => exact h9 p rfl
  obtain ⟨ps, vs, h2, rfl, h3⟩ := key
  have h4 := resPs_ok (hv := hv) hd hfr hR h2
  refine ⟨_, _, ⟨h1.nt, h1.df, h1.sl, h1.bx, fun r x hl => ?_, h1.fr, h1.hi⟩, ?_⟩
  · rcases lkp_append _ _ _ _ hl with ⟨y, hy, rfl⟩ | hl
    · exact h4.2 _ hy
    · exact h1.rt r x hl
  · unfold resS
    split
    · rename_i ag ml
      rcases h3 with ⟨_, rfl⟩ | ⟨h5, _⟩
      · have := h4.1
        simp only [resPs] at this
        cases this with
        | cons h hs => exact h
      · simp at h5
    · rename_i h9
      rcases h3 with ⟨h5, _⟩ | ⟨_, rfl⟩
      · match rs, h5, h9 with
        | [(ag, ml)], _, h9 => exact absurd rfl (h9 ag ml)
      · exact ⟨vs, rfl, h4.1⟩
end
end Go.Sm
