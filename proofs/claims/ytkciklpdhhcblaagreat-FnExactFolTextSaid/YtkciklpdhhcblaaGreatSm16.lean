import Derived.Test.YtkciklpdhhcblaaGreatSm15
/-
  Code: 'ew'; and 'VC' out of it.
-/
namespace Go.Sm
open Go.RowKit
set_option linter.unusedVariables false
set_option linter.unusedSimpArgs false

variable {P : Program} {ti : TT} {E : Env} {tag tag' tag0 : Nat → Tag} {hv hv' : Hv} {a : Act} {w w' w0 : World} {t d : Nat}

/-- What one environment says, the other says too (by names of its own). -/
def Gh (E E' : Env) : Prop := ∀ w0 tag0 tag hv a w, St w0 tag0 E tag hv a w → ∃ tag' hv', St w0 tag0 E' tag' hv' a w
theorem Gh.refl (E : Env) : Gh E E := fun _ _ tag hv _ _ h => ⟨tag, hv, h⟩
theorem Gh.trans {E1 E2 E3 : Env} (h : Gh E1 E2) (h' : Gh E2 E3) : Gh E1 E3 := fun w0 tag0 tag hv a w hs => by
  obtain ⟨t1, h1, hs1⟩ := h w0 tag0 tag hv a w hs
  exact h' w0 tag0 t1 h1 a w hs1
theorem Gh.keep (E : Env) (vs : List Nat) : Gh E (E.keep vs) := fun _ _ tag hv _ _ h => ⟨tag, hv, h.keep vs⟩

/-- The last operation, where it is a store; the others. -/
def lastSt : List Oper → Option Oper
  | [] => none
  | [o] => match o.op with
    | .store _ _ _ => some o
    | _ => none
  | _ :: y :: r => lastSt (y :: r)
def initL : List Oper → List Oper
  | [] => []
  | [_] => []
  | x :: y :: r => x :: initL (y :: r)
theorem lastSt_eq : ∀ {l : List Oper} {st : Oper}, lastSt l = some st → l = initL l ++ [st]
  | [], _, h => by cases h
  | [o], st, h => by
    simp only [lastSt] at h
    split at h
    · cases h; rfl
    · cases h
  | x :: y :: r, st, h => by
    simp only [lastSt] at h
    have := lastSt_eq h
    simp only [initL, List.cons_append]
    rw [← this]
/-- A store and a last operation behind it, both behind all others; the others. -/
def lastSA : List Oper → Option (Oper × Oper)
  | [] => none
  | [_] => none
  | [o, p] => match o.op, p.op with
    | .store _ _ _, .assign _ => some (o, p)
    | _, _ => none
  | _ :: y :: z :: r => lastSA (y :: z :: r)
theorem lastSA_eq : ∀ {l : List Oper} {st as : Oper}, lastSA l = some (st, as) → l = initL (initL l) ++ [st, as]
  | [], _, _, h => by cases h
  | [_], _, _, h => by cases h
  | [o, p], st, as, h => by
    simp only [lastSA] at h
    split at h
    · cases h; rfl
    · cases h
  | x :: y :: z :: r, st, as, h => by
    simp only [lastSA] at h
    have := lastSA_eq h
    simp only [initL, List.cons_append] at this ⊢
    rw [← this]
def kTail2 (P : Program) (ti : TT) (st as : Oper) (K : Env → Prop) : Env → Prop := fun E => evU P ti st (fun E => evU P ti as K E) E
def kTail (P : Program) (ti : TT) (st : Oper) (K : Env → Prop) : Env → Prop := fun E => evU P ti st K E
def ew (P : Program) (ti : TT) (vs : List Nat) : Code → (Exit → Env → Prop) → Env → Prop
  | .skip, Q, E => Q .normal E
  | .region _ ops draw, Q, E => match draw with
    | true => match lastSA ops.toList with
      | some (st, as) => evD P ti (kilB (initL (initL ops.toList))) (initL (initL ops.toList)) (initL (initL ops.toList)) 0 (kTail2 P ti st as (fun E => Q .normal (E.keep vs))) [] [] (E.fresh (famA (initL (initL ops.toList))))
      | none => match lastSt ops.toList with
      | some st => evD P ti (kilB (initL ops.toList)) (initL ops.toList) (initL ops.toList) 0 (kTail P ti st (fun E => Q .normal (E.keep vs))) [] [] (E.fresh (famA (initL ops.toList)))
      | none => evD P ti (kilB ops.toList) ops.toList ops.toList 0 (fun E => Q .normal (E.keep vs)) [] [] (E.fresh (famA ops.toList))
    | false => ev P ti ops.toList ops.toList (fun E => Q .normal (E.keep vs)) E
  | .seq x y, Q, E => ew P ti vs x (fun e E' => match e with | .normal => ew P ti vs y Q E' | e => Q e E') E
  | .cond c x y, Q, E => match opd ti E 0 c with
    | some (.v false [.s (.sc (.bool b))]) => (b = true → ew P ti vs x Q E) ∧ (b = false → ew P ti vs y Q E)
    | _ => False
  | .block id c, Q, E => ew P ti vs c (fun e E' => match e with | .exit i => if i = id then Q .normal E' else Q (.exit i) E' | e => Q e E') E
  | .loop c, Q, E => ∃ (I : Env → Prop) (μ : Env → Nat), (∃ E', Gh E E' ∧ I E') ∧ ∀ E1, I E1 → ew P ti vs c (fun e E' => match e with | .normal => ∃ E2, Gh E' E2 ∧ I E2 ∧ μ E2 < μ E1 | e => Q e E') E1
  | .exit i, Q, E => Q (.exit i) E
  | .ret, Q, E => Q .ret E
  | _, _, _ => False

/-- Regions of open order are such that the order says nothing. -/
def codeOk : Code → Bool
  | .region _ ops true => match lastSA ops.toList with
    | some (st, as) => drawOk (initL (initL ops.toList)) && ((tailOk (initL (initL ops.toList)) st || looseOk (initL (initL ops.toList)) st) && (edgB (initL (initL ops.toList) ++ [st]) && tailOk (initL (initL ops.toList) ++ [st]) as))
    | none => match lastSt ops.toList with
    | some st => drawOk (initL ops.toList) && tailOk (initL ops.toList) st
    | none => drawOk ops.toList
  | .seq x y => codeOk x && codeOk y
  | .cond _ x y => codeOk x && codeOk y
  | .block _ c => codeOk c
  | .loop c => codeOk c
  | _ => true
theorem min_ex {p : Nat → Prop} : ∀ n, p n → ∃ m, p m ∧ ∀ k, k < m → ¬ p k := by
  intro n
  induction n using Nat.strongRecOn with
  | _ n ih =>
    intro h
    by_cases hx : ∃ k, k < n ∧ p k
    · obtain ⟨k, h1, h2⟩ := hx
      exact ih k h1 h2
    · exact ⟨n, h, fun k hk hp => hx ⟨k, hk, hp⟩⟩

open Classical in
theorem ew_ok (hT : TGood P ti) (hm : P.follows .mixedOrders = true) (vs : List Nat) : ∀ (c : Code) (Q : Exit → Env → Prop) (R : Exit → Act → World → Prop) {E : Env} {tag : Nat → Tag} {hv : Hv} {a : Act} {w : World}, codeOk c = true →
    St w0 tag0 E tag hv a w → ew P ti vs c Q E → (∀ e E' tag' hv' a' w', St w0 tag0 E' tag' hv' a' w' → Q e E' → R e a' w') → c.wp P R a w := by
  intro c
  induction c with
  | skip => exact fun Q R _ _ _ _ _ _ hs h hR => wp_skip (hR _ _ _ _ _ _ hs h)
  | region id ops draw =>
    intro Q R E tag hv a w hok hs h hR
    cases draw with
    | true =>
      simp only [ew] at h
      simp only [codeOk] at hok
      split at h
      · rename_i st as hst
        rw [hst] at hok
        simp only [Bool.and_eq_true] at hok
        have he : ops = ((initL (initL ops.toList)).toArray.push st).push as := by
          apply Array.ext'
          rw [Array.toList_push, Array.toList_push, List.append_assoc]
          exact lastSA_eq hst
        rw [he]
        rcases Bool.or_eq_true_iff.1 hok.2.1 with h21 | h21
        · exact evD_tail2 hT hm hok.1 h21 (by rw [Array.toList_push]; exact hok.2.2.1) (by rw [Array.toList_push]; exact hok.2.2.2) h hs (fun E' tag' hv' a' w' hs' hk => hR _ _ _ _ _ _ (hs'.keep vs) hk)
        · exact evD_tailL hT hm hok.1 h21 (by rw [Array.toList_push]; exact hok.2.2.1) (by rw [Array.toList_push]; exact hok.2.2.2) h hs (fun E' tag' hv' a' w' hs' hk => hR _ _ _ _ _ _ (hs'.keep vs) hk)
      rename_i hsa
      rw [hsa] at hok
      simp only at hok
      split at h
      · rename_i st hst
        rw [hst] at hok
        simp only [Bool.and_eq_true] at hok
        have he : ops = (initL ops.toList).toArray.push st := by
          apply Array.ext'
          rw [Array.toList_push]
          exact lastSt_eq hst
        rw [he]
        exact evD_tail hT hm hok.1 hok.2 h hs (fun E' tag' hv' a' w' hs' hk => hR _ _ _ _ _ _ (hs'.keep vs) hk)
      · rename_i hst
        rw [hst] at hok
        exact evD_region hT hm hok h hs (fun E' tag' hv' a' w' hs' hk => hR _ _ _ _ _ _ (hs'.keep vs) hk)
    | false =>
      simp only [ew] at h
      exact wp_region_list (ev_ok hT ops ops.toList hs h (fun E' tag' hv' a' w' hs' hk => hR _ _ _ _ _ _ (hs'.keep vs) hk))
  | seq x y ihx ihy =>
    intro Q R E tag hv a w hok hs h hR
    simp only [ew] at h
    simp only [codeOk, Bool.and_eq_true] at hok
    refine wp_seq (ihx _ _ hok.1 hs h (fun e E' tag' hv' a' w' hs' hk => ?_))
    cases e with
    | normal => exact ihy Q R hok.2 hs' hk hR
    | _ => exact hR _ _ _ _ _ _ hs' hk
  | cond c x y ihx ihy =>
    intro Q R E tag hv a w hok hs h hR
    simp only [ew] at h
    split at h
    · rename_i b hc
      have hb := SR_bool (opd_ok hs hc)
      simp only [codeOk, Bool.and_eq_true] at hok
      refine wp_cond hb ?_
      cases b with
      | true => exact ihx Q R hok.1 hs (h.1 rfl) hR
      | false => exact ihy Q R hok.2 hs (h.2 rfl) hR
    · exact h.elim
  | block id c ih =>
    intro Q R E tag hv a w hok hs h hR
    simp only [ew] at h
    refine wp_block (ih _ _ hok hs h (fun e E' tag' hv' a' w' hs' hk => ?_))
    cases e with
    | exit i =>
      simp only [Exit.inBlock]
      by_cases hi : i = id
      · simp only [hi, if_true] at hk ⊢
        exact hR _ _ _ _ _ _ hs' hk
      · simp only [hi, if_false] at hk ⊢
        exact hR _ _ _ _ _ _ hs' hk
    | _ => exact hR _ _ _ _ _ _ hs' hk
  | loop c ih =>
    intro Q R E tag hv a w hok hs h hR
    simp only [ew] at h
    obtain ⟨I, μ, ⟨E0, hg, hI⟩, hround⟩ := h
    obtain ⟨t1, h1, hs1⟩ := hg _ _ _ _ _ _ hs
    let p : Act → World → Nat → Prop := fun a w n => ∃ E tag hv, St w0 tag0 E tag hv a w ∧ I E ∧ μ E = n
    have hmin : ∀ a w, (∃ n, p a w n) → ∃ m, p a w m ∧ ∀ k, k < m → ¬ p a w k := fun a w ⟨n, hn⟩ => min_ex n hn
    refine wp_loop (fun a w => ∃ n, p a w n) (fun a w => if hx : ∃ n, p a w n then (hmin a w hx).choose else 0) ⟨_, E0, t1, h1, hs1, hI, rfl⟩ ?_
    intro a w hx
    obtain ⟨⟨E1, tg, hh, hs2, hI2, hmu⟩, hlow⟩ := (hmin a w hx).choose_spec
    refine ih _ _ hok hs2 (hround E1 hI2) (fun e E' tag' hv' a' w' hs' hk => ?_)
    cases e with
    | normal =>
      obtain ⟨E2, hg2, hI3, hlt⟩ := hk
      obtain ⟨t3, h3, hs3⟩ := hg2 _ _ _ _ _ _ hs'
      have hx' : ∃ n, p a' w' n := ⟨_, E2, t3, h3, hs3, hI3, rfl⟩
      refine ⟨hx', ?_⟩
      rw [dif_pos hx', dif_pos hx]
      have hle : (hmin a' w' hx').choose ≤ μ E2 := by
        rcases Nat.lt_or_ge (μ E2) (hmin a' w' hx').choose with hlt2 | hge
        · exact absurd ⟨E2, t3, h3, hs3, hI3, rfl⟩ ((hmin a' w' hx').choose_spec.2 _ hlt2)
        · exact hge
      omega
    | _ => exact hR _ _ _ _ _ _ hs' hk
  | exit i => exact fun Q R _ _ _ _ _ _ hs h hR => wp_exit (hR _ _ _ _ _ _ hs h)
  | ret => exact fun Q R _ _ _ _ _ _ hs h hR => wp_ret (hR _ _ _ _ _ _ hs h)
  | _ => exact fun Q R _ _ _ _ _ _ hs h hR => False.elim (by simp [ew] at h)
end Go.Sm
