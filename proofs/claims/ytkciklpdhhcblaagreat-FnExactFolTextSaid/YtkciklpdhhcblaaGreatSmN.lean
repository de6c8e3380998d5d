import Derived.Test.YtkciklpdhhcblaaGreatSmM
/-
  A call's answer, looked at as what nobody writes.
-/
namespace Go.Sm
open Go.RowKit

variable {P : Program} {ti : TT} {E : Env} {tag tag' tag0 : Nat → Tag} {hv hv' : Hv} {a : Act} {w w' w0 : World} {t d : Nat}

theorem VR.shareOw {p : List Nat} {m : Md} {l : Lf} {v : Value} (h : VR tag hv w p m l v) : Ow m l → Full m l → (∀ rest b, OwnIn m l rest → tag b = .own (p ++ rest) → tag' b = .sh) → ∀ p', VR tag' hv' w p' .s l v := by
  induction h with
  | dead h1 => intro _ hf; cases hf
  | sc h1 => exact fun _ _ _ _ => .sc h1
  | sh0 => intro ho; cases ho
  | sh => intro ho; cases ho
  | own0 hh => exact fun _ _ _ _ => .sh0
  | @own p e cols z rows b n c cur hn hc hm ht hh hb hs hl hr ih =>
    intro hO hf ho p'
    cases hf with
    | o hf =>
    cases hO with
    | o hO =>
    have h0 := ho [] b .here (by simpa using ht)
    refine .sh (fun i j => cur.getD (i * z.length + j) default) hn hc h0 hl (fun i j hi hj => ?_) (fun i j hi hj => ?_)
    · have hlt : i * z.length + j < cur.size := by
        rw [hs]
        have h1 : (i + 1) * z.length ≤ c * z.length := Nat.mul_le_mul_right _ (by omega)
        rw [Nat.add_mul] at h1
        omega
      simp [World.cell?, hb, Array.getD, hlt]
    · refine ih i j hi hj (hO i j (by omega) hj) (hf i j (by omega) hj) (fun rest b' hrest htb => ?_) p'
      exact ho (i :: j :: rest) b' (.deep (by omega) hj hrest) (by simpa using htb)

def FullML : ML → Prop
  | [] => True
  | (m, l) :: r => Full m l ∧ FullML r
def FullRs : List (Bool × ML) → Prop
  | [] => True
  | (_, ml) :: r => FullML ml ∧ FullRs r
def frzS : List (Bool × ML) → SV
  | [(ag, ml)] => .v ag (ml.map fun x => .s x.2)
  | _ => .dead
def tagF (tag tag' : Nat → Tag) (sz : Nat) : Nat → Tag := fun b =>
  if b < sz then tag b else match tag' b with
    | .off => .off
    | _ => .sh

theorem res_frz {R : List Nat} {b : Nat} {m : Md} {l : Lf} {v : Value} (hfr : Fr w (lend R tag) tag' w') (hR : R = [] ∨ Ow m l) (hf : Full m l) (h : VR tag' hv' w' [b] m l v) : VR (tagF tag tag' w.heap.size) hv w' [] .s l v := by
  have hown : ∀ b' q, tag' b' = .own q → tagF tag tag' w.heap.size b' = .sh := fun b' q hb' => by
    simp only [tagF]
    split
    · rename_i hlt
      have h1 := (hfr.heap b' hlt (lend_cases R b')).2
      rcases lend_cases R b' with h2 | h2 <;> rw [h1, h2] at hb' <;> cases hb'
    · rw [hb']
  rcases hR with hR | hR
  · refine h.share hf (fun b' hb' => ?_) (fun rest b' _ hb' => hown b' _ hb') []
    simp only [tagF]
    split
    · rename_i hlt
      have h1 := (hfr.heap b' hlt (lend_cases R b')).2
      rw [hb'] at h1
      subst hR
      unfold lend at h1
      split at h1
      · simp at h1
      · cases h1
      · exact h1.symm
    · rw [hb']
  · exact h.shareOw hR hf (fun rest b' _ hb' => hown b' _ hb') []

theorem frz_ML {R : List Nat} (hfr : Fr w (lend R tag) tag' w') : ∀ {b : Nat} {ml : ML} {cs : List Value}, (R = [] ∨ OwML ml) → FullML ml → RC tag' hv' w' b ml cs → All2 (LR (tagF tag tag' w.heap.size) hv w') (ml.map fun x => .s x.2) cs
  | b, [], [], _, _, _ => .nil
  | b, [], _ :: _, _, _, h => by simp [RC] at h
  | b, _ :: _, [], _, _, h => by simp [RC] at h
  | b, (m, l) :: r, c :: cs, hR, hf, h => by
    simp only [RC] at h
    exact .cons (res_frz hfr (hR.imp id fun ho => ho (m, l) (by simp)) hf.1 h.1) (frz_ML hfr (hR.imp id fun ho x hx => ho x (by simp [hx])) hf.2 h.2)

theorem St.hop0 (hs : St w0 tag0 E tag hv a w) (hop : Hop (fun _ => false) tag tag' hv hv w w') (hf : Fr w0 tag0 tag' w') (hi' : ∀ b, w'.heap.size ≤ b → tag' b = .off) : St w0 tag0 E tag' hv a w' := by
  refine ⟨hs.nt, hs.df, fun t sv hl => SR.hop0 (hs.sl t sv hl) hop hs.hi, fun b ls hl => ?_, fun r y hl => VR.hop (hs.rt r y hl) hop rfl hs.hi, hf, hi'⟩
  obtain ⟨k, cur, e, q1, q2, q3, q4⟩ := hs.bx b ls hl
  have hk : k < w.heap.size := by
    rcases Nat.lt_or_ge k w.heap.size with hlt | hge
    · exact hlt
    · rw [Array.getElem?_eq_none hge] at q3; cases q3
  have q5 := hop.own k b [0] hk q2 rfl
  exact ⟨k, cur, e, q1, q5.1, q5.2.trans q3, q4.imp fun _ _ h => LR.hop0 h hop hs.hi⟩

/-- A call whose answer nobody writes leaves the environment as it is. -/
theorem St.retF {R : List Nat} {rs : List (Bool × ML)} {rv : Value} (hs : St w0 tag0 E tag hv a w) (hfr : Fr w (lend R tag) tag' w') (hi' : ∀ b, w'.heap.size ≤ b → tag' b = .off) (hR : R = [] ∨ OwRs rs) (hf : FullRs rs) (hrv : RV tag' hv' w' rs rv) :
    ∃ tg, St w0 tag0 E tg hv a w' ∧ SR tg hv w' (frzS rs) rv := by
  have hop : Hop (fun _ => false) tag (tagF tag tag' w.heap.size) hv hv w w' :=
    ⟨fun b hb h => ⟨by simp [tagF, hb, h], (hfr.heap b hb (lend_cases R b)).1⟩, fun b r p hb h _ => ⟨by simp [tagF, hb, h], (hfr.heap b hb (lend_cases R b)).1⟩, fun _ _ _ => rfl⟩
  refine ⟨_, hs.hop0 hop (hs.fr.step hfr.os hfr.tape hfr.output hfr.size fun b hb _ => ⟨(hfr.heap b hb (lend_cases R b)).1, by simp [tagF, hb]⟩) (fun b hb => ?_), ?_⟩
  · have := hfr.size
    simp only [tagF]
    rw [if_neg (by omega), hi' b hb]
  · unfold frzS
    split
    · rename_i ag ml
      simp only [RV, RVs] at hrv
      obtain ⟨⟨cs, h1, h2, h3⟩, _⟩ := hrv
      exact ⟨cs, h1, frz_ML hfr (hR.imp id fun ho => ho (ag, ml) (by simp)) hf.1 h2, fun h => by simpa using h3 h⟩
    · trivial
end Go.Sm
