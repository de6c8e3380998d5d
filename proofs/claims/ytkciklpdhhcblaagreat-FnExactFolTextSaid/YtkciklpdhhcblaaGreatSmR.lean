import Derived.Test.YtkciklpdhhcblaaGreatSm22
/-
  Steps that only say the same otherwise: a nil slice in a variable as a slice of the call's own.
-/
namespace Go.Sm
open Go.RowKit
set_option linter.unusedVariables false
set_option linter.unusedSimpArgs false

/-! ### a nil slice in a variable becomes a slice of the call's own, without rows -/
def nlL (k : Nat) : List LV → Nat → List LV
  | .n _ :: r, 0 => .r [k] :: r
  | x :: r, 0 => x :: r
  | x :: r, j + 1 => x :: nlL k r j
  | [], _ => []
def nlK (b k j : Nat) : List (Nat × List LV) → List (Nat × List LV)
  | [] => []
  | (c, ls) :: r => if c = b then (c, nlL k ls j) :: r else (c, ls) :: nlK b k j r
def nlT (t k j : Nat) : List (Nat × SV) → List (Nat × SV)
  | [] => []
  | (c, s) :: r => if c = t then (c, match s with | .v ag ls => .v ag (nlL k ls j) | s => s) :: r else (c, s) :: nlT t k j r
def Env.nlB (E : Env) (b j k : Nat) (x : Md × List Lf) : Env := { E.fresh (fun r => r == k) with bx := nlK b k j (E.fresh (fun r => r == k)).bx, rt := (k, x.1, .ls x.2 []) :: (E.fresh (fun r => r == k)).rt }
def Env.nlS (E : Env) (t j k : Nat) (x : Md × List Lf) : Env := { E.fresh (fun r => r == k) with sl := nlT t k j (E.fresh (fun r => r == k)).sl, rt := (k, x.1, .ls x.2 []) :: (E.fresh (fun r => r == k)).rt }
section
variable {E : Env} {tag tag0 : Nat → Tag} {hv : Hv} {a : Act} {w w0 : World} {k : Nat}
theorem nlL_ok (hk : hv [k] = .slice none 0 0) : ∀ {ls : List LV} {cs : List Value} (j : Nat), All2 (LR tag hv w) ls cs → All2 (LR tag hv w) (nlL k ls j) cs
  | [], _, j, h => by cases j <;> exact h
  | x :: r, _, 0, h => by
    cases h with
    | cons h1 h2 =>
      cases x with
      | n z => exact .cons ⟨(show _ = Value.slice none 0 0 from h1).trans hk.symm, none, 0, 0, h1⟩ h2
      | _ => exact .cons h1 h2
  | x :: r, _, j + 1, h => by
    cases h with
    | cons h1 h2 =>
      have := nlL_ok hk j h2
      cases x <;> exact .cons h1 this
theorem nlL_len : ∀ (ls : List LV) (j : Nat), (nlL k ls j).length = ls.length
  | [], j => by cases j <;> rfl
  | x :: r, 0 => by cases x <;> rfl
  | x :: r, j + 1 => by cases x <;> simp [nlL, nlL_len r j]
theorem lkp_nlK {b k j b' : Nat} : ∀ {l : List (Nat × List LV)} {ls : List LV}, lkp (nlK b k j l) b' = some ls → ∃ ls0, lkp l b' = some ls0 ∧ (ls = ls0 ∨ ls = nlL k ls0 j)
  | [], _, h => by simp [nlK, lkp] at h
  | (c, x) :: r, ls, h => by
    simp only [nlK] at h
    split at h
    · simp only [lkp] at h ⊢
      split at h
      · rename_i e
        cases h
        exact ⟨x, by simp [e], .inr rfl⟩
      · rename_i e
        exact ⟨ls, by simp [e, h], .inl rfl⟩
    · simp only [lkp] at h ⊢
      split at h
      · rename_i e
        cases h
        exact ⟨_, by simp [e], .inl rfl⟩
      · rename_i e
        obtain ⟨ls0, h1, h2⟩ := lkp_nlK h
        exact ⟨ls0, by simp [e, h1], h2⟩
theorem lkp_nlT {t k j t' : Nat} : ∀ {l : List (Nat × SV)} {s : SV}, lkp (nlT t k j l) t' = some s → ∃ s0, lkp l t' = some s0 ∧ (s = s0 ∨ ∃ ag ls, s0 = .v ag ls ∧ s = .v ag (nlL k ls j))
  | [], _, h => by simp [nlT, lkp] at h
  | (c, x) :: r, s, h => by
    simp only [nlT] at h
    split at h
    · simp only [lkp] at h ⊢
      split at h
      · rename_i e
        cases h
        refine ⟨x, by simp [e], ?_⟩
        cases x <;> first | exact .inr ⟨_, _, rfl, rfl⟩ | exact .inl rfl
      · rename_i e
        exact ⟨s, by simp [e, h], .inl rfl⟩
    · simp only [lkp] at h ⊢
      split at h
      · rename_i e
        cases h
        exact ⟨_, by simp [e], .inl rfl⟩
      · rename_i e
        obtain ⟨s0, h1, h2⟩ := lkp_nlT h
        exact ⟨s0, by simp [e, h1], h2⟩
theorem St.nil0 (hs : St w0 tag0 E tag hv a w) (k : Nat) : ∃ hv', hv' [k] = .slice none 0 0 ∧ St w0 tag0 (E.fresh (fun r => r == k)) tag hv' a w := by
  refine ⟨fun q => if q = [k] then .slice none 0 0 else hv q, by simp, hs.hop ⟨fun _ _ h => ⟨h, rfl⟩, fun _ _ _ _ h _ => ⟨h, rfl⟩, fun r p hr => ?_⟩ hs.fr hs.hi⟩
  have : r ≠ k := by simpa using hr
  simp [this]
end
theorem Gh.nlB (E : Env) (b j k e : Nat) (cols : Nat → List Md) (z : List Lf) : Gh E (E.nlB b j k (.o e cols, z)) := by
  intro w0 tag0 tag hv a w hs
  obtain ⟨hv', hk, h⟩ := hs.nil0 k
  refine ⟨tag, hv', h.nt, h.df, h.sl, fun b' ls hl => ?_, fun r x hl => ?_, h.fr, h.hi⟩
  · obtain ⟨ls0, h1, h2⟩ := lkp_nlK hl
    obtain ⟨q, cur, e', h3, h4, h5, h6⟩ := h.bx b' ls0 h1
    refine ⟨q, cur, e', h3, h4, h5, ?_⟩
    rcases h2 with rfl | rfl
    · exact h6
    · exact nlL_ok hk j h6
  · simp only [Env.nlB, lkp] at hl
    split at hl
    · rename_i e2
      subst e2
      cases hl
      rw [hk]
      exact .own0 hk
    · exact h.rt r x hl
theorem Gh.nlS (E : Env) (t j k e : Nat) (cols : Nat → List Md) (z : List Lf) : Gh E (E.nlS t j k (.o e cols, z)) := by
  intro w0 tag0 tag hv a w hs
  obtain ⟨hv', hk, h⟩ := hs.nil0 k
  refine ⟨tag, hv', h.nt, h.df, fun t' s hl => ?_, h.bx, fun r x hl => ?_, h.fr, h.hi⟩
  · obtain ⟨s0, h1, h2⟩ := lkp_nlT hl
    have h3 := h.sl t' s0 h1
    rcases h2 with rfl | ⟨ag, ls, rfl, rfl⟩
    · exact h3
    · obtain ⟨cs, q1, q2, q3⟩ := h3
      exact ⟨cs, q1, nlL_ok hk j q2, fun hf => by rw [nlL_len]; exact q3 hf⟩
  · simp only [Env.nlS, lkp] at hl
    split at hl
    · rename_i e2
      subst e2
      cases hl
      rw [hk]
      exact .own0 hk
    · exact h.rt r x hl
attribute [simp] Env.nlB Env.nlS nlL nlK nlT
end Go.Sm
