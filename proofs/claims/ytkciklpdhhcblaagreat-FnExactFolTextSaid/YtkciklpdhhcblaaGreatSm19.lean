import Derived.Test.YtkciklpdhhcblaaGreatSm18
/-
  Helps for loops over rows.
-/
namespace Go.Sm
theorem wrapI {i : Int} (h0 : -9223372036854775808 ≤ i) (h : i ≤ 9223372036854775807) : IntKind.i64.wrap i = i := by
  show (if (true && decide (i % 18446744073709551616 ≥ 9223372036854775808)) = true then i % 18446744073709551616 - 18446744073709551616 else i % 18446744073709551616) = i
  simp only [Bool.true_and, decide_eq_true_eq, ge_iff_le]
  split <;> omega
theorem wrapN {n : Nat} (h : n ≤ 9223372036854775807) : IntKind.i64.wrap (n : Int) = n := wrapI (by omega) (by omega)
theorem wrapS {n : Nat} (h : n < 9223372036854775807) : IntKind.i64.wrap ((n : Int) + 1) = ((n + 1 : Nat) : Int) := by
  rw [wrapI] <;> omega
@[simp] theorem Ow_sc {v : Value} : Ow .s (.sc v) = True := eq_true .sc
@[simp] theorem Full_s {l : Lf} : Full .s l = True := eq_true .s
theorem full_flat {e : Nat} {ms : List Md} {z : List Lf} {rows : List (List Lf)} (h : allS z.length ms) : Full (.o e (fun _ => ms)) (.ls z rows) := by
  refine .o fun i j _ hj => ?_
  rw [show md (fun _ => ms) i j = .s from allS_get h hj]
  exact .s
attribute [simp] full_flat OwRs OwML
/-- Rows that are filled one by one. -/
def fillR (z : List Lf) (L : List (List Lf)) (i : Nat) : List (List Lf) := L.take i ++ List.replicate (L.length - i) z
theorem fillR_zero (z : List Lf) (L : List (List Lf)) : fillR z L 0 = List.replicate L.length z := by simp [fillR]
theorem fillR_all (z : List Lf) (L : List (List Lf)) {i : Nat} (h : L.length ≤ i) : fillR z L i = L := by
  simp [fillR, List.take_of_length_le h, show L.length - i = 0 by omega]
theorem fillR_len (z : List Lf) (L : List (List Lf)) {i : Nat} (h : i ≤ L.length) : (fillR z L i).length = L.length := by simp [fillR]; omega
theorem fillR_set (z : List Lf) (L : List (List Lf)) {i : Nat} (h : i < L.length) : (fillR z L i).set i (L.getD i z) = fillR z L (i + 1) := by
  apply List.ext_getElem?
  intro j
  unfold fillR
  rw [List.getElem?_set]
  by_cases hj : i = j
  · subst hj
    rw [if_pos rfl, if_pos (by simp; omega), List.getElem?_append_left (by simp; omega), List.getElem?_take, if_pos (by omega)]
    rw [List.getD_eq_getElem?_getD, List.getElem?_eq_getElem h]
    rfl
  · rw [if_neg hj]
    by_cases hlt : j < i
    · rw [List.getElem?_append_left (by simp; omega), List.getElem?_append_left (by simp; omega), List.getElem?_take, List.getElem?_take, if_pos hlt, if_pos (by omega)]
    · rw [List.getElem?_append_right (by simp; omega), List.getElem?_append_right (by simp; omega)]
      simp only [List.length_take, List.getElem?_replicate]
      rw [show j - min i L.length = (j - min (i + 1) L.length) + 1 by omega]
      by_cases h2 : j < L.length
      · rw [if_pos (by omega), if_pos (by omega)]
      · rw [if_neg (by omega), if_neg (by omega)]
/-- What a loop's head keeps: slots, boxes, slices of the call's own. -/
def Env.kb (E : Env) (vs bs rs : List Nat) : Env := { E with sl := keepL E.sl vs, bx := keepL E.bx bs, rt := keepL E.rt rs }
theorem Gh.kb (E : Env) (vs bs rs : List Nat) : Gh E (E.kb vs bs rs) := fun _ _ tag hv _ _ h =>
  ⟨tag, hv, h.weak rfl (fun t sv h => lkp_keepL _ t sv vs h) (fun b ls h => lkp_keepL _ b ls bs h) (fun r x h => lkp_keepL _ r x rs h)⟩
attribute [simp] Env.kb

/-! ### a slice of the call's own under another name -/
section
variable {E : Env} {tag tag0 : Nat → Tag} {hv : Hv} {a : Act} {w w0 : World}
def LV.rn (x y : Nat) : LV → LV
  | .r (k :: p) => if k = x then .r (y :: p) else .r (k :: p)
  | l => l
def PV.rn (x y : Nat) : PV → PV
  | .pt (k :: p) sz i off => if k = x then .pt (y :: p) sz i off else .pt (k :: p) sz i off
  | .vw (k :: p) sz lo n => if k = x then .vw (y :: p) sz lo n else .vw (k :: p) sz lo n
  | q => q
def PV.isB (x : Nat) : PV → Bool
  | .bx k _ => k == x
  | _ => false
def SV.rn (x y : Nat) : SV → SV
  | .v ag ls => .v ag (ls.map (LV.rn x y))
  | .tu ps => .tu (ps.map fun q => (q.1, q.2.map (LV.rn x y)))
  | .p q => if q.isB x = true then .dead else .p (q.rn x y)
  | .fn k caps => if caps.any (PV.isB x) = true then .dead else .fn k (caps.map (PV.rn x y))
  | .g c s => .g c (s.rn x y)
  | .pin r u => if r = x then .dead else .pin r u
  | .dead => .dead
def rnK {α : Type} (x y : Nat) : List (Nat × α) → List (Nat × α)
  | [] => []
  | (k, u) :: r => (if k = x then y else k, u) :: rnK x y r
def Env.rn0 (E : Env) (x y : Nat) : Env := { E with sl := E.sl.map (fun u => (u.1, u.2.rn x y)), bx := (delL E.bx x).map (fun u => (u.1, u.2.map (LV.rn x y))), rt := rnK x y E.rt }
def Env.rn (E : Env) (x y : Nat) : Env := (E.fresh fun r => r == y).rn0 x y
def rnT (x y : Nat) (tag : Nat → Tag) : Nat → Tag := fun b => match tag b with
  | .own (k :: p) => if k = x then .own (y :: p) else if k = y then .off else .own (k :: p)
  | s => s
def rnH (x y : Nat) (hv : Hv) : Hv := fun q => match q with
  | k :: p => if k = y then hv (x :: p) else hv (k :: p)
  | [] => hv []
variable {x y : Nat}
theorem rnT_sh {b : Nat} (h : tag b = .sh) : rnT x y tag b = .sh := by simp [rnT, h]
theorem VR.rn_s {p : List Nat} {l : Lf} {v : Value} (h : VR tag hv w p .s l v) : VR (rnT x y tag) (rnH x y hv) w p .s l v :=
  h.move p (fun _ hb => ⟨rnT_sh hb, rfl⟩) (fun rest hr => by cases hr)
theorem LR.rn {l : LV} {v : Value} (hl : l.hit (fun r => r == y) = false) (h : LR tag hv w l v) : LR (rnT x y tag) (rnH x y hv) w (l.rn x y) v := by
  cases l with
  | s l => exact VR.rn_s h
  | n z => exact h
  | u => exact h
  | r p =>
    cases p with
    | nil => simp [LV.hit] at hl
    | cons k p =>
      simp only [LV.hit, beq_eq_false_iff_ne] at hl
      obtain ⟨h1, h2⟩ := h
      simp only [LV.rn]
      split
      · rename_i hk
        subst hk
        exact ⟨by simpa [rnH] using h1, h2⟩
      · exact ⟨by simpa [rnH, hl] using h1, h2⟩
theorem LRs.rn {ls : List LV} {cs : List Value} (hl : ls.any (LV.hit fun r => r == y) = false) (h : All2 (LR tag hv w) ls cs) : All2 (LR (rnT x y tag) (rnH x y hv) w) (ls.map (LV.rn x y)) cs := by
  induction h with
  | nil => exact .nil
  | cons h hs ih =>
    simp only [List.any_cons, Bool.or_eq_false_iff] at hl
    exact .cons (LR.rn hl.1 h) (ih hl.2)
theorem VV.rn {ag : Bool} {ls : List LV} {v : Value} (hl : ls.any (LV.hit fun r => r == y) = false) (h : VV tag hv w ag ls v) : VV (rnT x y tag) (rnH x y hv) w ag (ls.map (LV.rn x y)) v := by
  obtain ⟨cs, h1, h2, h3⟩ := h
  exact ⟨cs, h1, LRs.rn hl h2, by simpa using h3⟩
theorem PR.rn {q : PV} {v : Value} (hl : q.hd (fun r => r == y) = false) (hb : q.isB x = false) (h : PR tag hv w q v) : PR (rnT x y tag) (rnH x y hv) w (q.rn x y) v := by
  cases q with
  | pt p sz i off =>
    cases p with
    | nil => simp [PV.hd] at hl
    | cons k p =>
      simp only [PV.hd, beq_eq_false_iff_ne] at hl
      obtain ⟨b, n, c, h1, h2⟩ := h
      simp only [PV.rn]
      split
      · rename_i hk
        subst hk
        exact ⟨b, n, c, by simpa [rnH] using h1, h2⟩
      · exact ⟨b, n, c, by simpa [rnH, hl] using h1, h2⟩
  | vw p sz lo n =>
    cases p with
    | nil => simp [PV.hd] at hl
    | cons k p =>
      simp only [PV.hd, beq_eq_false_iff_ne] at hl
      simp only [PV.rn]
      split
      · rename_i hk
        subst hk
        have e : rnH k y hv (y :: p) = hv (k :: p) := by simp [rnH]
        simp only [PR]
        rw [e]
        exact h
      · have e : rnH x y hv (k :: p) = hv (k :: p) := by simp [rnH, hl]
        simp only [PR]
        rw [e]
        exact h
  | bx b off =>
    simp only [PV.hd, beq_eq_false_iff_ne] at hl
    obtain ⟨k, h1, h2⟩ := h
    exact ⟨k, by simpa [rnH, hl] using h1, h2⟩
  | ps ds =>
    obtain ⟨b, off, h1, h2, h3⟩ := h
    refine ⟨b, off, h1, rnT_sh h2, fun j hj => ?_⟩
    obtain ⟨u, hu, hr⟩ := h3 j hj
    exact ⟨u, hu, hr.rn_s⟩
theorem SR.rn : ∀ {sv : SV} {v : Value}, sv.hit (fun r => r == y) = false → SR tag hv w sv v → SR (rnT x y tag) (rnH x y hv) w (sv.rn x y) v
  | .dead, _, _, _ => trivial
  | .v ag ls, v, hl, h => VV.rn hl h
  | .tu ps, v, hl, h => by
    obtain ⟨vs, h1, h2⟩ := h
    refine ⟨vs, h1, ?_⟩
    simp only [SV.hit] at hl
    clear h1
    induction h2 with
    | nil => exact .nil
    | cons h hs ih =>
      simp only [List.any_cons, Bool.or_eq_false_iff] at hl
      exact .cons (VV.rn hl.1 h) (ih hl.2)
  | .p q, v, hl, h => by
    simp only [SV.rn]
    split
    · trivial
    · rename_i hb
      exact PR.rn hl (by simpa using hb) h
  | .fn k caps, v, hl, h => by
    simp only [SV.rn]
    split
    · trivial
    · rename_i hb
      obtain ⟨vs, h1, h2⟩ := h
      refine ⟨vs, h1, ?_⟩
      simp only [SV.hit] at hl
      simp only [Bool.not_eq_true] at hb
      clear h1
      induction h2 with
      | nil => exact .nil
      | cons h hs ih =>
        simp only [List.any_cons, Bool.or_eq_false_iff] at hl hb
        exact .cons (PR.rn hl.1 hb.1 h) (ih hl.2 hb.2)
  | .g c s, v, hl, h => ⟨fun hc => SR.rn (sv := s) hl (h.1 hc), h.2⟩
  | .pin r u, v, hl, h => by
    simp only [SV.hit, beq_eq_false_iff_ne] at hl
    simp only [SV.rn]
    split
    · trivial
    · have : hv [r] = u := h
      show rnH x y hv [r] = u
      simp [rnH, hl, this]
theorem lkp_rnK {α : Type} {u : α} {r : Nat} : ∀ {l : List (Nat × α)}, lkp l y = none → lkp (rnK x y l) r = some u → (r = y ∧ lkp l x = some u) ∨ (r ≠ x ∧ r ≠ y ∧ lkp l r = some u)
  | [], _, h => by simp [rnK, lkp] at h
  | (k, z) :: l, hn, h => by
    simp only [lkp] at hn
    split at hn
    · cases hn
    · rename_i hky
      simp only [rnK, lkp] at h
      by_cases hkx : k = x
      · rw [if_pos hkx] at h
        split at h
        · rename_i he
          cases h
          exact .inl ⟨he.symm, by simp [lkp, hkx]⟩
        · rename_i he
          rcases lkp_rnK hn h with ⟨h1, _⟩ | ⟨h1, h2, h3⟩
          · exact absurd h1.symm he
          · exact .inr ⟨h1, h2, by
              have : ¬ k = r := fun e => h1 (e.symm.trans hkx)
              simp [lkp, this, h3]⟩
      · rw [if_neg hkx] at h
        split at h
        · rename_i he
          cases h
          exact .inr ⟨fun e => hkx (he.trans e), fun e => hky (he.trans e), by simp [lkp, he]⟩
        · rename_i he
          rcases lkp_rnK hn h with ⟨h1, h2⟩ | ⟨h1, h2, h3⟩
          · exact .inl ⟨h1, by simp [lkp, hkx, h2]⟩
          · exact .inr ⟨h1, h2, by simp [lkp, he, h3]⟩
theorem St.rn0 (hc : E.cl fun r => r == y) (hs : St w0 tag0 E tag hv a w) : St w0 tag0 (E.rn0 x y) (rnT x y tag) (rnH x y hv) a w := by
  refine ⟨hs.nt, hs.df, fun t sv h => ?_, fun b ls h => ?_, fun r u h => ?_, ?_, fun b hb => by simp [rnT, hs.hi b hb]⟩
  · simp only [Env.rn0, lkp_map] at h
    obtain ⟨sv0, h1, rfl⟩ := Option.map_eq_some_iff.1 h
    exact SR.rn (hc.sl t sv0 h1) (hs.sl t sv0 h1)
  · simp only [Env.rn0, lkp_map, lkp_delL] at h
    obtain ⟨ls0, h1, rfl⟩ := Option.map_eq_some_iff.1 h
    split at h1
    · cases h1
    · rename_i hne
      obtain ⟨k, cur, e, h2, h3, h4, h5⟩ := hs.bx b ls0 h1
      have hby := hc.bx b ls0 h1
      have hby1 : b ≠ y := by simpa using hby.1
      have hbx : b ≠ x := fun e => hne e.symm
      exact ⟨k, cur, e, by simpa [rnH, hby1] using h2, by simp [rnT, h3, hbx, hby1], h4, LRs.rn hby.2 h5⟩
  · have hn : lkp E.rt y = none := by
      cases hq : lkp E.rt y with
      | none => rfl
      | some z => have := hc.rt y z hq; simp at this
    rcases lkp_rnK hn h with ⟨rfl, h1⟩ | ⟨h1, h2, h3⟩
    · have := hs.rt x u h1
      rw [show rnH x r hv [r] = hv [x] by simp [rnH]]
      refine this.move [r] (fun b hb => ⟨rnT_sh hb, rfl⟩) (fun rest _ => ⟨by simp [rnH], fun b hb => ⟨?_, rfl⟩⟩)
      simp only [List.singleton_append] at hb ⊢
      simp [rnT, hb]
    · have := hs.rt r u h3
      rw [show rnH x y hv [r] = hv [r] by simp [rnH, h2]]
      refine this.move [r] (fun b hb => ⟨rnT_sh hb, rfl⟩) (fun rest _ => ⟨by simp [rnH, h2], fun b hb => ⟨?_, rfl⟩⟩)
      simp only [List.singleton_append] at hb ⊢
      simp [rnT, hb, h1, h2]
  · refine ⟨hs.fr.os, hs.fr.tape, hs.fr.output, hs.fr.size, fun b hb hq => ?_⟩
    obtain ⟨h1, h2⟩ := hs.fr.heap b hb hq
    refine ⟨h1, ?_⟩
    rcases hq with hq | hq <;> simp [rnT, h2, hq]
theorem Gh.rn (E : Env) (x y : Nat) : Gh E (E.rn x y) := fun _ _ _ _ _ _ h =>
  ⟨_, _, St.rn0 (Env.fresh_cl (fun _ h => h) E) (h.fresh_same fun r => r == y)⟩
end
attribute [simp] Env.rn Env.rn0 rnK LV.rn PV.rn PV.isB SV.rn
end Go.Sm
