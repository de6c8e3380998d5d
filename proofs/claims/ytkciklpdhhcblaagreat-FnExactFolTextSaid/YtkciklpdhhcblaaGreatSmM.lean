import Derived.Test.YtkciklpdhhcblaaGreatSmH
/-
  Calls that write into what is lent ('VM'): the callee holds the caller's slices as its own, under names 900, 901, ..; behind the call their trees have turned, in place.
-/
namespace Go.Sm
open Go.RowKit

variable {P : Program} {ti : TT} {E : Env} {tag tag' tag0 : Nat → Tag} {hv hv' : Hv} {a : Act} {w w' w0 : World} {t d : Nat} {T : List (List Nat)}

/-! ### places lent -/
def stripP : List Nat → List Nat → Option (List Nat)
  | [], q => some q
  | a :: p, b :: q => if a = b then stripP p q else none
  | _ :: _, [] => none
theorem stripP_eq : ∀ {p q rest : List Nat}, stripP p q = some rest → q = p ++ rest
  | [], q, rest, h => by cases h; rfl
  | a :: p, [], rest, h => by cases h
  | a :: p, b :: q, rest, h => by
    simp only [stripP] at h
    split at h
    · rename_i e
      subst e
      rw [stripP_eq h]
      rfl
    · cases h
theorem stripP_app : ∀ (p rest : List Nat), stripP p (p ++ rest) = some rest
  | [], _ => rfl
  | a :: p, rest => by simp [stripP, stripP_app p rest]
def wh : List (List Nat) → Nat → List Nat → Option (Nat × List Nat)
  | [], _, _ => none
  | p :: T, n, q => match stripP p q with
    | some rest => some (n, rest)
    | none => wh T (n + 1) q
theorem wh_eq : ∀ {T : List (List Nat)} {n : Nat} {q : List Nat} {k : Nat} {rest : List Nat}, wh T n q = some (k, rest) → ∃ i p, T[i]? = some p ∧ k = n + i ∧ q = p ++ rest
  | [], _, _, _, _, h => by cases h
  | p :: T, n, q, k, rest, h => by
    simp only [wh] at h
    split at h
    · rename_i r hr
      cases h
      exact ⟨0, p, rfl, rfl, stripP_eq hr⟩
    · obtain ⟨i, p', h1, h2, h3⟩ := wh_eq h
      exact ⟨i + 1, p', by simpa using h1, by omega, h3⟩
def hd0 : List Nat → Nat
  | r :: _ => r
  | [] => 0
def plOk : List Nat → Prop
  | [_] => True
  | [_, _, _] => True
  | _ => False
def hdsOk (T : List (List Nat)) : Prop := (T.map hd0).Nodup ∧ ∀ p ∈ T, plOk p
theorem plOk_cons {p : List Nat} (h : plOk p) : ∃ r q, p = r :: q := by
  cases p with
  | nil => exact h.elim
  | cons r q => exact ⟨r, q, rfl⟩
theorem wh_none : ∀ {T : List (List Nat)} {n r : Nat} {rest : List Nat}, (∀ p ∈ T, plOk p) → (∀ p ∈ T, hd0 p ≠ r) → wh T n (r :: rest) = none
  | [], _, _, _, _, _ => rfl
  | p :: T, n, r, rest, h, hn => by
    obtain ⟨r', q, rfl⟩ := plOk_cons (h p (by simp))
    have h1 := hn (r' :: q) (by simp)
    simp only [hd0] at h1
    simp only [wh, stripP, if_neg h1]
    exact wh_none (fun p hp => h p (by simp [hp])) (fun p hp => hn p (by simp [hp]))
theorem wh_app : ∀ {T : List (List Nat)} {n i : Nat} {p rest : List Nat}, hdsOk T → T[i]? = some p → wh T n (p ++ rest) = some (n + i, rest)
  | [], _, _, _, _, _, h => by simp at h
  | p0 :: T, n, 0, p, rest, _, h => by
    simp only [List.getElem?_cons_zero, Option.some.injEq] at h
    subst h
    simp [wh, stripP_app]
  | p0 :: T, n, i + 1, p, rest, hT, h => by
    simp only [List.getElem?_cons_succ] at h
    have hm := List.mem_of_getElem? h
    obtain ⟨r0, q0, rfl⟩ := plOk_cons (hT.2 p0 (by simp))
    obtain ⟨r, q, rfl⟩ := plOk_cons (hT.2 p (by simp [hm]))
    have h1 := hT.1
    simp only [List.map_cons, List.nodup_cons, hd0] at h1
    have hne : r0 ≠ r := fun e => h1.1 (List.mem_map.2 ⟨_, hm, by simp [hd0, e]⟩)
    have ih := wh_app (n := n + 1) (rest := rest) (T := T) ⟨h1.2, fun p hp => hT.2 p (by simp [hp])⟩ h
    simp only [List.cons_append] at ih ⊢
    simp only [wh, stripP, if_neg hne]
    rw [ih]
    congr 2
    omega
theorem hd_inj (hT : hdsOk T) {i j : Nat} {p q : List Nat} (hp : T[i]? = some p) (hq : T[j]? = some q) (h : hd0 p = hd0 q) : i = j ∧ p = q := by
  have h1 := hT.1
  have hi : (T.map hd0)[i]? = some (hd0 p) := by rw [List.getElem?_map, hp]; rfl
  have hj : (T.map hd0)[j]? = some (hd0 p) := by rw [List.getElem?_map, hq, h]; rfl
  have hi' := (List.getElem?_eq_some_iff.1 hi)
  have hj' := (List.getElem?_eq_some_iff.1 hj)
  have e : i = j := (List.getElem_inj h1).1 (hi'.2.trans hj'.2.symm)
  subst e
  rw [hp] at hq
  cases hq
  exact ⟨rfl, rfl⟩

/-- Strictly below a place lent. -/
def udr (T : List (List Nat)) (q : List Nat) : Bool := match wh T 900 q with
  | some (_, _ :: _) => true
  | _ => false
def tagC (T : List (List Nat)) (tag : Nat → Tag) : Nat → Tag := fun b => match tag b with
  | .own q => match wh T 900 q with
    | some (k, rest) => .own (k :: rest)
    | none => .off
  | s => s
def plN (T : List (List Nat)) (k : Nat) : Option (List Nat) := if 900 ≤ k then T[k - 900]? else none
def hvC (T : List (List Nat)) (hv : Hv) : Hv := fun q => match q with
  | k :: rest => match plN T k with
    | some p => hv (p ++ rest)
    | none => hv (k :: rest)
  | [] => hv []
def nmB (T : List (List Nat)) : Tag → Bool
  | .own q => (wh T 900 q).isNone
  | _ => true
def tagM (T : List (List Nat)) (sz : Nat) (tag tag' : Nat → Tag) : Nat → Tag := fun b =>
  if b < sz ∧ nmB T (tag b) = true then tag b else match tag' b with
    | .own (k :: rest) => match plN T k with
      | some p => .own (p ++ rest)
      | none => .off
    | .own [] => .off
    | s => s
def hvM (T : List (List Nat)) (hv hv' : Hv) : Hv := fun q => match wh T 900 q with
  | some (k, rest) => hv' (k :: rest)
  | none => hv q

theorem plN_at {i : Nat} {p : List Nat} (h : T[i]? = some p) : plN T (900 + i) = some p := by
  simp [plN, h]
theorem tagC_cases (b : Nat) : tagC T tag b = .sh ∨ tagC T tag b = .off ∨ ∃ k rest, tagC T tag b = .own (k :: rest) ∧ 900 ≤ k ∧ k < 900 + T.length := by
  unfold tagC
  split
  · split
    · rename_i k rest hw
      obtain ⟨i, p, h1, h2, _⟩ := wh_eq hw
      have := (List.getElem?_eq_some_iff.1 h1).1
      exact .inr (.inr ⟨k, rest, rfl, by omega, by omega⟩)
    · exact .inr (.inl rfl)
  · rename_i h
    cases ht : tag b with
    | sh => exact .inl rfl
    | off => exact .inr (.inl rfl)
    | own q => exact absurd ht (h q)
theorem tagC_nm {b : Nat} (h : nmB T (tag b) = true) : (tag b = .sh ∧ tagC T tag b = .sh) ∨ (tag b ≠ .sh ∧ tagC T tag b = .off) := by
  unfold tagC
  cases ht : tag b with
  | sh => exact .inl ⟨rfl, rfl⟩
  | off => exact .inr ⟨by simp, rfl⟩
  | own q =>
    rw [ht] at h
    simp only [nmB, Option.isNone_iff_eq_none] at h
    exact .inr ⟨by simp, by simp [h]⟩

section
variable (hfr : Fr w (tagC T tag) tag' w') (hT : hdsOk T)
include hfr
theorem keepB {b : Nat} (hb : b < w.heap.size) (hn : nmB T (tag b) = true) : w'.heap[b]? = w.heap[b]? ∧ tagM T w.heap.size tag tag' b = tag b ∧ ((tag b = .sh ∧ tag' b = .sh) ∨ tag' b = .off) := by
  rcases tagC_nm hn with ⟨h1, h2⟩ | ⟨h1, h2⟩
  · have := hfr.heap b hb (.inl h2)
    exact ⟨this.1, by simp [tagM, hb, hn], .inl ⟨h1, this.2.trans h2⟩⟩
  · have := hfr.heap b hb (.inr h2)
    exact ⟨this.1, by simp [tagM, hb, hn], .inr (this.2.trans h2)⟩
theorem tagM_sh {b : Nat} (h : tag' b = .sh) : tagM T w.heap.size tag tag' b = .sh := by
  unfold tagM
  split
  · rename_i hc
    obtain ⟨_, _, h3 | h3⟩ := keepB hfr hc.1 hc.2
    · exact h3.1
    · rw [h] at h3; cases h3
  · rw [h]
theorem tagM_own {b i : Nat} {p rest : List Nat} (hp : T[i]? = some p) (h : tag' b = .own ((900 + i) :: rest)) : tagM T w.heap.size tag tag' b = .own (p ++ rest) := by
  unfold tagM
  split
  · rename_i hc
    obtain ⟨_, _, h3 | h3⟩ := keepB hfr hc.1 hc.2
    · rw [h] at h3; cases h3.2
    · rw [h] at h3; cases h3
  · rw [h]
    simp [plN_at hp]
include hT
theorem back {i : Nat} {p : List Nat} {m : Md} {l : Lf} {v : Value} (hp : T[i]? = some p) (h : VR tag' hv' w' [900 + i] m l v) : VR (tagM T w.heap.size tag tag') (hvM T hv hv') w' p m l v := by
  refine h.move p (fun b hb => ⟨tagM_sh hfr hb, rfl⟩) (fun rest _ => ⟨?_, fun b hb => ⟨?_, rfl⟩⟩)
  · simp [hvM, wh_app hT hp]
  · exact tagM_own hfr hp (by simpa using hb)
end
theorem fwd (hT : hdsOk T) {i : Nat} {p : List Nat} {m : Md} {l : Lf} {v : Value} (hp : T[i]? = some p) (h : VR tag hv w p m l v) : VR (tagC T tag) (hvC T hv) w [900 + i] m l v := by
  refine h.move [900 + i] (fun b hb => ⟨by simp [tagC, hb], rfl⟩) (fun rest _ => ⟨?_, fun b hb => ⟨?_, rfl⟩⟩)
  · simp [hvC, plN_at hp]
  · simp [tagC, hb, wh_app hT hp]

/-! ### what moves on -/
structure Hm (T : List (List Nat)) (tag tag' : Nat → Tag) (hv hv' : Hv) (w w' : World) : Prop where
  sh : ∀ b, b < w.heap.size → tag b = .sh → tag' b = .sh ∧ w'.heap[b]? = w.heap[b]?
  own : ∀ b q, b < w.heap.size → tag b = .own q → wh T 900 q = none → tag' b = .own q ∧ w'.heap[b]? = w.heap[b]?
  hv : ∀ q, udr T q = false → hv' q = hv q
def LV.mk (T : List (List Nat)) : LV → LV
  | .r q => if udr T q = true then .u else .r q
  | l => l
def PV.mk (T : List (List Nat)) : PV → Bool
  | .pt q _ _ _ => udr T q
  | .vw q _ _ _ => udr T q
  | .bx b _ => (wh T 900 [b, 0]).isSome
  | .ps _ => false
def SV.mk (T : List (List Nat)) : SV → SV
  | .v ag ls => .v ag (ls.map (LV.mk T))
  | .tu parts => .tu (parts.map fun q => (q.1, q.2.map (LV.mk T)))
  | .p q => if q.mk T then .dead else .p q
  | .fn k caps => if caps.any (PV.mk T) then .dead else .fn k caps
  | .g c s => .g c (s.mk T)
  | .pin r x => if udr T [r] then .dead else .pin r x
  | .dead => .dead

theorem VR.hm_s {p p' : List Nat} {l : Lf} {v : Value} (h : VR tag hv w p .s l v) (hh : Hm T tag tag' hv hv' w w') (hi : ∀ b, w.heap.size ≤ b → tag b = .off) : VR tag' hv' w' p' .s l v := by
  refine h.move _ (fun b hb => ?_) (fun rest hr => by cases hr)
  rcases Nat.lt_or_ge b w.heap.size with hlt | hge
  · exact hh.sh b hlt hb
  · rw [hi b hge] at hb; cases hb
theorem VR.hm {p : List Nat} {m : Md} {l : Lf} {v : Value} (h : VR tag hv w p m l v) (hh : Hm T tag tag' hv hv' w w') (hi : ∀ b, w.heap.size ≤ b → tag b = .off) (hd : ∀ rest, wh T 900 (p ++ rest) = none) : VR tag' hv' w' p m l v := by
  refine h.move _ (fun b hb => ?_) (fun rest hr => ⟨hh.hv _ (by simp [udr, hd rest]), fun b hb => ?_⟩)
  · rcases Nat.lt_or_ge b w.heap.size with hlt | hge
    · exact hh.sh b hlt hb
    · rw [hi b hge] at hb; cases hb
  · rcases Nat.lt_or_ge b w.heap.size with hlt | hge
    · exact hh.own b _ hlt hb (hd rest)
    · rw [hi b hge] at hb; cases hb
theorem LR.hm {l : LV} {v : Value} (h : LR tag hv w l v) (hh : Hm T tag tag' hv hv' w w') (hi : ∀ b, w.heap.size ≤ b → tag b = .off) : LR tag' hv' w' (l.mk T) v := by
  cases l with
  | s l => exact VR.hm_s h hh hi
  | n z => exact h
  | u => exact h
  | r p =>
    obtain ⟨h1, A, n, c, h2⟩ := h
    simp only [LV.mk]
    split
    · rw [h2]; rfl
    · rename_i hne
      exact ⟨by rw [hh.hv p (by simpa using hne)]; exact h1, A, n, c, h2⟩
theorem VV.hm {ag : Bool} {ls : List LV} {v : Value} (h : VV tag hv w ag ls v) (hh : Hm T tag tag' hv hv' w w') (hi : ∀ b, w.heap.size ≤ b → tag b = .off) : VV tag' hv' w' ag (ls.map (LV.mk T)) v := by
  obtain ⟨cs, h1, h2, h3⟩ := h
  exact ⟨cs, h1, (h2.imp fun _ _ h => h.hm hh hi).map_left, by simpa using h3⟩
theorem PR.hm {q : PV} {v : Value} (h : PR tag hv w q v) (hq : q.mk T = false) (hh : Hm T tag tag' hv hv' w w') (hi : ∀ b, w.heap.size ≤ b → tag b = .off) : PR tag' hv' w' q v := by
  cases q with
  | pt p sz i off =>
    obtain ⟨b, n, c, h1, h2⟩ := h
    refine ⟨b, n, c, ?_, h2⟩
    rw [hh.hv p hq]
    exact h1
  | vw p sz lo n =>
    simp only [PR]
    rw [hh.hv p hq]
    exact h
  | bx b off =>
    obtain ⟨k, h1, h2⟩ := h
    refine ⟨k, ?_, h2⟩
    simp only [PV.mk, Option.isSome_eq_false_iff, Option.isNone_iff_eq_none] at hq
    rw [hh.hv [b, 0] (by simp [udr, hq])]
    exact h1
  | ps ds =>
    obtain ⟨b, off, h1, h2, h3⟩ := h
    have hb : ∀ j, j < ds.length → b < w.heap.size := fun j hj => by
      obtain ⟨u, hu, _⟩ := h3 j hj
      exact World.block_lt_of_cell? _ _ hu
    have hsh : tag' b = .sh := by
      rcases Nat.lt_or_ge b w.heap.size with hlt | hge
      · exact (hh.sh b hlt h2).1
      · rw [hi b hge] at h2; cases h2
    refine ⟨b, off, h1, hsh, fun j hj => ?_⟩
    obtain ⟨u, hu, hr⟩ := h3 j hj
    refine ⟨u, ?_, hr.hm_s hh hi⟩
    rw [World.cell?_of_block (w := w) ((hh.sh b (hb j hj) h2).2)]
    exact hu
theorem SR.hm : ∀ {sv : SV} {v : Value}, SR tag hv w sv v → Hm T tag tag' hv hv' w w' → (∀ b, w.heap.size ≤ b → tag b = .off) → SR tag' hv' w' (sv.mk T) v
  | .dead, _, _, _, _ => trivial
  | .v ag ls, v, h, hh, hi => VV.hm h hh hi
  | .tu parts, v, h, hh, hi => by
    obtain ⟨vs, h1, h2⟩ := h
    exact ⟨vs, h1, All2.map_left (h2.imp fun q u h => VV.hm h hh hi)⟩
  | .p q, v, h, hh, hi => by
    simp only [SV.mk]
    split
    · trivial
    · rename_i hq
      exact PR.hm h (by simpa using hq) hh hi
  | .fn k caps, v, h, hh, hi => by
    simp only [SV.mk]
    split
    · trivial
    · rename_i hq
      obtain ⟨vs, h1, h2⟩ := h
      refine ⟨vs, h1, ?_⟩
      simp only [List.any_eq_true, not_exists, not_and, Bool.not_eq_true] at hq
      clear h1
      induction h2 with
      | nil => exact .nil
      | cons h hs ih => exact .cons (PR.hm h (hq _ (by simp)) hh hi) (ih fun x hx => hq x (by simp [hx]))
  | .g c s, v, h, hh, hi => ⟨fun hc => SR.hm (h.1 hc) hh hi, h.2⟩
  | .pin r x, v, h, hh, hi => by
    simp only [SV.mk]
    split
    · trivial
    · rename_i hr
      exact (hh.hv [r] (by simpa using hr)).trans h

/-! ### the environment behind such a call -/
def put1 : List Nat → Lf → Md × Lf → Md × Lf
  | [_, i, j], l', (.o e cols, .ls z rows) => (.o e cols, .ls z (rows.set i ((rows.getD i z).set j l')))
  | _, l', x => (x.1, l')
def mutR : List (List Nat) → List Lf → Nat → Md × Lf → Md × Lf
  | p :: T, l' :: ls, r, x => if hd0 p = r then put1 p l' x else mutR T ls r x
  | _, _, _, x => x
def Env.mutE (E : Env) (T : List (List Nat)) (ls : List Lf) : Env :=
  { E with sl := E.sl.map (fun x => (x.1, x.2.mk T)), bx := (delD E.bx fun b => (wh T 900 [b, 0]).isSome).map (fun x => (x.1, x.2.map (LV.mk T))), rt := E.rt.map fun x => (x.1, mutR T ls x.1 x.2) }
theorem mutR_none : ∀ {T : List (List Nat)} {ls : List Lf} {r : Nat} {x : Md × Lf}, (∀ p ∈ T, hd0 p ≠ r) → mutR T ls r x = x
  | [], _, _, _, _ => by simp [mutR]
  | _ :: _, [], _, _, _ => by simp [mutR]
  | p :: T, l :: ls, r, x, h => by
    simp only [mutR, if_neg (h p (by simp))]
    exact mutR_none fun p hp => h p (by simp [hp])
theorem mutR_at : ∀ {T : List (List Nat)} {ls : List Lf} {r i : Nat} {p : List Nat} {l' : Lf} {x : Md × Lf}, (T.map hd0).Nodup → T[i]? = some p → ls[i]? = some l' → hd0 p = r → mutR T ls r x = put1 p l' x
  | [], _, _, _, _, _, _, _, h, _, _ => by simp at h
  | _ :: _, [], _, _, _, _, _, _, _, h, _ => by simp at h
  | p0 :: T, l0 :: ls, r, 0, p, l', x, _, h1, h2, h3 => by
    simp only [List.getElem?_cons_zero, Option.some.injEq] at h1 h2
    subst h1 h2
    simp [mutR, h3]
  | p0 :: T, l0 :: ls, r, i + 1, p, l', x, hn, h1, h2, h3 => by
    simp only [List.getElem?_cons_succ] at h1 h2
    simp only [List.map_cons, List.nodup_cons] at hn
    have hne : hd0 p0 ≠ r := fun e => hn.1 (List.mem_map.2 ⟨p, List.mem_of_getElem? h1, by rw [h3, e]⟩)
    simp only [mutR, if_neg hne]
    exact mutR_at hn.2 h1 h2 h3

theorem St.mut (hs : St w0 tag0 E tag hv a w) (hT : hdsOk T) {ls : List Lf} (hfr : Fr w (tagC T tag) tag' w') (hi' : ∀ b, w'.heap.size ≤ b → tag' b = .off)
    (hpost : ∀ i p, T[i]? = some p → ∃ l' m l, ls[i]? = some l' ∧ E.at_ p = some (m, l) ∧ E.vld p ∧ (∃ e cols, m = .o e cols) ∧ hv' [900 + i] = hv p ∧ VR tag' hv' w' [900 + i] m l' (hv p)) :
    St w0 tag0 (E.mutE T ls) (tagM T w.heap.size tag tag') (hvM T hv hv') a w' := by
  have hi := hs.hi
  have hh : Hm T tag (tagM T w.heap.size tag tag') hv (hvM T hv hv') w w' := by
    refine ⟨fun b hb h => ?_, fun b q hb h hq => ?_, fun q hq => ?_⟩
    · have := keepB hfr hb (by simp [nmB, h])
      exact ⟨this.2.1.trans h, this.1⟩
    · have := keepB hfr hb (by simp [nmB, h, hq])
      exact ⟨this.2.1.trans h, this.1⟩
    · simp only [hvM]
      unfold udr at hq
      cases hw : wh T 900 q with
      | none => rfl
      | some x =>
        obtain ⟨k, rest⟩ := x
        rw [hw] at hq
        cases rest with
        | cons _ _ => simp at hq
        | nil =>
          obtain ⟨i, p, h1, rfl, h3⟩ := wh_eq hw
          rw [List.append_nil] at h3
          subst h3
          obtain ⟨_, _, _, _, _, _, _, h4, _⟩ := hpost i q h1
          exact h4
  refine ⟨hs.nt, hs.df, fun t sv h => ?_, fun b ls' h => ?_, fun r x h => ?_, hs.fr.step hfr.os hfr.tape hfr.output hfr.size fun b hb hq => ?_, fun b hb => ?_⟩
  · simp only [Env.mutE, lkp_map] at h
    obtain ⟨sv0, h1, rfl⟩ := Option.map_eq_some_iff.1 h
    exact SR.hm (hs.sl t sv0 h1) hh hi
  · simp only [Env.mutE, lkp_map, lkp_delD] at h
    obtain ⟨ls0, h1, rfl⟩ := Option.map_eq_some_iff.1 h
    split at h1
    · cases h1
    · rename_i hne
      have hw : wh T 900 [b, 0] = none := by
        cases hx : wh T 900 [b, 0] with
        | none => rfl
        | some _ => rw [hx] at hne; exact absurd rfl hne
      obtain ⟨k, cur, e, h2, h3, h4, h5⟩ := hs.bx b ls0 h1
      have hk : k < w.heap.size := by
        rcases Nat.lt_or_ge k w.heap.size with hlt | hge
        · exact hlt
        · rw [Array.getElem?_eq_none hge] at h4; cases h4
      have h6 := hh.own k [b, 0] hk h3 hw
      exact ⟨k, cur, e, by rw [hh.hv [b, 0] (by simp [udr, hw])]; exact h2, h6.1, h6.2.trans h4, (h5.imp fun _ _ h => h.hm hh hi).map_left⟩
  · simp only [Env.mutE] at h
    rw [lkp_mapk (fun k y => mutR T ls k y)] at h
    obtain ⟨x0, h1, rfl⟩ := Option.map_eq_some_iff.1 h
    have h0 := hs.rt r x0 h1
    by_cases hex : ∃ p ∈ T, hd0 p = r
    · obtain ⟨p, hp, hr⟩ := hex
      obtain ⟨i, hip⟩ := List.getElem?_of_mem hp
      obtain ⟨l', m, l, h2, h3, h4, ⟨e1, cols1, hm⟩, h5, h6⟩ := hpost i p hip
      rw [mutR_at hT.1 hip h2 hr]
      have hb := back hfr hT (hv := hv) hip h6
      have hpl := hT.2 p hp
      match p, hpl, hr, h3, h4, h5, h6, hb, hip with
      | [r'], _, hr, h3, h4, h5, h6, hb, hip =>
        simp only [hd0] at hr
        subst hr
        have e : x0 = (m, l) := by
          simp only [Env.at_, h1, Option.bind_some, getL, Option.some.injEq] at h3
          exact h3
        subst e
        have ev : hvM T hv hv' [r'] = hv [r'] := by
          have := wh_app (n := 900) (rest := []) hT hip
          simp only [List.append_nil] at this
          simp only [hvM, this]
          exact h5
        rw [ev]
        exact hb
      | [r', i0, j0], _, hr, h3, h4, h5, h6, hb, hip =>
        simp only [hd0] at hr
        subst hr
        have hst : ∀ q, (∀ rest, q ≠ [r', i0, j0] ++ rest) → q.headD 0 = r' → q ≠ [] → wh T 900 q = none := by
          intro q hq hq2 hq3
          cases hw : wh T 900 q with
          | none => rfl
          | some y =>
            exfalso
            obtain ⟨k, rest⟩ := y
            obtain ⟨i', p', q1, _, q3⟩ := wh_eq hw
            obtain ⟨a', b', rfl⟩ := plOk_cons (hT.2 p' (List.mem_of_getElem? q1))
            subst q3
            simp only [List.cons_append, List.headD_cons] at hq2
            subst hq2
            obtain ⟨_, rfl2⟩ := hd_inj hT q1 hip rfl
            exact hq rest (by rw [rfl2])
        obtain ⟨mx, lx⟩ := x0
        simp only [Env.at_, h1, Option.bind_some] at h3
        simp only [Env.vld, h1] at h4
        cases mx with
        | s => cases lx <;> simp [vldL] at h4
        | x => cases lx <;> simp [vldL] at h4
        | o e cols =>
          cases lx with
          | sc u => simp [vldL] at h4
          | ls z rows =>
            simp only [vldL] at h4
            simp only [getL, Option.some.injEq, Prod.mk.injEq] at h3
            obtain ⟨rfl, rfl⟩ := h3
            simp only [put1]
            have ev : hvM T hv hv' [r'] = hv [r'] := by
              simp only [hvM, hst [r'] (by intro rest h; simp at h) rfl (by simp)]
            rw [ev]
            have h0' : VR tag hv w [r'] (.o e cols) (.ls z rows) (hv [r']) := h0
            obtain ⟨hh0, h8 | ⟨b, c, cur, hvv, hc, hmx, ht, hbl, hsz, hl, hrr⟩⟩ := h0'.open_own
            · rw [h8.2] at h4; simp at h4
            · have hbs : b < w.heap.size := by
                rcases Nat.lt_or_ge b w.heap.size with hlt | hge
                · exact hlt
                · rw [Array.getElem?_eq_none hge] at hbl; cases hbl
              have hown := hh.own b [r'] hbs ht (hst [r'] (by intro rest h; simp at h) rfl (by simp))
              rw [hvv]
              refine .own cur (by simp) hc hmx hown.1 (ev.trans hvv) (hown.2.trans hbl) hsz (fun i' h' => rows_set_len h4.1 hl i' (by simpa using h')) (fun i' j' hi' hj' => ?_)
              by_cases hij : i' = i0 ∧ j' = j0
              · obtain ⟨rfl, rfl⟩ := hij
                rw [lf_set_same h4.1 h4.2.1 (hl _ h4.1)]
                have hcell := hrr i' j' hi' hj'
                rw [hm] at hcell hb ⊢
                have hcv : hv [r', i', j'] = cur.getD (i' * z.length + j') default := by
                  generalize hlf : lf z rows i' j' = L at hcell
                  cases L with
                  | sc u => cases hcell
                  | ls z1 rows1 => exact hcell.open_own.1
                rw [← hcv]
                exact hb
              · rw [lf_set_other h4.1 hij]
                exact (hrr i' j' hi' hj').hm hh hi (fun rest => hst _ (by
                  intro rest' h
                  simp only [List.cons_append, List.nil_append, List.cons.injEq, true_and] at h
                  exact hij ⟨h.1, h.2.1⟩) rfl (by simp))
    · rw [mutR_none (fun p hp he => hex ⟨p, hp, he⟩)]
      have hw : ∀ rest, wh T 900 ([r] ++ rest) = none := fun rest => wh_none hT.2 (fun p hp he => hex ⟨p, hp, he⟩)
      have ev : hvM T hv hv' [r] = hv [r] := by
        have := hw []
        simp only [List.append_nil] at this
        simp only [hvM, this]
      rw [ev]
      exact h0.hm hh hi hw
  · rcases hq with hq | hq
    · have := keepB hfr hb (by simp [nmB, hq])
      exact ⟨this.1, this.2.1⟩
    · have := keepB hfr hb (by simp [nmB, hq])
      exact ⟨this.1, this.2.1⟩
  · have hlt : ¬ b < w.heap.size := by have := hfr.size; omega
    simp [tagM, hlt, hi' b hb]

/-! ### the contract -/
/-- Function f, called with what reads as 'as' (its own slices 900, 901, .. stand for the caller's, and read as 'ms' says), answers the number n, and the slices read as 'ms' says then. -/
def VM (P : Program) (f : FuncId) (as : List SV) (ms : List (Md × Lf × Lf)) (n : Int) : Prop :=
  (∃ fn c, P.funcs[f]? = some fn ∧ fn.body = some c ∧ (fn.name == "runtime.NumGoroutine") = false) ∧
  ∀ (w : World) (tag : Nat → Tag) (hv : Hv) (vs : List Value), (∀ b, tag b = .sh ∨ tag b = .off ∨ ∃ k rest, tag b = .own (k :: rest) ∧ 900 ≤ k ∧ k < 900 + ms.length) → (∀ b, w.heap.size ≤ b → tag b = .off) → All2 (SR tag hv w) as vs →
    (∀ i x, ms[i]? = some x → VR tag hv w [900 + i] x.1 x.2.1 (hv [900 + i])) →
    Calls P f vs.toArray w fun e w' => ∃ tag' hv', e = .returned (.int .i64 n) ∧ Fr w tag tag' w' ∧ (∀ b, w'.heap.size ≤ b → tag' b = .off) ∧
      ∀ i x, ms[i]? = some x → hv' [900 + i] = hv [900 + i] ∧ VR tag' hv' w' [900 + i] x.1 x.2.2 (hv [900 + i])

def LV.pls : LV → List (List Nat)
  | .r q => [q]
  | _ => []
def SV.pls : SV → List (List Nat)
  | .v _ ls => ls.flatMap LV.pls
  | _ => []
def LV.mv (T : List (List Nat)) : LV → LV
  | .r q => match wh T 900 q with
    | some (k, []) => .r [k]
    | _ => .u
  | l => l
def SV.mv (T : List (List Nat)) : SV → SV
  | .v ag ls => .v ag (ls.map (LV.mv T))
  | _ => .dead
/-- The trees of the places lent are what the contract says. -/
def mPre (E : Env) : List (List Nat) → List (Md × Lf × Lf) → Prop
  | [], [] => True
  | p :: T, (m, l, _) :: ms => E.at_ p = some (m, l) ∧ E.vld p ∧ (match m with | .o _ _ => True | _ => False) ∧ mPre E T ms
  | _, _ => False
theorem mPre_len : ∀ {T : List (List Nat)} {ms : List (Md × Lf × Lf)}, mPre E T ms → T.length = ms.length
  | [], [], _ => rfl
  | [], _ :: _, h => by simp [mPre] at h
  | _ :: _, [], h => by simp [mPre] at h
  | p :: T, (m, l, l') :: ms, h => by simp [mPre_len h.2.2.2]
theorem mPre_get : ∀ {T : List (List Nat)} {ms : List (Md × Lf × Lf)} {i : Nat} {p : List Nat}, mPre E T ms → T[i]? = some p → ∃ m l l', ms[i]? = some (m, l, l') ∧ E.at_ p = some (m, l) ∧ E.vld p ∧ ∃ e cols, m = .o e cols
  | [], _, _, _, _, h => by simp at h
  | _ :: _, [], _, _, h, _ => by simp [mPre] at h
  | p0 :: T, (m, l, l') :: ms, 0, p, h, hp => by
    simp only [List.getElem?_cons_zero, Option.some.injEq] at hp
    subst hp
    obtain ⟨h1, h2, h3, _⟩ := h
    cases m with
    | o e cols => exact ⟨_, l, l', rfl, h1, h2, e, cols, rfl⟩
    | s => exact h3.elim
    | x => exact h3.elim
  | p0 :: T, (m, l, l') :: ms, i + 1, p, h, hp => by
    simp only [List.getElem?_cons_succ] at hp ⊢
    exact mPre_get h.2.2.2 hp
theorem LV.mv_ok (_ : hdsOk T) {l : LV} {v : Value} (h : LR tag hv w l v) : LR (tagC T tag) (hvC T hv) w (l.mv T) v := by
  cases l with
  | s l => exact VR.move h [] (fun b hb => ⟨by simp [tagC, hb], rfl⟩) (fun rest hr => by cases hr)
  | n z => exact h
  | u => exact h
  | r q =>
    obtain ⟨h1, A, n, c, h2⟩ := h
    simp only [LV.mv]
    split
    · rename_i k hw
      obtain ⟨i, p, q1, rfl, q3⟩ := wh_eq hw
      rw [List.append_nil] at q3
      subst q3
      refine ⟨?_, A, n, c, h2⟩
      simp [hvC, plN_at q1, h1]
    · rw [h2]; rfl
theorem SV.mv_ok (hT : hdsOk T) {s : SV} {v : Value} (h : SR tag hv w s v) : SR (tagC T tag) (hvC T hv) w (s.mv T) v := by
  cases s with
  | v ag ls =>
    obtain ⟨cs, h1, h2, h3⟩ := h
    exact ⟨cs, h1, (h2.imp fun _ _ h => LV.mv_ok hT h).map_left, by simpa using h3⟩
  | _ => trivial

/-- A call: by 'VC', or by 'VM'. -/
def CallMu (P : Program) (k : Nat) (as : List SV) (F : List (Bool × ML) → Prop) (G : List SV → List (Md × Lf × Lf) → Int → Prop) : Prop :=
  (∃ rs, VC P k as rs ∧ F rs) ∨ ∃ as' ms n, VM P k as' ms n ∧ G as' ms n
theorem CallMu.of {P : Program} {k : Nat} {as : List SV} {F : List (Bool × ML) → Prop} {G : List SV → List (Md × Lf × Lf) → Int → Prop} {rs : List (Bool × ML)} (h : VC P k as rs) (hF : F rs) : CallMu P k as F G := .inl ⟨rs, h, hF⟩
theorem CallMu.mut {P : Program} {k : Nat} {as as' : List SV} {F : List (Bool × ML) → Prop} {G : List SV → List (Md × Lf × Lf) → Int → Prop} {ms : List (Md × Lf × Lf)} {n : Int} (h : VM P k as' ms n) (hG : G as' ms n) : CallMu P k as F G := .inr ⟨as', ms, n, h, hG⟩
def kMut (ti : TT) (c : Call) (dst : Option Nat) (K : Env → Prop) (E : Env) (as' : List SV) (ms : List (Md × Lf × Lf)) (n : Int) : Prop :=
  match c.callee with
  | .value f => match opd ti E 0 f, argsO ti E c.args.toList c.argTypes.toList with
    | some (.fn _ []), some ss => as' = ss.map (SV.mv (ss.flatMap SV.pls)) ∧ hdsOk (ss.flatMap SV.pls) ∧ mPre E (ss.flatMap SV.pls) ms ∧ K ((E.mutE (ss.flatMap SV.pls) (ms.map (·.2.2))).put dst (int .i64 n))
    | _, _ => False
  | _ => False

theorem kMut_ok {K : Env → Prop} {o : Oper} {c : Call} {k : Nat} {as' : List SV} {ms : List (Md × Lf × Lf)} {n : Int} (hs : St w0 tag0 E tag hv a w) (ho : o.op = .call c)
    {C : Prop} {as : List SV} {R : List Nat} (hc : callO ti E c = some (C, k, as, R)) (hvm : VM P k as' ms n) (h : kMut ti c o.dst K E as' ms n) :
    ∃ vs : List Value, (execOp a.eval o).run P w = .ok (.enter k vs.toArray) w ∧ Calls P k vs.toArray w fun e w' => e = .returned (.int .i64 n) ∧ ∃ E' tg hh, St w0 tag0 E' tg hh a w' ∧ K (E'.put o.dst (int .i64 n)) := by
  obtain ⟨callee, args, ats⟩ := c
  unfold kMut at h
  simp only at h
  split at h
  · rename_i f
    split at h
    · rename_i k' ss h1 h2
      obtain ⟨rfl, hT, hpre, hK⟩ := h
      have hkk : k' = k := by
        simp only [callO, h1, h2] at hc
        split at hc
        · cases hc
          rfl
        · cases hc
      subst hkk
      generalize hTT : ss.flatMap SV.pls = T at hT hpre hK hvm
      obtain ⟨cs, h4, h5⟩ := opd_ok hs h1
      cases h5
      have h6 := argsO_ok hs h2
      refine ⟨args.toList.map a.eval, ?_, ?_⟩
      · obtain ⟨fn, b, q1, q2, q3⟩ := hvm.1
        have q4 : args.map a.eval = (args.toList.map a.eval).toArray := by
          apply Array.ext'
          simp
        rw [← q4]
        simp only [execOp, ho, resolve, Sem.run_bind, h4, Deferred.ofValue, Sem.run_pure, Result.andThen_ok, invoke, callFunc, run_program, q1, q3, Bool.false_eq_true, if_false, q2, Option.isNone_some, Array.empty_append]
        simp
      · have hlen := mPre_len hpre
        refine (hvm.2 w (tagC T tag) (hvC T hv) _ (fun b => ?_) (fun b hb => ?_) (All2.map_left (h6.imp fun _ _ h => SV.mv_ok hT h)) (fun i x hx => ?_)).mono ?_
        · rw [← hlen]
          exact tagC_cases b
        · simp [tagC, hs.hi b hb]
        · have hi : i < T.length := by rw [hlen]; exact (List.getElem?_eq_some_iff.1 hx).1
          have hp : T[i]? = some T[i] := List.getElem?_eq_getElem hi
          obtain ⟨m, l, l', q1, q2, q3, e, cols, rfl⟩ := mPre_get hpre hp
          rw [hx] at q1
          cases q1
          have ev : hvC T hv [900 + i] = hv T[i] := by simp [hvC, plN_at hp]
          rw [ev]
          refine fwd hT hp ?_
          cases l with
          | ls z rows => exact at_own hs q2 q3
          | sc u =>
            exfalso
            obtain ⟨r, rest, hrr⟩ := plOk_cons (hT.2 _ (List.getElem_mem hi))
            rw [hrr] at q2 q3
            simp only [Env.at_, Env.vld] at q2 q3
            cases hx0 : lkp E.rt r with
            | none => rw [hx0] at q2; simp at q2
            | some x0 =>
              rw [hx0] at q2 q3
              simp only [Option.bind_some] at q2
              obtain ⟨v', h9, _⟩ := VR.get rest _ _ _ _ _ _ (hs.rt r x0 hx0) q3 q2
              cases h9
        · rintro e w' ⟨tag', hv', rfl, hfr, hi', hpost⟩
          refine ⟨rfl, _, _, _, hs.mut (hv' := hv') hT (ls := ms.map (·.2.2)) hfr hi' (fun i p hp => ?_), hK⟩
          obtain ⟨m, l, l', q1, q2, q3, q4⟩ := mPre_get hpre hp
          obtain ⟨q5, q6⟩ := hpost i _ q1
          have ev : hvC T hv [900 + i] = hv p := by simp [hvC, plN_at hp]
          rw [ev] at q5 q6
          exact ⟨l', m, l, by rw [List.getElem?_map, q1]; rfl, q2, q3, q4, q5, q6⟩
    · exact h.elim
  · exact h.elim
end Go.Sm
