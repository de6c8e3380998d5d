import Derived.Test.YtkciklpdhhcblaaGreatSm1
/-
  The environment of a frame by values ('Env'), what it says of memory ('St'), and a weakest precondition over it, computed on the code ('ew').
-/
namespace Go.Sm
open Go.RowKit

/-- One cell of a value in a slot. -/
inductive LV where
  | s (l : Lf)
  | n (z : List Lf)
  | r (p : List Nat)
  | u
instance : Inhabited LV := ⟨.u⟩

/-- A pointer: into row i of the slice at p, whose rows have sz cells, from cell off; into a box; or to cells that nobody writes. Or a part of the slice at p: n rows of it from row lo on. -/
inductive PV where
  | pt (p : List Nat) (sz i off : Nat)
  | bx (b off : Nat)
  | ps (ds : List Lf)
  | vw (p : List Nat) (sz lo n : Nat)

inductive SV where
  | dead
  | v (agg : Bool) (ls : List LV)
  | tu (parts : List (Bool × List LV))
  | p (x : PV)
  | fn (k : Nat) (caps : List PV)
  | g (c : Bool) (s : SV)
  | pin (r : Nat) (x : Value)
instance : Inhabited SV := ⟨.dead⟩

/-- nt: how many slots; sl: what is known of slots; bx: the boxes (variables in memory), by their cells; rt: the slices of the call's own. -/
structure Env where
  nt : Nat
  sl : List (Nat × SV)
  bx : List (Nat × List LV)
  rt : List (Nat × Md × Lf)

def lkp {α : Type} : List (Nat × α) → Nat → Option α
  | [], _ => none
  | (k, x) :: r, t => if k = t then some x else lkp r t
def putL {α : Type} : List (Nat × α) → Nat → α → List (Nat × α)
  | [], t, y => [(t, y)]
  | (k, x) :: r, t, y => if k = t then (k, y) :: r else (k, x) :: putL r t y
def delL {α : Type} : List (Nat × α) → Nat → List (Nat × α)
  | [], _ => []
  | (k, x) :: r, t => if k = t then delL r t else (k, x) :: delL r t

theorem lkp_putL {α : Type} (t t' : Nat) (y : α) : ∀ l : List (Nat × α), lkp (putL l t y) t' = if t = t' then some y else lkp l t'
  | [] => by simp [putL, lkp]
  | (k, x) :: r => by
    simp only [putL]
    by_cases h : k = t
    · subst h
      simp only [if_true, lkp]
      by_cases h2 : k = t' <;> simp [h2]
    · simp only [if_neg h, lkp, lkp_putL t t' y r]
      by_cases h2 : k = t'
      · subst h2
        simp [Ne.symm h]
      · simp [h2]
theorem lkp_delL {α : Type} (t t' : Nat) : ∀ l : List (Nat × α), lkp (delL l t) t' = if t = t' then none else lkp l t'
  | [] => by simp [delL, lkp]
  | (k, x) :: r => by
    simp only [delL]
    by_cases h : k = t
    · subst h
      simp only [if_true, lkp_delL k t' r, lkp]
      by_cases h2 : k = t' <;> simp [h2]
    · simp only [if_neg h, lkp, lkp_delL t t' r]
      by_cases h2 : k = t'
      · subst h2
        simp [Ne.symm h]
      · simp [h2]

/-! ### what it says of memory -/
section
variable (tag : Nat → Tag) (hv : Hv) (w : World)

def LR : LV → Value → Prop
  | .s l, v => VR tag hv w [] .s l v
  | .n _, v => v = .slice none 0 0
  | .r p, v => v = hv p ∧ ∃ a n c, v = .slice a n c
  | .u, v => v.oneCell' = true

inductive All2 {α β : Type} (R : α → β → Prop) : List α → List β → Prop
  | nil : All2 R [] []
  | cons {a b as bs} (h : R a b) (hs : All2 R as bs) : All2 R (a :: as) (b :: bs)

/-- A value out of its cells. -/
def mkV : Bool → List Value → Value
  | true, cs => .agg cs.toArray
  | false, c :: _ => c
  | false, [] => .tuple #[]

def VV (agg : Bool) (ls : List LV) (v : Value) : Prop := ∃ cs, v = mkV agg cs ∧ All2 (LR tag hv w) ls cs ∧ (agg = false → ls.length = 1)

def PR : PV → Value → Prop
  | .pt p sz i off, v => ∃ b n c, hv p = .slice (some ⟨b, 0, none⟩) n c ∧ v = .pointer (some ⟨b, i * sz + off, none⟩)
  | .bx b off, v => ∃ k, hv [b, 0] = .pointer (some ⟨k, 0, none⟩) ∧ v = .pointer (some ⟨k, off, none⟩)
  | .vw p sz lo n, v => (∃ b N c o, hv p = .slice (some ⟨b, 0, none⟩) N c ∧ v = .slice (some ⟨b, o, none⟩) n (c - lo) ∧ (lo < c ∨ lo = 0 → o = lo * sz) ∧ lo + n ≤ c) ∨ (hv p = .slice none 0 0 ∧ v = .slice none 0 0 ∧ n = 0 ∧ lo = 0)
  | .ps ds, v => ∃ b off, v = .pointer (some ⟨b, off, none⟩) ∧ tag b = .sh ∧ ∀ j, j < ds.length → ∃ u, w.cell? ⟨b, off + j, none⟩ = some u ∧ VR tag hv w [] .s (ds.getD j default) u

def SR : SV → Value → Prop
  | .dead, _ => True
  | .v agg ls, v => VV tag hv w agg ls v
  | .tu parts, v => ∃ vs, v = .tuple vs.toArray ∧ All2 (fun (q : Bool × List LV) u => VV tag hv w q.1 q.2 u) parts vs
  | .p x, v => PR tag hv w x v
  | .fn k caps, v => ∃ vs, v = .func (.func k) #[] vs.toArray ∧ All2 (PR tag hv w) caps vs
  | .g c s, v => (c = true → SR s v) ∧ (c = false → v = undef)
  | .pin r x, _ => hv [r] = x
end

/-- What a call leaves of what was there. -/
structure Fr (w0 : World) (tag0 tag : Nat → Tag) (w : World) : Prop where
  os : w.os = w0.os
  tape : w.tape = w0.tape
  output : w.output = w0.output
  size : w0.heap.size ≤ w.heap.size
  heap : ∀ b, b < w0.heap.size → (tag0 b = .sh ∨ tag0 b = .off) → w.heap[b]? = w0.heap[b]? ∧ tag b = tag0 b

structure St (w0 : World) (tag0 : Nat → Tag) (E : Env) (tag : Nat → Tag) (hv : Hv) (a : Act) (w : World) : Prop where
  nt : a.tmps.size = E.nt
  df : a.defers = []
  sl : ∀ t sv, lkp E.sl t = some sv → SR tag hv w sv (a.eval (.tmp t))
  bx : ∀ b ls, lkp E.bx b = some ls → ∃ k cur e, hv [b, 0] = .pointer (some ⟨k, 0, none⟩) ∧ tag k = .own [b, 0] ∧ w.heap[k]? = some (.cells cur e (0, 0)) ∧ All2 (LR tag hv w) ls cur.toList
  rt : ∀ r x, lkp E.rt r = some x → VR tag hv w [r] x.1 x.2 (hv [r])
  fr : Fr w0 tag0 tag w
  hi : ∀ b, w.heap.size ≤ b → tag b = .off
end Go.Sm
