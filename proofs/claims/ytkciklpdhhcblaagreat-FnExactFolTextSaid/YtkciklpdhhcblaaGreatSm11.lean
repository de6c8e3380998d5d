import Derived.Test.YtkciklpdhhcblaaGreatSm10
/-
  Regions: 'ev', a weakest precondition over a list of operations.
-/
namespace Go.Sm
open Go.RowKit

variable {P : Program} {ti : TT} {E : Env} {tag tag' tag0 : Nat → Tag} {hv hv' : Hv} {a : Act} {w w' w0 : World} {t d : Nat}

/-! ### guards -/
def gcond : SV → Bool → Option Bool
  | .v false [.s (.sc (.bool c))], b => some (if b then c else !c)
  | .g c s, b => match gcond s b with
    | some y => some (c && y)
    | none => none
  | _, _ => none
theorem gcond_ok : ∀ {sv : SV} {b g : Bool} {v : Value}, SR tag hv w sv v → gcond sv b = some g → (∃ y, v = .bool y ∧ (y == b) = g) ∨ (v = undef ∧ g = false)
  | .v ag ls, b, g, v, h, hg => by
    unfold gcond at hg
    split at hg
    · rename_i c b' heq
      cases heq
      cases hg
      refine .inl ⟨b', SR_bool h, ?_⟩
      rename_i b0 _
      cases b' <;> cases b0 <;> rfl
    · rename_i heq; cases heq
    · cases hg
  | .g c s, b, g, v, h, hg => by
    simp only [gcond] at hg
    split at hg
    · rename_i y hy
      cases hg
      cases c with
      | true => simpa using gcond_ok (h.1 rfl) hy
      | false => exact .inr ⟨h.2 rfl, rfl⟩
    · cases hg
  | .dead, b, g, v, h, hg => by simp [gcond] at hg
  | .tu _, b, g, v, h, hg => by simp [gcond] at hg
  | .p _, b, g, v, h, hg => by simp [gcond] at hg
  | .fn _ _, b, g, v, h, hg => by simp [gcond] at hg
  | .pin _ _, b, g, v, h, hg => by simp [gcond] at hg

def unS : SV → SV
  | .g _ s => s
  | s => s
def Env.un (E : Env) (ts : List Nat) : Env := { E with sl := E.sl.map fun y => (y.1, if ts.contains y.1 then unS y.2 else y.2) }
def gsOk (E : Env) : List Nat → Prop
  | [] => True
  | t :: r => (match lkp E.sl t with | some (.g c _) => c = true | _ => True) ∧ gsOk E r
theorem lkp_mapk {α : Type} (f : Nat → α → α) (t : Nat) : ∀ l : List (Nat × α), lkp (l.map fun y => (y.1, f y.1 y.2)) t = (lkp l t).map (f t)
  | [] => rfl
  | (k, y) :: r => by
    simp only [List.map_cons, lkp]
    split
    · rename_i h; subst h; rfl
    · exact lkp_mapk f t r
theorem gsOk_mem : ∀ {ts : List Nat}, gsOk E ts → ∀ t ∈ ts, match lkp E.sl t with | some (.g c _) => c = true | _ => True
  | [], _, t, ht => by simp at ht
  | s :: r, h, t, ht => by
    rcases List.mem_cons.1 ht with rfl | ht
    · exact h.1
    · exact gsOk_mem h.2 t ht
theorem St.un (hs : St w0 tag0 E tag hv a w) {ts : List Nat} (h : gsOk E ts) : St w0 tag0 (E.un ts) tag hv a w := by
  refine ⟨hs.nt, hs.df, fun t sv hl => ?_, hs.bx, hs.rt, hs.fr, hs.hi⟩
  simp only [Env.un] at hl
  rw [lkp_mapk (fun k y => if ts.contains k then unS y else y)] at hl
  obtain ⟨s, h1, rfl⟩ := Option.map_eq_some_iff.1 hl
  have h2 := hs.sl t s h1
  split
  · rename_i hm
    have h3 := gsOk_mem h t (by simpa using hm)
    rw [h1] at h3
    cases s with
    | g c s => exact h2.1 h3
    | _ => exact h2
  · exact h2

def tm : Operand → List Nat
  | .tmp t => [t]
  | _ => []
def opTmps : Op → List Nat
  | .move x | .assign x | .unOp _ _ x | .convert _ _ x | .load _ x | .fieldAddr _ x _ | .field _ x _ | .extract x _ | .nilCheck x => tm x
  | .binOp _ _ x y _ | .indexAddr _ x y | .index _ x y => tm x ++ tm y
  | .slice _ x lo hi _ => tm x ++ ((match lo with | some y => tm y | none => []) ++ (match hi with | some y => tm y | none => []))
  | .call c => (match c.callee with | .value f => tm f | _ => []) ++ c.args.toList.flatMap tm
  | .build _ parts => parts.toList.flatMap fun q => tm q.2
  | .makeFunc _ first caps => first.toList.flatMap tm ++ caps.toList.flatMap tm
  | _ => []

def guardB (E : Env) (ops : List Oper) (j : Nat) (b : Bool) : Option Bool :=
  match ops[j]? with
  | some o => match o.dst with
    | some t => match lkp E.sl t with
      | some sv => gcond sv b
      | none => none
    | none => none
  | none => none
theorem guardB_ok {ops : Array Oper} {j : Nat} {b g : Bool} (hs : St w0 tag0 E tag hv a w) (h : guardB E ops.toList j b = some g) : (yielded ops a.tmps j == some b) = g := by
  unfold guardB at h
  split at h
  · rename_i o ho
    split at h
    · rename_i t ht
      split at h
      · rename_i sv hl
        have ho' : ops[j]? = some o := by rw [← Array.getElem?_toList]; exact ho
        have h1 := hs.sl t sv hl
        simp only [Act.eval, Array.getD_eq_getD_getElem?] at h1
        simp only [yielded, ho', Option.bind_some, ht]
        rcases gcond_ok h1 h with ⟨y, hy, hyb⟩ | ⟨hu, rfl⟩
        · cases hq : a.tmps[t]? with
          | none =>
            rw [hq] at hy
            simp only [Option.getD_none] at hy
            cases hy
          | some v =>
            rw [hq] at hy
            simp only [Option.getD_some] at hy
            subst hy
            simpa using hyb
        · cases hq : a.tmps[t]? with
          | none => rfl
          | some v =>
            rw [hq] at hu
            simp only [Option.getD_some] at hu
            subst hu
            rfl
      · cases h
    · cases h
  · cases h

/-! ### calls -/
def argsO (ti : TT) (E : Env) : List Operand → List TypeId → Option (List SV)
  | [], _ => some []
  | x :: r, ts => match opd ti E (ts.headD 0) x, argsO ti E r ts.tail with
    | some s, some ss => some (s :: ss)
    | _, _ => none
def Env.shSs (E : Env) : List SV → Option (Prop × List SV)
  | [] => some (True, [])
  | y :: r => match E.shS y, E.shSs r with
    | some (C, l), some (D, ls) => some (C ∧ D, l :: ls)
    | _, _ => none
theorem argsO_ok (hs : St w0 tag0 E tag hv a w) : ∀ {xs : List Operand} {ts : List TypeId} {ss : List SV}, argsO ti E xs ts = some ss → All2 (SR tag hv w) ss (xs.map a.eval)
  | [], ts, ss, h => by
    simp only [argsO, Option.some.injEq] at h
    subst h
    exact .nil
  | y :: r, ts, ss, h => by
    simp only [argsO] at h
    split at h
    · rename_i s ss' h1 h2
      cases h
      exact .cons (opd_ok hs h1) (argsO_ok hs h2)
    · cases h
theorem shSs_ok {R : List Nat} (hs : St w0 tag0 E tag hv a w) : ∀ {ss ss' : List SV} {C : Prop} {vs : List Value}, E.shSs ss = some (C, ss') → C → (∀ k ∈ ss.flatMap E.nm, k ∈ R) → All2 (SR tag hv w) ss vs → All2 (SR (lend R tag) hv' w) ss' vs
  | [], ss', C, vs, h, hC, hR, hy => by
    simp only [Env.shSs, Option.some.injEq, Prod.mk.injEq] at h
    obtain ⟨rfl, rfl⟩ := h
    cases hy
    exact .nil
  | y :: r, ss', C, vs, h, hC, hR, hy => by
    simp only [Env.shSs] at h
    split at h
    · rename_i C1 l D1 ls h1 h2
      cases h
      cases hy with
      | cons hy hys => exact .cons (shS_ok hs h1 hC.1 (fun k hk => hR k (by simp [hk])) hy) (shSs_ok hs h2 hC.2 (fun k hk => hR k (by rw [List.flatMap_cons]; exact List.mem_append_right _ hk)) hys)
    · cases h
theorem All2.append {α β : Type} {R : α → β → Prop} {as as' : List α} {bs bs' : List β} (h : All2 R as bs) (h' : All2 R as' bs') : All2 R (as ++ as') (bs ++ bs') := by
  induction h with
  | nil => exact h'
  | cons h _ ih => exact .cons h ih

/-- What a call asks for: the function, its arguments as they are lent, the names lent. -/
def callO (ti : TT) (E : Env) (c : Call) : Option (Prop × Nat × List SV × List Nat) :=
  match c.callee with
  | .value f => match opd ti E 0 f, argsO ti E c.args.toList c.argTypes.toList with
    | some (.fn k caps), some ss => match E.shSs (ss ++ caps.map SV.p) with
      | some (C, as) => some (C, k, as, (ss ++ caps.map SV.p).flatMap E.nm)
      | none => none
    | _, _ => none
  | _ => none

theorem callO_ok {o : Oper} {c : Call} {C : Prop} {k : Nat} {as : List SV} {R : List Nat} (hs : St w0 tag0 E tag hv a w) (ho : o.op = .call c) (h : callO ti E c = some (C, k, as, R)) (hC : C)
    (hf : ∃ fn b, P.funcs[k]? = some fn ∧ fn.body = some b ∧ (fn.name == "runtime.NumGoroutine") = false) :
    ∃ vs : List Value, (execOp a.eval o).run P w = .ok (.enter k vs.toArray) w ∧ All2 (SR (lend R tag) hv w) as vs := by
  obtain ⟨callee, args, ats⟩ := c
  unfold callO at h
  simp only at h
  split at h
  · rename_i f
    split at h
    · rename_i k' caps ss h1 h2
      split at h
      · rename_i C' as' h3
        cases h
        obtain ⟨cs, h4, h5⟩ := opd_ok hs h1
        have h6 := argsO_ok hs h2
        have h7 : All2 (SR tag hv w) (ss ++ caps.map SV.p) (args.toList.map a.eval ++ cs) := h6.append (All2.map_left (f := SV.p) (R := SR tag hv w) h5)
        refine ⟨args.toList.map a.eval ++ cs, ?_, shSs_ok hs h3 hC (fun k hk => hk) h7⟩
        obtain ⟨fn, b, q1, q2, q3⟩ := hf
        have q4 : (args.map a.eval ++ cs.toArray) = (args.toList.map a.eval ++ cs).toArray := by
          apply Array.ext'
          simp
        rw [← q4]
        simp only [execOp, ho, resolve, Sem.run_bind, h4, Deferred.ofValue, Sem.run_pure, Result.andThen_ok, invoke, callFunc, run_program, q1, q3, Bool.false_eq_true, if_false, q2, Option.isNone_some, Array.empty_append]
      · cases h
    · cases h
  · cases h
end Go.Sm
