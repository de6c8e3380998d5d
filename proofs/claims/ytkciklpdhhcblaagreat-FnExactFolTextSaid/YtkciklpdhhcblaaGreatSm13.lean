import Derived.Test.YtkciklpdhhcblaaGreatSm12
import Derived.Orders
/-
  Regions whose order is open: operations that only make values, and calls that answer plain values.
-/
namespace Go.Sm
open Go.RowKit

variable {P : Program} {ti : TT} {E : Env} {tag tag' tag0 : Nat → Tag} {hv hv' : Hv} {a : Act} {w w' w0 : World} {t d : Nat}
variable {N : Act → World → Prop} {Q : Exit → Act → World → Prop} {K : Env → Prop}

def lks (ops : List Oper) (o : Oper) : List Nat :=
  opTmps2 o.op ++ (match o.guard with
    | some (j, _) => match ops[j]? with
      | some oj => match oj.dst with | some t => [t] | none => []
      | none => []
    | none => [])
where opTmps2 : Op → List Nat
  | .pick c x y => tm c ++ (tm x ++ tm y)
  | .buildSlice _ _ parts => parts.toList.flatMap fun q => tm q.2
  | op => opTmps op

abbrev RT := List (Nat × Md × Lf)
/-- What goes on behind an operation: what it puts, the slices of the call's own that it makes, those that it uses up. -/
abbrev DK := SV → RT → List Nat → Prop
def kCallD (R : List Nat) (d : Nat) (dst : Option Nat) (K : DK) (rs : List (Bool × ML)) : Prop := (R = [] ∨ OwRs rs) ∧ d < 1000 ∧ dst.isSome = true ∧ K (resS d rs) (resRs d 0 rs) []
def kCallDG (R : List Nat) (g : Bool) (K : DK) (rs : List (Bool × ML)) : Prop := (R = [] ∨ OwRs rs) ∧ FullRs rs ∧ K (.g g (frzS rs)) [] []
def ksL : Option Nat → Option Nat → List Nat
  | none, none => []
  | some k, none => [k]
  | none, some k => [k]
  | some k, some k' => [k, k']
def appDS (ti : TT) (E : Env) (d t1 t2 : Nat) (s x : Operand) : Option (Prop × List Nat × (Md × Lf)) :=
  match opd ti E t1 s, opd ti E t2 x, (ti t1).elt with
  | some (.v false [b]), some sv, some e => match E.appB e b, appZ ti E e b with
    | some (C1, rows, cols, k), some z => match E.appS ti z t2 sv with
      | some (C2, rows', cols', kill) => some ((ti t1).ok = true ∧ (ti t2).ok = true ∧ (ti e).ok = true ∧ (ti e).sz = z.length ∧ d < 1000 ∧ C1 ∧ C2 ∧ (rows.length + rows'.length) * (ti e).by_ ≤ 140737488355328 ∧ (∀ r, kill = some r → k ≠ some r),
          ksL k kill, (.o e (appC rows.length k cols cols'), .ls z (rows ++ rows')))
      | none => none
    | _, _ => none
  | _, _, _ => none
def appDX (ti : TT) (E : Env) (d : Nat) (c : Call) : Option (Prop × List Nat × (Md × Lf)) :=
  match c.callee, c.args.toList, c.argTypes.toList with
  | .builtin .append, [s, x], [t1, t2] => appDS ti E d t1 t2 s x
  | _, _, _ => none
def Env.bsD (E : Env) (d e n : Nat) (ms : List Md) (z : List Lf) (F : List LV) : Option (Prop × List Nat × (Md × Lf)) :=
  match E.yvsR ms (chunks z.length n F) with
  | some ys => some (((mvsR d 0 (chunks z.length n F)).map (·.1)).Nodup ∧ F.length = n * z.length, (mvsR d 0 (chunks z.length n F)).map (·.1), (.o e (colsE ms z (ys.map fun r => r.map (·.1))), .ls z (ys.map fun r => r.map (·.2))))
  | none => none
def bsDO (ti : TT) (E : Env) (d t n : Nat) (parts : List (Nat × Operand)) : Option (Prop × List Nat × (Md × Lf)) :=
  match (ti t).elt with
  | some e => match bparts ti E (fun i => some (i * (ti e).sz, e)) parts (List.replicate n ((ti e).z.map zLV)).flatten with
    | some (C, F) => match E.bsD d e n (ti e).ms (ti e).z F with
      | some (D, r) => some ((ti t).ok = true ∧ (ti e).ok = true ∧ n * (ti e).sz ≤ 16777216 ∧ d < 1000 ∧ C ∧ D, r)
      | none => none
    | none => none
  | none => none
/-- A call, by 'VC' or by 'VX'. -/
def CallD (P : Program) (k : Nat) (as : List SV) (F : List (Bool × ML) → Prop) (H : List SV → List (Md × Lf) → List (Bool × ML) → Prop) : Prop := (∃ rs, VC P k as rs ∧ F rs) ∨ ∃ as' ms rs, VX P k as' ms rs ∧ H as' ms rs
theorem CallD.of {P : Program} {k : Nat} {as : List SV} {F : List (Bool × ML) → Prop} {H : List SV → List (Md × Lf) → List (Bool × ML) → Prop} {rs : List (Bool × ML)} (h : VC P k as rs) (hF : F rs) : CallD P k as F H := .inl ⟨rs, h, hF⟩
theorem CallD.use {P : Program} {k : Nat} {as as' : List SV} {F : List (Bool × ML) → Prop} {H : List SV → List (Md × Lf) → List (Bool × ML) → Prop} {ms : List (Md × Lf)} {rs : List (Bool × ML)} (h : VX P k as' ms rs) (hH : H as' ms rs) : CallD P k as F H := .inr ⟨as', ms, rs, h, hH⟩
def kUseD (ti : TT) (c : Call) (d : Nat) (dst : Option Nat) (K : DK) (E : Env) (as' : List SV) (ms : List (Md × Lf)) (rs : List (Bool × ML)) : Prop :=
  match c.callee with
  | .value f => match opd ti E 0 f, argsO ti E c.args.toList c.argTypes.toList with
    | some (.fn _ []), some ss => match E.usS (ss.flatMap SV.pls) ss with
      | some (C, ss') => C ∧ as' = ss' ∧ hdsOk (ss.flatMap SV.pls) ∧ (∀ p ∈ ss.flatMap SV.pls, hd0 p ∉ ss.flatMap (SV.lnm E)) ∧ (∀ p ∈ ss.flatMap SV.pls, p.length = 1) ∧ uPre E (ss.flatMap SV.pls) ms ∧ (ss.flatMap (SV.lnm E) = [] ∨ OwRs rs) ∧ d < 1000 ∧ dst.isSome = true ∧
        K (resS d rs) (resRs d 0 rs) ((ss.flatMap SV.pls).map hd0)
      | none => False
    | _, _ => False
  | _ => False
def dU (P : Program) (ti : TT) (o : Oper) (K : DK) (E : Env) : Prop :=
  match o.op with
  | .pick c x y => match pick3 ti E c x y with
    | some (C, r) => C ∧ K (bool r) [] []
    | none => False
  | .alloc t => (ti t).ok = true ∧ msK (ti t).ms (ti t).z = true ∧ o.dst.isSome = true ∧ dn o < 1000 ∧ K (.p (.pt [dn o] (ti t).z.length 0 0)) [(dn o, .o t (fun _ => msF (ti t).ms (ti t).z), .ls (ti t).z [(ti t).z])] []
  | .buildSlice t n parts => match bsDO ti E (dn o) t n parts.toList with
    | some (C, ks, m, l) => C ∧ o.dst.isSome = true ∧ dn o < 1000 ∧ K (.v false [.r [dn o]]) [(dn o, m, l)] ks
    | none => False
  | .call c => match callO ti E c with
    | some (C, k, as, R) => C ∧ CallD P k as (kCallD R (dn o) o.dst K) (kUseD ti c (dn o) o.dst K E)
    | none => match pur ti E o with
      | some (C, sv) => C ∧ K sv [] []
      | none => match appDX ti E (dn o) c with
        | some (C, ks, m, l) => C ∧ o.dst.isSome = true ∧ dn o < 1000 ∧ K (.v false [.r [dn o]]) [(dn o, m, l)] ks
        | none => False
  | _ => match pur ti E o with
    | some (C, sv) => C ∧ K sv [] []
    | none => False
def dG (P : Program) (ti : TT) (g : Bool) (o : Oper) (K : DK) (E : Env) : Prop :=
  match o.op with
  | .pick c x y => match pick3 ti E c x y with
    | some (C, r) => (g = true → C) ∧ K (.g g (bool r)) [] []
    | none => False
  | .call c => match callO ti (E.un (opTmps o.op)) c with
    | some (C, k, as, R) => CallG P (g = true) (gsOk E (opTmps o.op) ∧ C) k as (kCallDG R g K)
    | none => match pur ti (E.un (opTmps o.op)) o with
      | some (C, sv) => (g = true → gsOk E (opTmps o.op) ∧ C) ∧ K (.g g sv) [] []
      | none => False
  | _ => match pur ti (E.un (opTmps o.op)) o with
    | some (C, sv) => (g = true → gsOk E (opTmps o.op) ∧ C) ∧ K (.g g sv) [] []
    | none => False

/-! ### names -/
def LV.nms : LV → List Nat
  | .r (k :: _) => [k]
  | _ => []
def PV.nms : PV → List Nat
  | .pt (k :: _) _ _ _ => [k]
  | .vw (k :: _) _ _ _ => [k]
  | .bx b _ => [b]
  | _ => []
def SV.nms : SV → List Nat
  | .v _ ls => ls.flatMap LV.nms
  | .tu ps => ps.flatMap fun q => q.2.flatMap LV.nms
  | .p q => q.nms
  | .fn _ caps => caps.flatMap PV.nms
  | .g _ s => s.nms
  | .pin r _ => [r]
  | .dead => []
/-- The slots ts, and of the slices of the call's own those that are named there or in boxes. -/
def Env.kp (E : Env) (ts : List Nat) : Env :=
  { E with sl := keepL E.sl ts, rt := keepL E.rt ((keepL E.sl ts).flatMap (fun x => x.2.nms) ++ E.bx.flatMap fun x => x.2.flatMap LV.nms) }
theorem St.kp (hs : St w0 tag0 E tag hv a w) (ts : List Nat) : St w0 tag0 (E.kp ts) tag hv a w :=
  hs.weak rfl (fun t sv h => lkp_keepL _ t sv ts h) (fun _ _ h => h) (fun r y h => lkp_keepL _ r y _ h)
def Env.addR (E : Env) (rts : RT) : Env := { E with rt := rts ++ E.rt }

def isCallO (o : Oper) : Bool := match o.op with
  | .call c => match c.callee with | .value _ => o.dst.isSome | .builtin .append => o.dst.isSome | _ => false
  | .buildSlice _ _ _ => o.dst.isSome
  | .alloc _ => o.dst.isSome
  | _ => false
def predB (ops : List Oper) (i j : Nat) : Bool := match ops[i]? with
  | some o => o.after.toList.any fun e => Region.binds .any e && e.on == j
  | none => false
/-- Operation i comes ahead of k, by edges. -/
def closE (rc : Nat → Bool) (i : Nat) : List Edge → Bool
  | [] => false
  | e :: r => if Region.binds .any e = true then (if e.on ≤ i then closE rc i r else if rc e.on = true then true else closE rc i r) else closE rc i r
theorem closE_mem {rc : Nat → Bool} {i : Nat} : ∀ {l : List Edge}, closE rc i l = true → ∃ e ∈ l, Region.binds .any e = true ∧ rc e.on = true
  | [], h => by cases h
  | e :: r, h => by
    simp only [closE] at h
    split at h
    · rename_i hb
      split at h
      · obtain ⟨e', h1, h2⟩ := closE_mem h
        exact ⟨e', by simp [h1], h2⟩
      · split at h
        · rename_i hr
          exact ⟨e, by simp, hb, hr⟩
        · obtain ⟨e', h1, h2⟩ := closE_mem h
          exact ⟨e', by simp [h1], h2⟩
    · obtain ⟨e', h1, h2⟩ := closE_mem h
      exact ⟨e', by simp [h1], h2⟩
def closB (ops : List Oper) : Nat → Nat → Nat → Bool
  | 0, _, _ => false
  | f + 1, i, k => if predB ops k i = true then true else match ops[k]? with
    | some o => closE (closB ops f i) i o.after.toList
    | none => false
def LV.hit (d : Nat → Bool) : LV → Bool
  | .r (k :: _) => d k
  | .r [] => true
  | _ => false
def SV.hit (d : Nat → Bool) : SV → Bool
  | .v _ ls => ls.any (LV.hit d)
  | .tu ps => ps.any fun q => q.2.any (LV.hit d)
  | .p q => q.hd d
  | .fn _ caps => caps.any (PV.hd d)
  | .g _ s => s.hit d
  | .pin r _ => d r
  | .dead => false
/-- The calls whose answers may be the call's own: their places, their slots. -/
def callsOf : List Oper → Nat → List (Nat × Nat)
  | [], _ => []
  | o :: r, i => match isCallO o with
    | true => (i, dn o) :: callsOf r (i + 1)
    | false => callsOf r (i + 1)
theorem callsOf_mem : ∀ {l : List Oper} {n i : Nat} {o : Oper}, l[i]? = some o → isCallO o = true → (n + i, dn o) ∈ callsOf l n
  | [], _, _, _, h, _ => by simp at h
  | x :: r, n, 0, o, h, hc => by
    simp only [List.getElem?_cons_zero, Option.some.injEq] at h
    subst h
    simp [callsOf, hc]
  | x :: r, n, i + 1, o, h, hc => by
    have := callsOf_mem (l := r) (n := n + 1) (i := i) (by simpa using h) hc
    rw [show n + 1 + i = n + (i + 1) by omega] at this
    unfold callsOf
    split
    · exact List.mem_cons_of_mem _ this
    · exact this
/-- What operation k puts names no answer of a call that need not have come ahead of it. -/
def clrL (ops : List Oper) (k : Nat) (sv : SV) : List (Nat × Nat) → Prop
  | [] => True
  | (i, d) :: r => (if sv.hit (fam d) = true then (if i = k then True else closB ops ops.length i k = true) else True) ∧ clrL ops k sv r
theorem clrL_mem {ops : List Oper} {k : Nat} {sv : SV} : ∀ {L : List (Nat × Nat)} {i d : Nat}, clrL ops k sv L → (i, d) ∈ L → i ≠ k → sv.hit (fam d) = true → closB ops ops.length i k = true
  | [], _, _, _, h => by cases h
  | (i', d') :: r, i, d, h, hm => by
    rcases List.mem_cons.1 hm with e | hm
    · cases e
      intro h1 h2
      have h3 := h.1
      rwa [if_pos h2, if_neg h1] at h3
    · exact clrL_mem h.2 hm
theorem clrL_ok {ops : List Oper} {k : Nat} {sv : SV} (h : clrL ops k sv (callsOf ops 0)) (i : Nat) (o : Oper) (ho : ops[i]? = some o) (hc : isCallO o = true) (hne : 0 + i ≠ k) (hh : sv.hit (fam (dn o)) = true) : closB ops ops.length (0 + i) k = true :=
  clrL_mem h (callsOf_mem ho hc) hne hh

/-! ### what is used up -/
def inL : List Nat → Nat → Bool
  | [], _ => false
  | k :: r, x => if k = x then true else inL r x
theorem inL_mem : ∀ {l : List Nat} {x : Nat}, inL l x = true ↔ x ∈ l
  | [], x => by simp [inL]
  | k :: r, x => by
    simp only [inL]
    split
    · rename_i h
      simp [h]
    · rename_i h
      rw [inL_mem, List.mem_cons]
      constructor
      · exact .inr
      · rintro (e | h1)
        · exact absurd e.symm h
        · exact h1
def klS (D : Nat → Bool) : List (Nat × SV) → List (Nat × SV)
  | [] => []
  | (k, x) :: r => if x.nms.any D = true then delL (klS D r) k else (k, x) :: klS D r
theorem lkp_klS {D : Nat → Bool} {t : Nat} {sv : SV} : ∀ {l : List (Nat × SV)}, lkp (klS D l) t = some sv ↔ lkp l t = some sv ∧ sv.nms.any D = false
  | [] => by simp [klS, lkp]
  | (k, x) :: r => by
    simp only [klS]
    split
    · rename_i h
      rw [lkp_delL]
      simp only [lkp]
      split
      · constructor
        · intro h; cases h
        · rintro ⟨h1, h2⟩
          cases h1
          rw [h2] at h
          cases h
      · exact lkp_klS
    · rename_i h
      simp only [lkp]
      split
      · constructor
        · intro h1
          cases h1
          exact ⟨rfl, by simpa using h⟩
        · exact fun h => h.1
      · exact lkp_klS
def Env.killD (E : Env) (D : Nat → Bool) : Env := { E with sl := klS D E.sl, rt := delD E.rt D }
def Env.kill (E : Env) (ks : List Nat) : Env := match ks with
  | [] => E
  | _ :: _ => E.killD (inL ks)
/-- E1 knows no more than E2. -/
structure Env.le (E1 E2 : Env) : Prop where
  nt : E1.nt = E2.nt
  sl : ∀ t sv, lkp E1.sl t = some sv → lkp E2.sl t = some sv
  bx : ∀ b ls, lkp E1.bx b = some ls → lkp E2.bx b = some ls
  rt : ∀ r y, lkp E1.rt r = some y → lkp E2.rt r = some y
theorem Env.le.refl (E : Env) : E.le E := ⟨rfl, fun _ _ h => h, fun _ _ h => h, fun _ _ h => h⟩
theorem Env.le.trans {E1 E2 E3 : Env} (h : E1.le E2) (h' : E2.le E3) : E1.le E3 := ⟨h.nt.trans h'.nt, fun t sv q => h'.sl t sv (h.sl t sv q), fun t sv q => h'.bx t sv (h.bx t sv q), fun t sv q => h'.rt t sv (h.rt t sv q)⟩
theorem St.le {E' : Env} (hs : St w0 tag0 E tag hv a w) (h : E'.le E) : St w0 tag0 E' tag hv a w := hs.weak h.nt h.sl h.bx h.rt
theorem lkp_delD' {α : Type} {D : Nat → Bool} {r : Nat} {y : α} {l : List (Nat × α)} : lkp (delD l D) r = some y ↔ lkp l r = some y ∧ D r = false := by
  rw [lkp_delD]
  cases h : D r <;> simp
theorem Env.killD_le (E : Env) (D : Nat → Bool) : (E.killD D).le E := ⟨rfl, fun _ _ h => (lkp_klS.1 h).1, fun _ _ h => h, fun _ _ h => (lkp_delD'.1 h).1⟩
theorem Env.kill_le (E : Env) (ks : List Nat) : (E.kill ks).le E := by
  unfold Env.kill
  split
  · exact .refl _
  · exact E.killD_le _
theorem any_mono {D D' : Nat → Bool} (h : ∀ r, D' r = true → D r = true) {l : List Nat} (hl : l.any D = false) : l.any D' = false := by
  rw [List.any_eq_false] at hl ⊢
  exact fun x hx hd => hl x hx (h x hd)
theorem Env.le.killD {E1 E2 : Env} (h : E1.le E2) {D D' : Nat → Bool} (hD : ∀ r, D' r = true → D r = true) : (E1.killD D).le (E2.killD D') := by
  refine ⟨h.nt, fun t sv q => ?_, h.bx, fun r y q => ?_⟩
  · have := lkp_klS.1 q
    exact lkp_klS.2 ⟨h.sl t sv this.1, any_mono hD this.2⟩
  · have := lkp_delD'.1 q
    refine lkp_delD'.2 ⟨h.rt r y this.1, ?_⟩
    cases hq : D' r with
    | false => rfl
    | true => have := hD r hq; simp_all
theorem Env.le.kill {E1 E2 : Env} (h : E1.le E2) (ks : List Nat) : (E1.kill ks).le (E2.kill ks) := by
  unfold Env.kill
  split
  · exact h
  · exact h.killD fun _ h => h
theorem Env.kill_D {E : Env} {ks : List Nat} : (E.kill ks).le (E.killD (inL ks)) := by
  unfold Env.kill
  split
  · refine ⟨rfl, fun t sv q => lkp_klS.2 ⟨q, ?_⟩, fun _ _ h => h, fun r y q => lkp_delD'.2 ⟨q, rfl⟩⟩
    rw [List.any_eq_false]
    intro x _ h
    cases h
  · exact .refl _
theorem Env.kp_le (E : Env) (ts : List Nat) : (E.kp ts).le E := ⟨rfl, fun t sv h => lkp_keepL _ t sv ts h, fun _ _ h => h, fun r y h => lkp_keepL _ r y _ h⟩

/-- Operations that may use up slices. -/
def kilB : List Oper → Bool
  | [] => false
  | o :: r => match o.op with
    | .call c => match c.callee with
      | .builtin .append => true
      | _ => kilB r
    | .buildSlice _ _ _ => true
    | _ => kilB r
abbrev HL := List (Nat × List Nat)
def hcons (b : Bool) (k : Nat) (E : Env) (H : HL) : HL := match b with
  | true => (k, E.sl.flatMap fun x => x.2.nms) :: H
  | false => H
def bxClr (ks : List Nat) : List (Nat × List LV) → Bool
  | [] => true
  | (b, ls) :: r => !inL ks b && (!(ls.flatMap LV.nms).any (inL ks) && bxClr ks r)
def hOk (ops : List Oper) (k : Nat) (ks : List Nat) : HL → Prop
  | [] => True
  | (i, ns) :: r => (if ns.any (inL ks) = true then (if i = k then True else closB ops ops.length i k = true) else True) ∧ hOk ops k ks r
/-- Operation k may use up ks. -/
def kilOk (b : Bool) (ops : List Oper) (k : Nat) (bx : List (Nat × List LV)) (H : HL) (ks : List Nat) : Prop := match ks with
  | [] => True
  | _ :: _ => b = true ∧ bxClr ks bx = true ∧ hOk ops k ks H
def evD (P : Program) (ti : TT) (b : Bool) (ops : List Oper) : List Oper → Nat → (Env → Prop) → List Nat → HL → Env → Prop
  | [], _, K, _, _, E => K E
  | o :: rest, k, K, D, H, E => match o.guard with
    | none => dU P ti o (fun sv rts ks => clrL ops k sv (callsOf ops 0) ∧ kilOk b ops k E.bx H ks ∧ evD P ti b ops rest (k + 1) K (ks ++ D) (hcons b k (E.kp (lks ops o)) H) (((E.addR rts).put o.dst sv).kill (ks ++ D))) (E.kp (lks ops o))
    | some (j, c) => match guardB (E.kp (lks ops o)) ops j c with
      | some g => dG P ti g o (fun sv rts ks => clrL ops k sv (callsOf ops 0) ∧ kilOk b ops k E.bx H ks ∧ evD P ti b ops rest (k + 1) K (ks ++ D) (hcons b k (E.kp (lks ops o)) H) (((E.addR rts).put o.dst sv).kill (ks ++ D))) (E.kp (lks ops o))
      | none => False
/-- The names that calls of the region will take. -/
def famA (ops : List Oper) : Nat → Bool := fun r => ops.any fun o => isCallO o && r % 1000 == dn o

theorem St.ext' {E' : Env} (hs : St w0 tag0 E tag hv a w) (h0 : E'.nt = E.nt) (h1 : ∀ t sv, lkp E'.sl t = some sv → lkp E.sl t = some sv) (h2 : ∀ b ls, lkp E'.bx b = some ls → lkp E.bx b = some ls)
    (h3 : ∀ r y, lkp E'.rt r = some y → lkp E.rt r = some y) : St w0 tag0 E' tag hv a w := hs.weak h0 h1 h2 h3

/-! ### what names nothing of a family -/
theorem LV.hit_fr {d : Nat → Bool} {l : LV} (h : l.hit d = false) : l.fr d = l := by
  cases l with
  | r p => cases p with
    | nil => simp [LV.hit] at h
    | cons k p =>
      simp only [LV.hit] at h
      simp [LV.fr, h]
  | _ => rfl
theorem LVs.hit_fr {d : Nat → Bool} {ls : List LV} (h : ls.any (LV.hit d) = false) : ls.map (LV.fr d) = ls := by
  rw [List.any_eq_false] at h
  conv => rhs; rw [← List.map_id ls]
  exact List.map_congr_left fun l hl => LV.hit_fr (by simpa using h l hl)
theorem SV.hit_fr {d : Nat → Bool} : ∀ {s : SV}, s.hit d = false → s.fr d = s
  | .dead, _ => rfl
  | .v ag ls, h => by simp only [SV.fr, LVs.hit_fr h]
  | .tu ps, h => by
    simp only [SV.hit, List.any_eq_false] at h
    simp only [SV.fr]
    congr 1
    conv => rhs; rw [← List.map_id ps]
    refine List.map_congr_left fun q hq => ?_
    have := LVs.hit_fr (by simpa using h q hq)
    simp only [this, id_eq]
  | .p q, h => by simp only [SV.hit] at h; simp [SV.fr, h]
  | .fn k caps, h => by simp only [SV.hit] at h; simp [SV.fr, h]
  | .g c s, h => by simp only [SV.fr, SV.hit_fr (s := s) h]
  | .pin r x, h => by simp only [SV.hit] at h; simp [SV.fr, h]
/-- Nothing of d is named. -/
structure Env.cl (E : Env) (d : Nat → Bool) : Prop where
  sl : ∀ t sv, lkp E.sl t = some sv → sv.hit d = false
  bx : ∀ b ls, lkp E.bx b = some ls → d b = false ∧ ls.any (LV.hit d) = false
  rt : ∀ r y, lkp E.rt r = some y → d r = false
theorem St.of_ret {n : Nat} {rs : List (Bool × ML)} (hc : E.cl (fam n)) (hs : St w0 tag0 (E.ret n rs) tag hv a w) : St w0 tag0 (E.addR (resRs n 0 rs)) tag hv a w := by
  refine hs.ext' rfl (fun t sv h => ?_) (fun b ls h => ?_) (fun r y h => ?_)
  · have h1 : lkp E.sl t = some sv := h
    simp only [Env.ret, Env.fresh, lkp_map, h1, Option.map_some, SV.hit_fr (hc.sl t sv h1)]
  · have h0 : lkp E.bx b = some ls := h
    have h1 := hc.bx b ls h0
    simp only [Env.ret, Env.fresh, lkp_map, lkp_delD, h1.1, Bool.false_eq_true, if_false, h0, Option.map_some, LVs.hit_fr h1.2]
  · simp only [Env.ret, Env.addR, lkp_app] at h ⊢
    split at h
    · exact h
    · have h1 := hc.rt r y h
      simp only [Env.fresh, lkp_delD, h1, Bool.false_eq_true, if_false]
      exact h
theorem LV.fr_hit {d D : Nat → Bool} (hd : ∀ r, d r = true → D r = true) (l : LV) : (l.fr D).hit d = false := by
  cases l with
  | r p => cases p with
    | nil => rfl
    | cons k p =>
      by_cases h : D k = true
      · simp [LV.fr, h, LV.hit]
      · have : d k = false := by
          cases hk : d k with
          | false => rfl
          | true => exact absurd (hd k hk) h
        simp [LV.fr, h, LV.hit, this]
  | _ => rfl
theorem LVs.fr_hit {d D : Nat → Bool} (hd : ∀ r, d r = true → D r = true) (ls : List LV) : (ls.map (LV.fr D)).any (LV.hit d) = false := by
  rw [List.any_eq_false]
  intro x hx
  obtain ⟨l, _, rfl⟩ := List.mem_map.1 hx
  simp [LV.fr_hit hd l]
theorem PV.hd_sub {d D : Nat → Bool} (hd : ∀ r, d r = true → D r = true) {q : PV} (h : q.hd D = false) : q.hd d = false := by
  cases hq : q.hd d with
  | false => rfl
  | true =>
    cases q with
    | pt p sz i off => cases p with
      | nil => simp [PV.hd] at h
      | cons k p => simp only [PV.hd] at h hq; rw [hd k hq] at h; cases h
    | vw p sz lo n => cases p with
      | nil => simp [PV.hd] at h
      | cons k p => simp only [PV.hd] at h hq; rw [hd k hq] at h; cases h
    | bx b off => simp only [PV.hd] at h hq; rw [hd b hq] at h; cases h
    | ps ds => simp [PV.hd] at hq
theorem SV.fr_hit {d D : Nat → Bool} (hd : ∀ r, d r = true → D r = true) : ∀ s : SV, (s.fr D).hit d = false
  | .dead => rfl
  | .v ag ls => LVs.fr_hit hd ls
  | .tu ps => by
    simp only [SV.fr, SV.hit, List.any_map, List.any_eq_false]
    intro q _
    have := LVs.fr_hit hd q.2
    simpa [Function.comp] using this
  | .p q => by
    simp only [SV.fr]
    by_cases h : q.hd D = true
    · simp [h, SV.hit]
    · rw [if_neg h]
      exact PV.hd_sub hd (by simpa using h)
  | .fn k caps => by
    simp only [SV.fr]
    by_cases h : caps.any (PV.hd D) = true
    · simp [h, SV.hit]
    · rw [if_neg h]
      have h1 : caps.any (PV.hd D) = false := by simpa using h
      simp only [SV.hit]
      rw [List.any_eq_false] at h1 ⊢
      intro q hq
      simp [PV.hd_sub hd (by simpa using h1 q hq)]
  | .g c s => SV.fr_hit hd s
  | .pin r x => by
    simp only [SV.fr]
    by_cases h : D r = true
    · simp [h, SV.hit]
    · rw [if_neg h]
      simp only [SV.hit]
      cases hq : d r with
      | false => rfl
      | true => exact absurd (hd r hq) h
theorem Env.fresh_cl {d D : Nat → Bool} (hd : ∀ r, d r = true → D r = true) (E : Env) : (E.fresh D).cl d := by
  have hn : ∀ r, D r ≠ true → d r = false := fun r h => by
    cases hk : d r with
    | false => rfl
    | true => exact absurd (hd r hk) h
  refine ⟨fun t sv h => ?_, fun b ls h => ?_, fun r y h => ?_⟩
  · simp only [Env.fresh, lkp_map] at h
    obtain ⟨s, _, rfl⟩ := Option.map_eq_some_iff.1 h
    exact SV.fr_hit hd s
  · simp only [Env.fresh, lkp_map, lkp_delD] at h
    obtain ⟨s, h1, rfl⟩ := Option.map_eq_some_iff.1 h
    split at h1
    · cases h1
    · rename_i hb
      exact ⟨hn b hb, LVs.fr_hit hd s⟩
  · simp only [Env.fresh, lkp_delD] at h
    split at h
    · cases h
    · rename_i hb
      exact hn r hb
theorem LV.nms_hit {d : Nat → Bool} {l : LV} {r : Nat} (h : r ∈ l.nms) (hd : d r = true) : l.hit d = true := by
  cases l with
  | r p => cases p with
    | nil => rfl
    | cons k p =>
      simp only [LV.nms, List.mem_singleton] at h
      subst h
      exact hd
  | _ => simp [LV.nms] at h
theorem LVs.nms_hit {d : Nat → Bool} {ls : List LV} {r : Nat} (h : r ∈ ls.flatMap LV.nms) (hd : d r = true) : ls.any (LV.hit d) = true := by
  obtain ⟨l, h1, h2⟩ := List.mem_flatMap.1 h
  exact List.any_eq_true.2 ⟨l, h1, LV.nms_hit h2 hd⟩
theorem PV.nms_hit {d : Nat → Bool} {q : PV} {r : Nat} (h : r ∈ q.nms) (hd : d r = true) : q.hd d = true := by
  cases q with
  | pt p sz i off => cases p with
    | nil => rfl
    | cons k p =>
      simp only [PV.nms, List.mem_singleton] at h
      subst h
      exact hd
  | vw p sz lo n => cases p with
    | nil => rfl
    | cons k p =>
      simp only [PV.nms, List.mem_singleton] at h
      subst h
      exact hd
  | bx b off =>
    simp only [PV.nms, List.mem_singleton] at h
    subst h
    exact hd
  | ps ds => simp [PV.nms] at h
theorem SV.nms_hit {d : Nat → Bool} {r : Nat} : ∀ {s : SV}, r ∈ s.nms → d r = true → s.hit d = true
  | .dead, h, _ => by simp [SV.nms] at h
  | .v ag ls, h, hd => LVs.nms_hit h hd
  | .tu ps, h, hd => by
    obtain ⟨q, h1, h2⟩ := List.mem_flatMap.1 h
    exact List.any_eq_true.2 ⟨q, h1, LVs.nms_hit h2 hd⟩
  | .p q, h, hd => PV.nms_hit h hd
  | .fn k caps, h, hd => by
    obtain ⟨q, h1, h2⟩ := List.mem_flatMap.1 h
    exact List.any_eq_true.2 ⟨q, h1, PV.nms_hit h2 hd⟩
  | .g c s, h, hd => SV.nms_hit (s := s) h hd
  | .pin k x, h, hd => by
    simp only [SV.nms, List.mem_singleton] at h
    subst h
    exact hd
end Go.Sm
