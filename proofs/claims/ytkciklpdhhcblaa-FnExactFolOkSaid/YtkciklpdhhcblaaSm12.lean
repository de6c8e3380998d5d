import Derived.Test.YtkciklpdhhcblaaSmN
/-
  'ev': a list of operations; 'ew': code; 'VC' out of 'ew'.
-/
namespace Go.Sm
open Go.RowKit

variable {P : Program} {ti : TT} {E : Env} {tag tag' tag0 : Nat → Tag} {hv hv' : Hv} {a : Act} {w w' w0 : World} {t d : Nat}

def pickO : SV → Option (Bool × Bool)
  | .v false [.s (.sc (.bool c))] => some (true, c)
  | .g g (.v false [.s (.sc (.bool c))]) => some (g, c)
  | _ => none
def pick3 (ti : TT) (E : Env) (c x y : Operand) : Option (Prop × Bool) :=
  match opd ti E 0 c, opd ti E 0 x, opd ti E 0 y with
  | some c, some x, some y => match pickO c, pickO x, pickO y with
    | some (gc, c), some (gx, x), some (gy, y) => some (gc = true ∧ (c = true → gx = true) ∧ (c = false → gy = true), if c then x else y)
    | _, _, _ => none
  | _, _, _ => none
def dn (o : Oper) : Nat := match o.dst with | some d => d | none => 999

def appX (ti : TT) (E : Env) (d : Nat) (c : Call) : Option (Prop × Env) :=
  match c.callee, c.args.toList, c.argTypes.toList with
  | .builtin .append, [s, x], [t1, t2] => appO ti E d t1 t2 s x
  | _, _, _ => none
def Env.szAt (E : Env) (p : List Nat) (sz : Nat) : Prop := match E.at_ p with
  | some (.o _ _, .ls z _) => z.length = sz
  | _ => False
def mkO (ti : TT) (E : Env) (d t : Nat) (x y : Operand) : Option (Prop × Env) :=
  match opd ti E 0 x, opd ti E 0 y, (ti t).elt with
  | some (.v false [.s (.sc (.int _ n))]), some (.v false [.s (.sc (.int _ m))]), some e =>
    some (n = m ∧ 0 ≤ n ∧ (ti t).ok = true ∧ (ti e).ok = true ∧ msK (ti e).ms (ti e).z = true ∧ n.toNat * (ti e).by_ ≤ 281474976710656 ∧ d < 1000, E.mkS d e n.toNat (ti e).ms (ti e).z)
  | _, _, _ => none

/-- A call, by what the function says to its callers. -/
def CallTo (P : Program) (k : Nat) (as : List SV) (F : List (Bool × ML) → Prop) : Prop := ∃ rs, VC P k as rs ∧ F rs
def CallG (P : Program) (g D : Prop) (k : Nat) (as : List SV) (F : List (Bool × ML) → Prop) : Prop := ∃ rs, (g → D ∧ VC P k as rs) ∧ F rs
def kCall (R : List Nat) (d : Nat) (dst : Option Nat) (K : Env → Prop) (E : Env) (rs : List (Bool × ML)) : Prop := (R = [] ∨ OwRs rs) ∧ d < 1000 ∧ K ((E.ret d rs).put dst (resS d rs))
def kCallG (R : List Nat) (g : Bool) (dst : Option Nat) (K : Env → Prop) (E : Env) (rs : List (Bool × ML)) : Prop := (R = [] ∨ OwRs rs) ∧ FullRs rs ∧ K (E.put dst (.g g (frzS rs)))
theorem CallTo.of {P : Program} {k : Nat} {as : List SV} {F : List (Bool × ML) → Prop} {rs : List (Bool × ML)} (h : VC P k as rs) (hF : F rs) : CallTo P k as F := ⟨rs, h, hF⟩
theorem CallG.of {P : Program} {g D : Prop} {k : Nat} {as : List SV} {F : List (Bool × ML) → Prop} {rs : List (Bool × ML)} (h : g → D ∧ VC P k as rs) (hF : F rs) : CallG P g D k as F := ⟨rs, h, hF⟩

def evU (P : Program) (ti : TT) (o : Oper) (K : Env → Prop) (E : Env) : Prop :=
  match o.op with
  | .pick c x y => match pick3 ti E c x y with
    | some (C, r) => C ∧ K (E.put o.dst (bool r))
    | none => False
  | .alloc t => (ti t).ok = true ∧ dn o < 1000 ∧ K ((E.box (dn o) ((ti t).z.map zLV)).put o.dst (.p (.bx (dn o) 0)))
  | .box t x => match opd ti E t x with
    | some (.v _ ls) => dn o < 1000 ∧ K ((E.box (dn o) ls).put o.dst (.p (.bx (dn o) 0)))
    | _ => False
  | .store t x y => match opd ti E 0 x, opd ti E t y with
    | some (.p (.bx b off)), some (.v _ new) => match lkp E.bx b with
      | some ls => (ti t).ok = true ∧ new.length = (ti t).sz ∧ off + new.length ≤ ls.length ∧ K ((E.stBx b off ls new).put o.dst .dead)
      | none => False
    | some (.p (.pt p sz i off)), some (.v _ new) => match E.stPt p i off new with
      | some (C, E') => (ti t).ok = true ∧ new.length = (ti t).sz ∧ E.szAt p sz ∧ C ∧ K (E'.put o.dst .dead)
      | none => False
    | _, _ => False
  | .makeSlice t x y => match mkO ti E (dn o) t x y with
    | some (C, E') => C ∧ K (E'.put o.dst (.v false [.r [dn o]]))
    | none => False
  | .buildSlice t n parts => match bsO ti E (dn o) t n parts.toList with
    | some (C, E') => C ∧ K (E'.put o.dst (.v false [.r [dn o]]))
    | none => False
  | .call c => match callO ti E c with
    | some (C, k, as, R) => C ∧ CallMu P k as (kCall R (dn o) o.dst K E) (kMut ti c o.dst K E)
    | none => match pur ti E o with
      | some (C, sv) => C ∧ K (E.put o.dst sv)
      | none => match appX ti E (dn o) c with
        | some (C, E') => C ∧ K (E'.put o.dst (.v false [.r [dn o]]))
        | none => False
  | _ => match pur ti E o with
    | some (C, sv) => C ∧ K (E.put o.dst sv)
    | none => False

def evG (P : Program) (ti : TT) (g : Bool) (o : Oper) (K : Env → Prop) (E : Env) : Prop :=
  match o.op with
  | .pick c x y => match pick3 ti E c x y with
    | some (C, r) => (g = true → C) ∧ K (E.put o.dst (.g g (bool r)))
    | none => False
  | .call c => match callO ti (E.un (opTmps o.op)) c with
    | some (C, k, as, R) => CallG P (g = true) (gsOk E (opTmps o.op) ∧ C) k as (kCallG R g o.dst K E)
    | none => match pur ti (E.un (opTmps o.op)) o with
      | some (C, sv) => (g = true → gsOk E (opTmps o.op) ∧ C) ∧ K (E.put o.dst (.g g sv))
      | none => False
  | _ => match pur ti (E.un (opTmps o.op)) o with
    | some (C, sv) => (g = true → gsOk E (opTmps o.op) ∧ C) ∧ K (E.put o.dst (.g g sv))
    | none => False

def ev (P : Program) (ti : TT) (ops : List Oper) : List Oper → (Env → Prop) → Env → Prop
  | [], K, E => K E
  | o :: rest, K, E => match o.guard with
    | none => evU P ti o (ev P ti ops rest K) E
    | some (j, b) => match guardB E ops j b with
      | some g => evG P ti g o (ev P ti ops rest K) E
      | none => False

theorem pickO_ok {sv : SV} {g c : Bool} {v : Value} (h : pickO sv = some (g, c)) (hg : g = true) (hv0 : SR tag hv w sv v) : v = .bool c := by
  unfold pickO at h
  split at h
  · cases h
    exact SR_bool hv0
  · cases h
    exact SR_bool (hv0.1 hg)
  · cases h
theorem pick3_ok {o : Oper} {c x y : Operand} {C : Prop} {r : Bool} (hs : St w0 tag0 E tag hv a w) (ho : o.op = .pick c x y) (h : pick3 ti E c x y = some (C, r)) (hC : C) : (execOp a.eval o).run P w = .ok (.value (.bool r)) w := by
  unfold pick3 at h
  split at h
  · rename_i sc sx sy h1 h2 h3
    split at h
    · rename_i gc c' gx x' gy y' h4 h5 h6
      cases h
      obtain ⟨q1, q2, q3⟩ := hC
      have e1 := pickO_ok h4 q1 (opd_ok hs h1)
      simp only [execOp, ho, Sem.run_bind, e1, asBool, Sem.run_pure, Result.andThen_ok]
      cases c' with
      | true =>
        have e2 := pickO_ok h5 (q2 rfl) (opd_ok hs h2)
        simp [e2]
      | false =>
        have e3 := pickO_ok h6 (q3 rfl) (opd_ok hs h3)
        simp [e3]
    · cases h
  · cases h

variable {N : Act → World → Prop} {Q : Exit → Act → World → Prop} {K : Env → Prop}

theorem upon_value {o : Oper} {v : Value} (h : (execOp a.eval o).run P w = .ok (.value v) w') (hn : N (a.put o.dst v) w') : o.wp P a w N Q := by
  unfold Oper.wp
  rw [h]
  exact hn

theorem pur_wp (hT : TGood P ti) {o : Oper} {C : Prop} {sv : SV} (hs : St w0 tag0 E tag hv a w) (hp : pur ti E o = some (C, sv)) (hC : C) (hK : K (E.put o.dst sv))
    (hN : ∀ E' tag' hv' a' w', St w0 tag0 E' tag' hv' a' w' → K E' → N a' w') : o.wp P a w N Q := by
  obtain ⟨v, h1, h2⟩ := pur_ok hT hs hp hC
  exact upon_value h1 (hN _ _ _ _ _ (hs.put h2) hK)

theorem evU_ok (hT : TGood P ti) {o : Oper} (hs : St w0 tag0 E tag hv a w) (h : evU P ti o K E) (hN : ∀ E' tag' hv' a' w', St w0 tag0 E' tag' hv' a' w' → K E' → N a' w') : o.wp P a w N Q := by
  unfold evU at h
  split at h
  · -- pick
    rename_i c x y ho
    split at h
    · rename_i C r hp
      exact upon_value (pick3_ok hs ho hp h.1) (hN _ _ _ _ _ (hs.put mk_bool) h.2)
    · exact h.elim
  · -- alloc
    rename_i t ho
    obtain ⟨h1, h2, h3⟩ := h
    have g := hT t h1
    have hst := hs.newBox (dn o) h2 (zLV_ok g) t
    rw [Array.toArray_toList] at hst
    exact upon_value (run_alloc g ho) (hN _ _ _ _ _ (hst.put (sv := .p (.bx (dn o) 0)) ⟨w.heap.size, by simp [upH], rfl⟩) h3)
  · -- box
    rename_i t x ho
    split at h
    · rename_i ag ls hx
      obtain ⟨cs, h1, h2, h3⟩ := opd_ok hs hx
      have hst := hs.newBox (dn o) h.1 h2 t
      have hc : (a.eval x).cells = cs.toArray := by
        apply Array.ext'
        rw [h1, cells_mkV h2 h3]
      have hr := run_box (P := P) (a := a) (w := w) ho
      rw [hc] at hr
      exact upon_value hr (hN _ _ _ _ _ (hst.put (sv := .p (.bx (dn o) 0)) ⟨w.heap.size, by simp [upH], rfl⟩) h.2)
    · exact h.elim
  · -- store
    rename_i t x y ho
    split at h
    · rename_i b off ag new hx hy
      split at h
      · rename_i ls hb
        obtain ⟨h1, h2, h3, h4⟩ := h
        obtain ⟨w', h5, h6⟩ := hs.storeBx hT h1 hb (opd_ok hs hx) (opd_ok hs hy) h2 h3
        unfold Oper.wp
        have hr : (execOp a.eval o).run P w = .ok .skip w' := by simp only [execOp, ho, Sem.run_bind, h5, Result.andThen_ok, Sem.run_pure]
        rw [hr]
        exact hN _ _ _ _ _ (h6.put (sv := .dead) trivial) h4
      · exact h.elim
    · rename_i p sz i off ag new hx hy
      split at h
      · rename_i C E' hst
        obtain ⟨h1, h2, h3, h4, h5⟩ := h
        obtain ⟨w', tg, hh, h6, h7⟩ := hs.storePt hT h1 (opd_ok hs hx) (opd_ok hs hy) h2 hst h4 (fun z hz => by
          obtain ⟨r, rest, x, e, cols, rows, rfl, q1, q2⟩ := hz
          simpa [Env.szAt, Env.at_, q1, q2] using h3)
        unfold Oper.wp
        have hr : (execOp a.eval o).run P w = .ok .skip w' := by simp only [execOp, ho, Sem.run_bind, h6, Result.andThen_ok, Sem.run_pure]
        rw [hr]
        exact hN _ _ _ _ _ (h7.put (sv := .dead) trivial) h5
      · exact h.elim
    · exact h.elim
  · -- makeSlice
    rename_i t x y ho
    split at h
    · rename_i C E' hm
      unfold mkO at hm
      split at hm
      · rename_i k1 n k2 m e hx hy he
        cases hm
        obtain ⟨⟨rfl, h1, h2, h3, h4, h5, h6⟩, hK⟩ := h
        have hx' := SR_int (opd_ok hs hx)
        have hy' := SR_int (opd_ok hs hy)
        obtain ⟨w', v, tg, hh, h7, h8, h9⟩ := run_mk (kl := k1) (kc := k2) hT hs h6 h2 he h3 rfl h4 h5
        rw [Int.toNat_of_nonneg h1] at h7
        unfold Oper.wp
        have hr : (execOp a.eval o).run P w = .ok (.value v) w' := by simp only [execOp, ho, hx', hy', Sem.run_bind, h7, Result.andThen_ok, Sem.run_pure]
        rw [hr]
        exact hN _ _ _ _ _ (h8.put h9) hK
      · cases hm
    · exact h.elim
  · -- buildSlice
    rename_i t n parts ho
    split at h
    · rename_i C E' hm
      obtain ⟨v, w', tg, hh, h1, h2, h3⟩ := bsO_ok hT hs ho hm h.1
      unfold Oper.wp
      rw [h1]
      exact hN _ _ _ _ _ (h2.put h3) h.2
    · exact h.elim
  · -- call
    rename_i c ho
    split at h
    · rename_i C k as R hc
      obtain ⟨hC, ⟨rs, hvc, hR, hd, hK⟩ | ⟨as', ms, n, hvm, hk⟩⟩ := h
      case inr =>
        obtain ⟨vs, h1, h2⟩ := kMut_ok hs ho hc hvm hk
        unfold Oper.wp
        rw [h1, Oper.upon_enter]
        refine h2.mono ?_
        rintro e w' ⟨rfl, E', tg, hh, h3, h4⟩
        exact hN _ _ _ _ _ (h3.put mk_int) h4
      obtain ⟨vs, h1, h2⟩ := callO_ok hs ho hc hC hvc.1
      unfold Oper.wp
      rw [h1, Oper.upon_enter]
      refine (hvc.2 w (lend R tag) hv vs (lend_cases R) (fun b hb => ?_) h2).mono ?_
      · simp [lend, hs.hi b hb]
      · rintro e w' ⟨tag', hv', rv, rfl, hfr, hi', hrv⟩
        obtain ⟨tg, hh, h3, h4⟩ := hs.ret hd hfr hi' hR hrv
        exact hN _ _ _ _ _ (h3.put h4) hK
    · split at h
      · rename_i C sv hp
        exact pur_wp hT hs hp h.1 h.2 hN
      · split at h
        · rename_i C E' hm
          unfold appX at hm
          split at hm
          · rename_i h1 h2 h3
            obtain ⟨v, w', tg, hh, h4, h5, h6⟩ := appO_ok hT hs ho (by
              obtain ⟨c1, c2, c3⟩ := c
              simp only at h1 h2 h3
              rw [h1, show c2 = _ from (Array.toList_inj.1 (h2.trans rfl)), show c3 = _ from (Array.toList_inj.1 (h3.trans rfl))]) hm h.1
            unfold Oper.wp
            rw [h4]
            exact hN _ _ _ _ _ (h5.put h6) h.2
          · cases hm
        · exact h.elim
  · split at h
    · rename_i C sv hp
      exact pur_wp hT hs hp h.1 h.2 hN
    · exact h.elim

theorem St.fresh_same (hs : St w0 tag0 E tag hv a w) (D : Nat → Bool) : St w0 tag0 (E.fresh D) tag hv a w :=
  hs.hop ⟨fun _ _ h => ⟨h, rfl⟩, fun _ _ _ _ h _ => ⟨h, rfl⟩, fun _ _ _ => rfl⟩ hs.fr hs.hi

theorem evG_ok (hT : TGood P ti) {g : Bool} {o : Oper} (hs : St w0 tag0 E tag hv a w) (h : evG P ti g o K E) (hN : ∀ E' tag' hv' a' w', St w0 tag0 E' tag' hv' a' w' → K E' → N a' w') :
    if g = true then o.wp P a w N Q else N (a.put o.dst undef) w := by
  have hpur : (match pur ti (E.un (opTmps o.op)) o with
      | some (C, sv) => (g = true → gsOk E (opTmps o.op) ∧ C) ∧ K (E.put o.dst (.g g sv))
      | none => False) → if g = true then o.wp P a w N Q else N (a.put o.dst undef) w := by
    intro h
    split at h
    · rename_i C sv hp
      split
      · rename_i hg
        obtain ⟨h1, h2⟩ := h.1 hg
        obtain ⟨v, h3, h4⟩ := pur_ok hT (hs.un h1) hp h2
        exact upon_value h3 (hN _ _ _ _ _ (hs.put (sv := .g g sv) ⟨fun _ => h4, fun hf => by rw [hg] at hf; cases hf⟩) h.2)
      · rename_i hg
        exact hN _ _ _ _ _ (hs.put (sv := .g g sv) ⟨fun hf => absurd hf hg, fun _ => rfl⟩) h.2
    · exact h.elim
  unfold evG at h
  split at h
  · -- pick
    rename_i c x y ho
    split at h
    · rename_i C r hp
      split
      · rename_i hg
        exact upon_value (pick3_ok hs ho hp (h.1 hg)) (hN _ _ _ _ _ (hs.put (sv := .g g (bool r)) ⟨fun _ => mk_bool, fun hf => by rw [hg] at hf; cases hf⟩) h.2)
      · rename_i hg
        exact hN _ _ _ _ _ (hs.put (sv := .g g (bool r)) ⟨fun hf => absurd hf hg, fun _ => rfl⟩) h.2
    · exact h.elim
  · -- call
    rename_i c ho
    split at h
    · rename_i C k as R hc
      obtain ⟨rs, h1, hR, hf, hK⟩ := h
      split
      · rename_i hg
        obtain ⟨⟨h2, hC⟩, hvc⟩ := h1 hg
        obtain ⟨vs, h3, h4⟩ := callO_ok (hs.un h2) ho hc hC hvc.1
        unfold Oper.wp
        rw [h3, Oper.upon_enter]
        refine (hvc.2 w (lend R tag) hv vs (lend_cases R) (fun b hb => ?_) h4).mono ?_
        · simp [lend, hs.hi b hb]
        · rintro e w' ⟨tag', hv', rv, rfl, hfr, hi', hrv⟩
          obtain ⟨tg, h5, h6⟩ := hs.retF hfr hi' hR hf hrv
          exact hN _ _ _ _ _ (h5.put (sv := .g g (frzS rs)) ⟨fun _ => h6, fun hf => by rw [hg] at hf; cases hf⟩) hK
      · rename_i hg
        exact hN _ _ _ _ _ (hs.put (sv := .g g (frzS rs)) ⟨fun hf => absurd hf hg, fun _ => rfl⟩) hK
    · exact hpur h
  · exact hpur h

theorem ev_ok (hT : TGood P ti) (ops : Array Oper) : ∀ (rest : List Oper) {E : Env} {tag : Nat → Tag} {hv : Hv} {a : Act} {w : World}, St w0 tag0 E tag hv a w → ev P ti ops.toList rest K E →
    (∀ E' tag' hv' a' w', St w0 tag0 E' tag' hv' a' w' → K E' → Q .normal a' w') → wpList P ops Q rest a w
  | [], E, tag, hv, a, w, hs, h, hN => wpList_nil (hN _ _ _ _ _ hs h)
  | o :: rest, E, tag, hv, a, w, hs, h, hN => by
    simp only [ev] at h
    split at h
    · rename_i hg
      refine wpList_plain hg fun K' hK' => ?_
      exact evU_ok hT hs h (fun E' tag' hv' a' w' hs' hk => hK' _ _ (ev_ok hT ops rest hs' hk hN))
    · rename_i j b hg
      split at h
      · rename_i g hgb
        refine wpList_step fun K' hK' => ?_
        have h1 := guardB_ok hs hgb
        have h2 : Region.wanted o (yielded ops a.tmps) = g := by simp only [Region.wanted, hg]; exact h1
        rw [h2]
        exact evG_ok hT hs h (fun E' tag' hv' a' w' hs' hk => hK' _ _ (ev_ok hT ops rest hs' hk hN))
      · exact h.elim
end Go.Sm
