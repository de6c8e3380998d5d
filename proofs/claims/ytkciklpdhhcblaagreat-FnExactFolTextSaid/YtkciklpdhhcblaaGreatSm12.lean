import Derived.Test.YtkciklpdhhcblaaGreatSmP
/-
  'ev': a list of operations; 'ew': code; 'VC' out of 'ew'.
-/
namespace Go.Sm
open Go.RowKit

variable {P : Program} {ti : TT} {E : Env} {tag tag' tag0 : Nat → Tag} {hv hv' : Hv} {a : Act} {w w' w0 : World} {t d : Nat}

def pickO : SV → Option (Bool × Bool)
  | .v false [.s (.sc (.bool c))] => some (true, c)
  | .g g (.v false [.s (.sc (.bool c))]) => some (g, c)
  | _ => none
def pick3 (ti : TT) (E : Env) (c x y : Operand) : Option (Prop × Bool) :=
  match opd ti E 0 c, opd ti E 0 x, opd ti E 0 y with
  | some c, some x, some y => match pickO c, pickO x, pickO y with
    | some (gc, c), some (gx, x), some (gy, y) => some (gc = true ∧ (c = true → gx = true) ∧ (c = false → gy = true), if c then x else y)
    | _, _, _ => none
  | _, _, _ => none
def dn (o : Oper) : Nat := match o.dst with | some d => d | none => 999

def appX (ti : TT) (E : Env) (d : Nat) (c : Call) : Option (Prop × Env) :=
  match c.callee, c.args.toList, c.argTypes.toList with
  | .builtin .append, [s, x], [t1, t2] => appO ti E d t1 t2 s x
  | _, _, _ => none
def Env.szAt (E : Env) (p : List Nat) (sz : Nat) : Prop := match E.at_ p with
  | some (.o _ _, .ls z _) => z.length = sz
  | _ => False
def mkO (ti : TT) (E : Env) (d t : Nat) (x y : Operand) : Option (Prop × Env) :=
  match opd ti E 0 x, opd ti E 0 y, (ti t).elt with
  | some (.v false [.s (.sc (.int _ n))]), some (.v false [.s (.sc (.int _ m))]), some e =>
    some (n = m ∧ 0 ≤ n ∧ (ti t).ok = true ∧ (ti e).ok = true ∧ msK (ti e).ms (ti e).z = true ∧ n.toNat * (ti e).by_ ≤ 281474976710656 ∧ d < 1000, E.mkS d e n.toNat (ti e).ms (ti e).z)
  | _, _, _ => none

/-- A call, by what the function says to its callers. -/
def CallTo (P : Program) (k : Nat) (as : List SV) (F : List (Bool × ML) → Prop) : Prop := ∃ rs, VC P k as rs ∧ F rs
def CallG (P : Program) (g D : Prop) (k : Nat) (as : List SV) (F : List (Bool × ML) → Prop) : Prop := ∃ rs, (g → D ∧ VC P k as rs) ∧ F rs
def kCall (R : List Nat) (d : Nat) (dst : Option Nat) (K : Env → Prop) (E : Env) (rs : List (Bool × ML)) : Prop := (R = [] ∨ OwRs rs) ∧ d < 1000 ∧ K ((E.ret d rs).put dst (resS d rs))
def kCallG (R : List Nat) (g : Bool) (dst : Option Nat) (K : Env → Prop) (E : Env) (rs : List (Bool × ML)) : Prop := (R = [] ∨ OwRs rs) ∧ FullRs rs ∧ K (E.put dst (.g g (frzS rs)))
theorem CallTo.of {P : Program} {k : Nat} {as : List SV} {F : List (Bool × ML) → Prop} {rs : List (Bool × ML)} (h : VC P k as rs) (hF : F rs) : CallTo P k as F := ⟨rs, h, hF⟩
theorem CallG.of {P : Program} {g D : Prop} {k : Nat} {as : List SV} {F : List (Bool × ML) → Prop} {rs : List (Bool × ML)} (h : g → D ∧ VC P k as rs) (hF : F rs) : CallG P g D k as F := ⟨rs, h, hF⟩

/-- clear, of a part of a slice of the call's own: rows of zeros. -/
def clrX (ti : TT) (E : Env) (c : Call) : Option (Prop × Env) :=
  match c.callee, c.args.toList, c.argTypes.toList with
  | .builtin .clear, [x], [t] => match opd ti E 0 x, (ti t).elt with
    | some (.p (.vw [r] sz lo n)), some e' => match lkp E.rt r with
      | some (.o e cols, .ls z rows) => some ((ti t).ok = true ∧ (ti e').ok = true ∧ (ti e').z = z ∧ z.length = sz ∧ lo + n ≤ rows.length,
          E.re (fun _ => false) [] [[r]] [(r, .o e (fun k => if lo ≤ k ∧ k < lo + n then z.map fun _ => .s else cols k), .ls z (rows.take lo ++ (List.replicate n z ++ rows.drop (lo + n))))])
      | _ => none
    | _, _ => none
  | _, _, _ => none

def evU (P : Program) (ti : TT) (o : Oper) (K : Env → Prop) (E : Env) : Prop :=
  match o.op with
  | .pick c x y => match pick3 ti E c x y with
    | some (C, r) => C ∧ K (E.put o.dst (bool r))
    | none => False
  | .alloc t => (ti t).ok = true ∧ dn o < 1000 ∧ K ((E.box (dn o) ((ti t).z.map zLV)).put o.dst (.p (.bx (dn o) 0)))
  | .box t x => match opd ti E t x with
    | some (.v _ ls) => dn o < 1000 ∧ K ((E.box (dn o) ls).put o.dst (.p (.bx (dn o) 0)))
    | _ => False
  | .store t x y => match opd ti E 0 x, opd ti E t y with
    | some (.p (.bx b off)), some (.v _ new) => match lkp E.bx b with
      | some ls => (ti t).ok = true ∧ new.length = (ti t).sz ∧ off + new.length ≤ ls.length ∧ K ((E.stBx b off ls new).put o.dst .dead)
      | none => False
    | some (.p (.pt p sz i off)), some (.v _ new) => match E.stPt p i off new with
      | some (C, E') => (ti t).ok = true ∧ new.length = (ti t).sz ∧ E.szAt p sz ∧ C ∧ K (E'.put o.dst .dead)
      | none => False
    | _, _ => False
  | .makeSlice t x y => match mkO ti E (dn o) t x y with
    | some (C, E') => C ∧ K (E'.put o.dst (.v false [.r [dn o]]))
    | none => False
  | .buildSlice t n parts => match bsO ti E (dn o) t n parts.toList with
    | some (C, E') => C ∧ K (E'.put o.dst (.v false [.r [dn o]]))
    | none => False
  | .call c => match callO ti E c with
    | some (C, k, as, R) => C ∧ CallMx P k as (kCall R (dn o) o.dst K E) (kMut ti c o.dst K E) (kUse ti c (dn o) o.dst K E)
    | none => match pur ti E o with
      | some (C, sv) => C ∧ K (E.put o.dst sv)
      | none => match appX ti E (dn o) c with
        | some (C, E') => C ∧ K (E'.put o.dst (.v false [.r [dn o]]))
        | none => match clrX ti E c with
          | some (C, E') => C ∧ K (E'.put o.dst .dead)
          | none => False
  | _ => match pur ti E o with
    | some (C, sv) => C ∧ K (E.put o.dst sv)
    | none => False

def evG (P : Program) (ti : TT) (g : Bool) (o : Oper) (K : Env → Prop) (E : Env) : Prop :=
  match o.op with
  | .pick c x y => match pick3 ti E c x y with
    | some (C, r) => (g = true → C) ∧ K (E.put o.dst (.g g (bool r)))
    | none => False
  | .call c => match callO ti (E.un (opTmps o.op)) c with
    | some (C, k, as, R) => CallG P (g = true) (gsOk E (opTmps o.op) ∧ C) k as (kCallG R g o.dst K E)
    | none => match pur ti (E.un (opTmps o.op)) o with
      | some (C, sv) => (g = true → gsOk E (opTmps o.op) ∧ C) ∧ K (E.put o.dst (.g g sv))
      | none => False
  | _ => match pur ti (E.un (opTmps o.op)) o with
    | some (C, sv) => (g = true → gsOk E (opTmps o.op) ∧ C) ∧ K (E.put o.dst (.g g sv))
    | none => False

def ev (P : Program) (ti : TT) (ops : List Oper) : List Oper → (Env → Prop) → Env → Prop
  | [], K, E => K E
  | o :: rest, K, E => match o.guard with
    | none => evU P ti o (ev P ti ops rest K) E
    | some (j, b) => match guardB E ops j b with
      | some g => evG P ti g o (ev P ti ops rest K) E
      | none => False

theorem pickO_ok {sv : SV} {g c : Bool} {v : Value} (h : pickO sv = some (g, c)) (hg : g = true) (hv0 : SR tag hv w sv v) : v = .bool c := by
  unfold pickO at h
  split at h
  · cases h
    exact SR_bool hv0
  · cases h
    exact SR_bool (hv0.1 hg)
  · cases h
theorem pick3_ok {o : Oper} {c x y : Operand} {C : Prop} {r : Bool} (hs : St w0 tag0 E tag hv a w) (ho : o.op = .pick c x y) (h : pick3 ti E c x y = some (C, r)) (hC : C) : (execOp a.eval o).run P w = .ok (.value (.bool r)) w := by
  unfold pick3 at h
  split at h
  · rename_i sc sx sy h1 h2 h3
    split at h
    · rename_i gc c' gx x' gy y' h4 h5 h6
      cases h
      obtain ⟨q1, q2, q3⟩ := hC
      have e1 := pickO_ok h4 q1 (opd_ok hs h1)
      simp only [execOp, ho, Sem.run_bind, e1, asBool, Sem.run_pure, Result.andThen_ok]
      cases c' with
      | true =>
        have e2 := pickO_ok h5 (q2 rfl) (opd_ok hs h2)
        simp [e2]
      | false =>
        have e3 := pickO_ok h6 (q3 rfl) (opd_ok hs h3)
        simp [e3]
    · cases h
  · cases h

variable {N : Act → World → Prop} {Q : Exit → Act → World → Prop} {K : Env → Prop}

theorem upon_value {o : Oper} {v : Value} (h : (execOp a.eval o).run P w = .ok (.value v) w') (hn : N (a.put o.dst v) w') : o.wp P a w N Q := by
  unfold Oper.wp
  rw [h]
  exact hn

theorem pur_wp (hT : TGood P ti) {o : Oper} {C : Prop} {sv : SV} (hs : St w0 tag0 E tag hv a w) (hp : pur ti E o = some (C, sv)) (hC : C) (hK : K (E.put o.dst sv))
    (hN : ∀ E' tag' hv' a' w', St w0 tag0 E' tag' hv' a' w' → K E' → N a' w') : o.wp P a w N Q := by
  obtain ⟨v, h1, h2⟩ := pur_ok hT hs hp hC
  exact upon_value h1 (hN _ _ _ _ _ (hs.put h2) hK)

theorem scal_one' {v : Value} (h : scal v = true) : v.oneCell' = true := by cases v <;> simp_all [scal, Value.oneCell']
theorem clrX_ok (hT : TGood P ti) {o : Oper} {c : Call} {C : Prop} {E' : Env} (hs : St w0 tag0 E tag hv a w) (ho : o.op = .call c) (h : clrX ti E c = some (C, E')) (hC : C) :
    ∃ w' v tg hh, (execOp a.eval o).run P w = .ok (.value v) w' ∧ St w0 tag0 E' tg hh a w' := by
  have hs0 := hs
  replace hs := hs.norm
  have hone : ∀ {b b' : Nat} {p : List Nat}, normT tag hv b = .own p → normT tag hv b' = .own p → b = b' := normT_one
  obtain ⟨f, args, ats⟩ := c
  unfold clrX at h
  simp only at h
  split at h
  · rename_i x t h1 h2
    have e1 : args = #[x] := by apply Array.ext'; simpa using h1
    have e2 : ats = #[t] := by apply Array.ext'; simpa using h2
    subst e1 e2
    split at h
    · rename_i r sz lo n e' hx he
      split at h
      · rename_i e cols z rows hrt
        cases h
        obtain ⟨ht, hek, hez, hzs, hln⟩ := hC
        have hxv : PR (normT tag hv) hv w (.vw [r] sz lo n) _ := PR.norm (opd_ok hs0 hx)
        have hu := elt_und (hT t ht) he
        have ge := hT e' hek
        obtain ⟨y, hy1, hy2, hy3, hy4⟩ := ge.inf
        generalize normT tag hv = tag at hs hone hxv
        have hroot := hs.rt r _ hrt
        have hHp0 : ∀ w', (∀ b, tag b ≠ .own [r] → w'.heap[b]? = w.heap[b]?) → w'.os = w.os → w'.tape = w.tape → w'.output = w.output → w'.heap.size = w.heap.size → Hp (fun _ => false) [] [[r]] tag tag hv hv w w' := fun w' hne q1 q2 q3 q4 =>
          ⟨fun b _ hb => ⟨hb, hne b (by rw [hb]; simp)⟩, fun b q _ hb _ => ⟨hb, fun hq => hne b (by rw [hb]; intro e; injection e with e; exact hq (by simp [e]))⟩, fun b _ hb => ⟨hb, hne b (by rw [hb]; simp)⟩, fun _ _ => rfl, q1, q2, q3, by omega, fun b hb => hs.hi b (by omega)⟩
        obtain ⟨hh1, ⟨h0, h00⟩ | ⟨b, c, cur, hv1, hc, hm, htb, hbl, hcs, hl, hr⟩⟩ := hroot.open_own
        · -- nothing there
          have hr0 : rows.length = 0 := by rw [h00]; rfl
          have hn0 : n = 0 := by omega
          have hl0 : lo = 0 := by omega
          subst hn0 hl0
          have hxe : a.eval x = .slice none 0 0 := by
            rcases hxv with ⟨b, N, c, o', h3, _⟩ | ⟨_, h3, _⟩
            · rw [h0] at h3; cases h3
            · exact h3
          refine ⟨w, .tuple #[], tag, hv, ?_, hs.re (hHp0 w (fun _ _ => rfl) rfl rfl rfl rfl) (fun q hq => by simp only [List.mem_singleton] at hq; subst hq; simp) (fun r' y hl' => ?_)⟩
          · simp [execOp, ho, resolve, invoke, builtin, Builtin.clear_, hxe, run_underlying hu]
          · simp only [lkp] at hl'
            split at hl'
            · rename_i he2
              subst he2
              cases hl'
              simp only [h00, List.take_nil, List.replicate_zero, List.drop_nil, List.append_nil]
              rw [h0]
              exact .own0 h0
            · cases hl'
        · obtain ⟨o', hxe, ho'⟩ : ∃ o', a.eval x = .slice (some ⟨b, o', none⟩) n (c - lo) ∧ (lo < c ∨ lo = 0 → o' = lo * sz) := by
            rcases hxv with ⟨b2, N, c2, o2, h3, h4, h5, h6⟩ | ⟨h3, _⟩
            · rw [hv1] at h3
              cases h3
              exact ⟨o2, h4, h5⟩
            · rw [hv1] at h3; cases h3
          have hgoal : ∀ w' cur', w'.os = w.os → w'.tape = w.tape → w'.output = w.output → w'.heap.size = w.heap.size → (∀ b', b' ≠ b → w'.heap[b']? = w.heap[b']?) → w'.heap[b]? = some (.cells cur' e (0, 0)) → cur'.size = cur.size →
              (∀ k, cur'.getD k default = if lo * sz ≤ k ∧ k < lo * sz + n * sz then (Builtin.zeroCells (ti e').zv.cells n).toList.getD (k - lo * sz) default else cur.getD k default) →
              St w0 tag0 (E.re (fun _ => false) [] [[r]] [(r, .o e (fun k => if lo ≤ k ∧ k < lo + n then z.map fun _ => .s else cols k), .ls z (rows.take lo ++ (List.replicate n z ++ rows.drop (lo + n))))]) tag hv a w' := by
            intro w' cur' q1 q2 q3 q4 q5 q6 q7 q8
            have hne : ∀ b', tag b' ≠ .own [r] → w'.heap[b']? = w.heap[b']? := fun b' hb' => q5 b' (fun e => hb' (e ▸ htb))
            have hHp := hHp0 w' hne q1 q2 q3 q4
            refine hs.re hHp (fun q hq => by simp only [List.mem_singleton] at hq; subst hq; simp) (fun r' y hl' => ?_)
            simp only [lkp] at hl'
            split at hl'
            · rename_i he2
              subst he2
              cases hl'
              have hget : ∀ x, (rows.take lo ++ (List.replicate n z ++ rows.drop (lo + n))).getD x z = if lo ≤ x ∧ x < lo + n then z else rows.getD x z := fun x => by
                rw [List.getD_eq_getElem?_getD]
                by_cases hx1 : x < lo
                · rw [List.getElem?_append_left (by simp; omega), List.getElem?_take, if_pos hx1, if_neg (by omega), ← List.getD_eq_getElem?_getD]
                · rw [List.getElem?_append_right (by simp; omega), List.length_take, Nat.min_eq_left (by omega)]
                  by_cases hx2 : x < lo + n
                  · rw [List.getElem?_append_left (by simp; omega), List.getElem?_replicate, if_pos (by omega), if_pos (by omega)]
                    rfl
                  · rw [List.getElem?_append_right (by simp; omega), List.length_replicate, List.getElem?_drop, show lo + n + (x - lo - n) = x by omega, if_neg (by omega), ← List.getD_eq_getElem?_getD]
              rw [hv1]
              refine .own cur' (by simp; omega) hc hm htb (hv1) q6 (q7.trans hcs) (fun x hx => ?_) (fun x j hx hj => ?_)
              · rw [hget]
                split
                · rfl
                · exact hl x hx
              · have hlf : lf z (rows.take lo ++ (List.replicate n z ++ rows.drop (lo + n))) x j = if lo ≤ x ∧ x < lo + n then z.getD j default else lf z rows x j := by
                  simp only [lf]
                  rw [hget]
                  split <;> rfl
                rw [hlf, q8]
                by_cases hin : lo ≤ x ∧ x < lo + n
                · have hmd : md (fun k => if lo ≤ k ∧ k < lo + n then z.map fun _ => Md.s else cols k) x j = .s := by
                    simp only [md, if_pos hin]
                    rw [List.getD_eq_getElem?_getD, List.getElem?_map, List.getElem?_eq_getElem hj]
                    rfl
                  have hz0 : 0 < sz := by omega
                  have hlow : lo * sz ≤ x * sz := Nat.mul_le_mul_right _ hin.1
                  have hup : x * sz + j < lo * sz + n * sz := by
                    have : (x + 1) * sz ≤ (lo + n) * sz := Nat.mul_le_mul_right _ (by omega)
                    rw [Nat.add_mul, Nat.add_mul] at this
                    omega
                  rw [if_pos hin, hmd, hzs, if_pos ⟨by omega, hup⟩]
                  have hzl : (ti e').zv.cells.size = sz := by
                    rw [← Array.length_toList, ge.zc, List.length_map, hez, hzs]
                  have hidx : (Builtin.zeroCells (ti e').zv.cells n).toList.getD (x * sz + j - lo * sz) default = zval (z.getD j default) := by
                    have e1 : x * sz + j - lo * sz = (x - lo) * sz + j := by rw [Nat.sub_mul]; omega
                    have hlt : (x - lo) * sz + j < n * sz := by
                      have : (x - lo + 1) * sz ≤ n * sz := Nat.mul_le_mul_right _ (by omega)
                      rw [Nat.add_mul] at this
                      omega
                    rw [e1]
                    simp only [Builtin.zeroCells, Array.toList_map, Array.toList_range, List.getD_eq_getElem?_getD, List.getElem?_map]
                    rw [hzl, List.getElem?_range hlt]
                    simp only [Option.map_some, Option.getD_some]
                    rw [show ((x - lo) * sz + j) % sz = j by rw [Nat.mul_comm, Nat.mul_add_mod, Nat.mod_eq_of_lt (by omega)]]
                    rw [getElem!_pos (ti e').zv.cells j (by omega)]
                    have hj2 : j < (ti e').zv.cells.toList.length := by rw [Array.length_toList]; omega
                    have : (ti e').zv.cells.toList[j] = zval (z[j]) := by
                      have h9 : (ti e').zv.cells.toList[j]? = (z.map zval)[j]? := by rw [ge.zc, hez]
                      rw [List.getElem?_eq_getElem hj2, List.getElem?_map, List.getElem?_eq_getElem hj] at h9
                      simpa using h9
                    rw [Array.getElem_toList] at this
                    rw [this, List.getElem?_eq_getElem hj]
                    rfl
                  rw [hidx]
                  have hmem : z.getD j default ∈ (ti e').z := by
                    rw [hez, List.getD_eq_getElem?_getD, List.getElem?_eq_getElem hj]
                    exact List.getElem_mem hj
                  rcases ge.zf _ hmem with ⟨v, hv2, hsc⟩ | ⟨zz, hv2⟩
                  · rw [hv2]
                    exact .sc (scal_one' hsc)
                  · rw [hv2]
                    exact .sh0
                · have hmd : md (fun k => if lo ≤ k ∧ k < lo + n then z.map fun _ => Md.s else cols k) x j = md cols x j := by
                    simp only [md, if_neg hin]
                  have hnot : ¬ (lo * sz ≤ x * z.length + j ∧ x * z.length + j < lo * sz + n * sz) := by
                    rintro ⟨g1, g2⟩
                    rw [hzs] at g1 g2
                    apply hin
                    constructor
                    · rcases Nat.lt_or_ge x lo with g3 | g3
                      · have : (x + 1) * sz ≤ lo * sz := Nat.mul_le_mul_right _ g3
                        rw [Nat.add_mul] at this
                        omega
                      · exact g3
                    · rcases Nat.lt_or_ge x (lo + n) with g3 | g3
                      · exact g3
                      · have : (lo + n) * sz ≤ x * sz := Nat.mul_le_mul_right _ g3
                        rw [Nat.add_mul] at this
                        omega
                  rw [if_neg hin, hmd, if_neg hnot]
                  have hx' : x < rows.length := hx
                  refine (hr x j hx' hj).hp hHp hs.hi (fun rest _ => ⟨by simp [dth], by simp⟩)
            · cases hl'
          by_cases hn0 : n = 0
          · subst hn0
            refine ⟨w, .tuple #[], tag, hv, ?_, hgoal w cur rfl rfl rfl rfl (fun _ _ => rfl) hbl rfl (fun k => by rw [if_neg (by omega)])⟩
            simp [execOp, ho, resolve, invoke, builtin, Builtin.clear_, hxe, run_underlying hu]
          · have ho2 : o' = lo * sz := ho' (.inl (by omega))
            subst ho2
            have hzl : (ti e').zv.cells.size = sz := by
              rw [← Array.length_toList, ge.zc, List.length_map, hez, hzs]
            have hlen : (Builtin.zeroCells (ti e').zv.cells n).toList.length = n * sz := by
              simp [Builtin.zeroCells, hzl]
            obtain ⟨w', q0, q1, q2, q3, q4, q5, cur', q6, q7, q8⟩ := run_storeCells_blk (P := P) b e (Builtin.zeroCells (ti e').zv.cells n).toList cur (lo * sz) 0 w hbl (by
              rw [hlen, hcs, hzs]
              have : (lo + n) * sz ≤ c * sz := Nat.mul_le_mul_right _ (by omega)
              rw [Nat.add_mul] at this
              omega) (fun v hv => by
              obtain ⟨k, hk⟩ := List.getElem?_of_mem hv
              have hz0 : 0 < sz := by
                have := ge.pos
                rw [← ge.zl, hez, hzs] at this
                exact this
              have hk2 : k < n * sz := by rw [← hlen]; exact (List.getElem?_eq_some_iff.1 hk).1
              simp only [Builtin.zeroCells, Array.toList_map, Array.toList_range, List.getElem?_map] at hk
              rw [hzl, List.getElem?_range hk2] at hk
              simp only [Option.map_some, Option.some.injEq] at hk
              subst hk
              have hj : k % sz < (ti e').zv.cells.size := by rw [hzl]; exact Nat.mod_lt _ hz0
              rw [getElem!_pos (ti e').zv.cells (k % sz) hj]
              have hj2 : k % sz < (ti e').zv.cells.toList.length := by rw [Array.length_toList]; exact hj
              have hzr : k % sz < z.length := by rw [hzs]; exact Nat.mod_lt _ hz0
              have : (ti e').zv.cells.toList[k % sz] = zval (z[k % sz]) := by
                have h9 : (ti e').zv.cells.toList[k % sz]? = (z.map zval)[k % sz]? := by rw [ge.zc, hez]
                rw [List.getElem?_eq_getElem hj2, List.getElem?_map, List.getElem?_eq_getElem hzr] at h9
                simpa using h9
              rw [Array.getElem_toList] at this
              rw [this]
              rcases ge.zf (z[k % sz]) (by rw [hez]; exact List.getElem_mem hzr) with ⟨v, hv2, hsc⟩ | ⟨zz, hv2⟩
              · rw [hv2]
                exact scal_one' hsc
              · rw [hv2]
                rfl)
            refine ⟨w', .tuple #[], tag, hv, ?_, hgoal w' cur' q1 q2 q3 q4 q5 q6 q7 (fun k => by rw [q8 k, hlen, Nat.add_zero])⟩
            have hzv : ∀ w, (zeroValue e').run P w = .ok (ti e').zv w := fun w => by simp [zeroValue, typeInfo, hy1, hy4]
            cases n with
            | zero => exact absurd rfl hn0
            | succ n => simp [execOp, ho, resolve, invoke, builtin, Builtin.clear_, hxe, run_underlying hu, hzv, q0]
      · cases h
    · cases h
  · cases h

theorem evU_ok (hT : TGood P ti) {o : Oper} (hs : St w0 tag0 E tag hv a w) (h : evU P ti o K E) (hN : ∀ E' tag' hv' a' w', St w0 tag0 E' tag' hv' a' w' → K E' → N a' w') : o.wp P a w N Q := by
  unfold evU at h
  split at h
  · -- pick
    rename_i c x y ho
    split at h
    · rename_i C r hp
      exact upon_value (pick3_ok hs ho hp h.1) (hN _ _ _ _ _ (hs.put mk_bool) h.2)
    · exact h.elim
  · -- alloc
    rename_i t ho
    obtain ⟨h1, h2, h3⟩ := h
    have g := hT t h1
    have hst := hs.newBox (dn o) h2 (zLV_ok g) t
    rw [Array.toArray_toList] at hst
    exact upon_value (run_alloc g ho) (hN _ _ _ _ _ (hst.put (sv := .p (.bx (dn o) 0)) ⟨w.heap.size, by simp [upH], rfl⟩) h3)
  · -- box
    rename_i t x ho
    split at h
    · rename_i ag ls hx
      obtain ⟨cs, h1, h2, h3⟩ := opd_ok hs hx
      have hst := hs.newBox (dn o) h.1 h2 t
      have hc : (a.eval x).cells = cs.toArray := by
        apply Array.ext'
        rw [h1, cells_mkV h2 h3]
      have hr := run_box (P := P) (a := a) (w := w) ho
      rw [hc] at hr
      exact upon_value hr (hN _ _ _ _ _ (hst.put (sv := .p (.bx (dn o) 0)) ⟨w.heap.size, by simp [upH], rfl⟩) h.2)
    · exact h.elim
  · -- store
    rename_i t x y ho
    split at h
    · rename_i b off ag new hx hy
      split at h
      · rename_i ls hb
        obtain ⟨h1, h2, h3, h4⟩ := h
        obtain ⟨w', h5, h6⟩ := hs.storeBx hT h1 hb (opd_ok hs hx) (opd_ok hs hy) h2 h3
        unfold Oper.wp
        have hr : (execOp a.eval o).run P w = .ok .skip w' := by simp only [execOp, ho, Sem.run_bind, h5, Result.andThen_ok, Sem.run_pure]
        rw [hr]
        exact hN _ _ _ _ _ (h6.put (sv := .dead) trivial) h4
      · exact h.elim
    · rename_i p sz i off ag new hx hy
      split at h
      · rename_i C E' hst
        obtain ⟨h1, h2, h3, h4, h5⟩ := h
        obtain ⟨w', tg, hh, h6, h7⟩ := hs.storePt hT h1 (opd_ok hs hx) (opd_ok hs hy) h2 hst h4 (fun z hz => by
          obtain ⟨r, rest, x, e, cols, rows, rfl, q1, q2⟩ := hz
          simpa [Env.szAt, Env.at_, q1, q2] using h3)
        unfold Oper.wp
        have hr : (execOp a.eval o).run P w = .ok .skip w' := by simp only [execOp, ho, Sem.run_bind, h6, Result.andThen_ok, Sem.run_pure]
        rw [hr]
        exact hN _ _ _ _ _ (h7.put (sv := .dead) trivial) h5
      · exact h.elim
    · exact h.elim
  · -- makeSlice
    rename_i t x y ho
    split at h
    · rename_i C E' hm
      unfold mkO at hm
      split at hm
      · rename_i k1 n k2 m e hx hy he
        cases hm
        obtain ⟨⟨rfl, h1, h2, h3, h4, h5, h6⟩, hK⟩ := h
        have hx' := SR_int (opd_ok hs hx)
        have hy' := SR_int (opd_ok hs hy)
        obtain ⟨w', v, tg, hh, h7, h8, h9⟩ := run_mk (kl := k1) (kc := k2) hT hs h6 h2 he h3 rfl h4 h5
        rw [Int.toNat_of_nonneg h1] at h7
        unfold Oper.wp
        have hr : (execOp a.eval o).run P w = .ok (.value v) w' := by simp only [execOp, ho, hx', hy', Sem.run_bind, h7, Result.andThen_ok, Sem.run_pure]
        rw [hr]
        exact hN _ _ _ _ _ (h8.put h9) hK
      · cases hm
    · exact h.elim
  · -- buildSlice
    rename_i t n parts ho
    split at h
    · rename_i C E' hm
      obtain ⟨v, w', tg, hh, h1, h2, h3⟩ := bsO_ok hT hs ho hm h.1
      unfold Oper.wp
      rw [h1]
      exact hN _ _ _ _ _ (h2.put h3) h.2
    · exact h.elim
  · -- call
    rename_i c ho
    split at h
    · rename_i C k as R hc
      obtain ⟨hC, ⟨rs, hvc, hR, hd, hK⟩ | ⟨as', ms, n, hvm, hk⟩ | ⟨as', ms, rs, hvx, hk⟩⟩ := h
      case inr.inr =>
        obtain ⟨vs, h1, h2⟩ := kUse_ok hs ho hc hvx hk
        unfold Oper.wp
        rw [h1, Oper.upon_enter]
        refine h2.mono ?_
        rintro e w' ⟨rv, rfl, E', tg, hh, h3, h4, h5⟩
        exact hN _ _ _ _ _ (h3.put h4) h5
      case inr.inl =>
        obtain ⟨vs, h1, h2⟩ := kMut_ok hs ho hc hvm hk
        unfold Oper.wp
        rw [h1, Oper.upon_enter]
        refine h2.mono ?_
        rintro e w' ⟨rfl, E', tg, hh, h3, h4⟩
        exact hN _ _ _ _ _ (h3.put mk_int) h4
      obtain ⟨vs, h1, h2⟩ := callO_ok hs ho hc hC hvc.1
      unfold Oper.wp
      rw [h1, Oper.upon_enter]
      refine (hvc.2 w (lend R tag) hv vs (lend_cases R) (fun b hb => ?_) h2).mono ?_
      · simp [lend, hs.hi b hb]
      · rintro e w' ⟨tag', hv', rv, rfl, hfr, hi', hrv⟩
        obtain ⟨tg, hh, h3, h4⟩ := hs.ret hd hfr hi' hR hrv
        exact hN _ _ _ _ _ (h3.put h4) hK
    · split at h
      · rename_i C sv hp
        exact pur_wp hT hs hp h.1 h.2 hN
      · split at h
        · rename_i C E' hm
          unfold appX at hm
          split at hm
          · rename_i h1 h2 h3
            obtain ⟨v, w', tg, hh, h4, h5, h6⟩ := appO_ok hT hs ho (by
              obtain ⟨c1, c2, c3⟩ := c
              simp only at h1 h2 h3
              rw [h1, show c2 = _ from (Array.toList_inj.1 (h2.trans rfl)), show c3 = _ from (Array.toList_inj.1 (h3.trans rfl))]) hm h.1
            unfold Oper.wp
            rw [h4]
            exact hN _ _ _ _ _ (h5.put h6) h.2
          · cases hm
        · split at h
          · rename_i C E' hm
            obtain ⟨w', v, tg, hh, h4, h5⟩ := clrX_ok hT hs ho hm h.1
            unfold Oper.wp
            rw [h4]
            exact hN _ _ _ _ _ (h5.put (sv := .dead) trivial) h.2
          · exact h.elim
  · split at h
    · rename_i C sv hp
      exact pur_wp hT hs hp h.1 h.2 hN
    · exact h.elim

theorem St.fresh_same (hs : St w0 tag0 E tag hv a w) (D : Nat → Bool) : St w0 tag0 (E.fresh D) tag hv a w :=
  hs.hop ⟨fun _ _ h => ⟨h, rfl⟩, fun _ _ _ _ h _ => ⟨h, rfl⟩, fun _ _ _ => rfl⟩ hs.fr hs.hi

theorem evG_ok (hT : TGood P ti) {g : Bool} {o : Oper} (hs : St w0 tag0 E tag hv a w) (h : evG P ti g o K E) (hN : ∀ E' tag' hv' a' w', St w0 tag0 E' tag' hv' a' w' → K E' → N a' w') :
    if g = true then o.wp P a w N Q else N (a.put o.dst undef) w := by
  have hpur : (match pur ti (E.un (opTmps o.op)) o with
      | some (C, sv) => (g = true → gsOk E (opTmps o.op) ∧ C) ∧ K (E.put o.dst (.g g sv))
      | none => False) → if g = true then o.wp P a w N Q else N (a.put o.dst undef) w := by
    intro h
    split at h
    · rename_i C sv hp
      split
      · rename_i hg
        obtain ⟨h1, h2⟩ := h.1 hg
        obtain ⟨v, h3, h4⟩ := pur_ok hT (hs.un h1) hp h2
        exact upon_value h3 (hN _ _ _ _ _ (hs.put (sv := .g g sv) ⟨fun _ => h4, fun hf => by rw [hg] at hf; cases hf⟩) h.2)
      · rename_i hg
        exact hN _ _ _ _ _ (hs.put (sv := .g g sv) ⟨fun hf => absurd hf hg, fun _ => rfl⟩) h.2
    · exact h.elim
  unfold evG at h
  split at h
  · -- pick
    rename_i c x y ho
    split at h
    · rename_i C r hp
      split
      · rename_i hg
        exact upon_value (pick3_ok hs ho hp (h.1 hg)) (hN _ _ _ _ _ (hs.put (sv := .g g (bool r)) ⟨fun _ => mk_bool, fun hf => by rw [hg] at hf; cases hf⟩) h.2)
      · rename_i hg
        exact hN _ _ _ _ _ (hs.put (sv := .g g (bool r)) ⟨fun hf => absurd hf hg, fun _ => rfl⟩) h.2
    · exact h.elim
  · -- call
    rename_i c ho
    split at h
    · rename_i C k as R hc
      obtain ⟨rs, h1, hR, hf, hK⟩ := h
      split
      · rename_i hg
        obtain ⟨⟨h2, hC⟩, hvc⟩ := h1 hg
        obtain ⟨vs, h3, h4⟩ := callO_ok (hs.un h2) ho hc hC hvc.1
        unfold Oper.wp
        rw [h3, Oper.upon_enter]
        refine (hvc.2 w (lend R tag) hv vs (lend_cases R) (fun b hb => ?_) h4).mono ?_
        · simp [lend, hs.hi b hb]
        · rintro e w' ⟨tag', hv', rv, rfl, hfr, hi', hrv⟩
          obtain ⟨tg, h5, h6⟩ := hs.retF hfr hi' hR hf hrv
          exact hN _ _ _ _ _ (h5.put (sv := .g g (frzS rs)) ⟨fun _ => h6, fun hf => by rw [hg] at hf; cases hf⟩) hK
      · rename_i hg
        exact hN _ _ _ _ _ (hs.put (sv := .g g (frzS rs)) ⟨fun hf => absurd hf hg, fun _ => rfl⟩) hK
    · exact hpur h
  · exact hpur h

theorem ev_ok (hT : TGood P ti) (ops : Array Oper) : ∀ (rest : List Oper) {E : Env} {tag : Nat → Tag} {hv : Hv} {a : Act} {w : World}, St w0 tag0 E tag hv a w → ev P ti ops.toList rest K E →
    (∀ E' tag' hv' a' w', St w0 tag0 E' tag' hv' a' w' → K E' → Q .normal a' w') → wpList P ops Q rest a w
  | [], E, tag, hv, a, w, hs, h, hN => wpList_nil (hN _ _ _ _ _ hs h)
  | o :: rest, E, tag, hv, a, w, hs, h, hN => by
    simp only [ev] at h
    split at h
    · rename_i hg
      refine wpList_plain hg fun K' hK' => ?_
      exact evU_ok hT hs h (fun E' tag' hv' a' w' hs' hk => hK' _ _ (ev_ok hT ops rest hs' hk hN))
    · rename_i j b hg
      split at h
      · rename_i g hgb
        refine wpList_step fun K' hK' => ?_
        have h1 := guardB_ok hs hgb
        have h2 : Region.wanted o (yielded ops a.tmps) = g := by simp only [Region.wanted, hg]; exact h1
        rw [h2]
        exact evG_ok hT hs h (fun E' tag' hv' a' w' hs' hk => hK' _ _ (ev_ok hT ops rest hs' hk hN))
      · exact h.elim
end Go.Sm
