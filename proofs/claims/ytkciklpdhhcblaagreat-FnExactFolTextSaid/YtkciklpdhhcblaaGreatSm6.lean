import Derived.Test.YtkciklpdhhcblaaGreatSm5
import Derived.Laws.StructEq
/-
  'pur' is what the machine does, operation by operation.
-/
namespace Go.Sm
open Go.RowKit

variable {P : Program} {ti : TT} {E : Env} {tag tag0 : Nat → Tag} {hv : Hv} {a : Act} {w w0 : World} {t : Nat}

theorem intBin_ok {op : BinOp} {k : IntKind} {x y : Int} {C : Prop} {sv : SV} (h : intBin op k x y = some (C, sv)) (hC : C) (T : TypeId) (xo yo : Operand) :
    ∃ v, (do eqGuard op T xo yo (.int k x) (.int k y); binOp op T (.int k x) (.int k y) : Sem Value).run P w = .ok v w ∧ SR tag hv w sv v := by
  cases op <;> simp only [intBin, Option.some.injEq, Prod.mk.injEq, reduceCtorEq] at h <;> obtain ⟨rfl, rfl⟩ := h
  all_goals
    first | refine ⟨_, ?_, mk_int⟩ | refine ⟨_, ?_, mk_bool⟩
    first
    | (simp [eqGuard, binOp, Op.intArith]; done)
    | (simp [eqGuard, binOp, Op.intDiv, hC]; done)
    | (simp only [eqGuard, binOp, Op.intBits]; rfl)
    | (simp [eqGuard, binOp, Op.intBits]; done)
    | (simp [eqGuard, binOp, Op.intCmp]; done)
    | (simp [eqGuard, binOp, Op.intCmp]; rfl)
theorem strBin_ok {op : BinOp} {x y : ByteArray} {C : Prop} {sv : SV} (h : strBin op x y = some (C, sv)) (hC : C) (T : TypeId) (xo yo : Operand) :
    ∃ v, (do eqGuard op T xo yo (.string x) (.string y); binOp op T (.string x) (.string y) : Sem Value).run P w = .ok v w ∧ SR tag hv w sv v := by
  cases op <;> simp only [strBin, Option.some.injEq, Prod.mk.injEq, reduceCtorEq] at h <;> obtain ⟨rfl, rfl⟩ := h
  all_goals
    first | refine ⟨_, ?_, mk_str⟩ | refine ⟨_, ?_, mk_bool⟩
    first
    | (have h3 : ¬ (9223372036854775807 < (x.size : Int) + (y.size : Int)) := by omega
       have h2 : IntKind.i64.max = 9223372036854775807 := by decide
       simp [eqGuard, binOp, Op.stringOp, h2, h3]; done)
    | (simp [eqGuard, binOp, Op.stringOp]; done)
    | (simp [eqGuard, binOp, Op.stringOp]; rfl)
theorem shiftBin_ok {op : BinOp} {k k' : IntKind} {x y : Int} {C : Prop} {sv : SV} (h : shiftBin op k x y = some (C, sv)) (hC : C) (T : TypeId) (xo yo : Operand) :
    ∃ v, (do eqGuard op T xo yo (.int k x) (.int k' y); binOp op T (.int k x) (.int k' y) : Sem Value).run P w = .ok v w ∧ SR tag hv w sv v := by
  cases op <;> simp only [shiftBin, Option.some.injEq, Prod.mk.injEq, reduceCtorEq] at h <;> obtain ⟨rfl, rfl⟩ := h
  all_goals
    have hn : ¬ y < 0 := by omega
    exact ⟨_, by simp [eqGuard, binOp, Op.shift, hn], mk_int⟩

theorem boolBin_ok {ti : TT} (hT : TGood P ti) {op : BinOp} {T : TypeId} {x y : Bool} {C : Prop} {sv : SV} (hok : (ti T).ok = true) (hb : (ti T).isBool = true) (h : boolBin op x y = some (C, sv)) (xo yo : Operand) :
    ∃ v, (do eqGuard op T xo yo (.bool x) (.bool y); binOp op T (.bool x) (.bool y) : Sem Value).run P w = .ok v w ∧ SR tag hv w sv v := by
  have hu : P.underlying T = some .bool := by
    have := (hT T hok).und
    unfold TI.isBool at hb
    split at hb
    · rename_i hd
      rw [this, hd]
    · cases hb
  unfold boolBin at h
  split at h
  · cases h
    exact ⟨.bool (x == y), by simp [eqGuard, binOp, Op.equal, Op.maxDepth, run_equalIn_bool' _ _ _ _ _ hu], mk_bool⟩
  · cases h
    exact ⟨.bool (!(x == y)), by simp [eqGuard, binOp, Op.equal, Op.maxDepth, run_equalIn_bool' _ _ _ _ _ hu], mk_bool⟩
  · cases h
theorem eqC_ok : ∀ {z : List Lf} {xs ys : List LV} {r : Bool} {cs ds : List Value}, eqC z xs ys = some r → All2 (LR tag hv w) xs cs → All2 (LR tag hv w) ys ds → sameK z cs ∧ sameK z ds ∧ eqV cs ds = r := by
  intro z xs ys
  fun_induction eqC z xs ys with
  | case1 =>
    intro r cs ds h h1 h2
    cases h; cases h1; cases h2
    exact ⟨trivial, trivial, rfl⟩
  | case2 k _ z k1 a xs k2 b ys r0 he hk ih =>
    intro r cs ds h h1 h2
    cases h
    cases h1 with
    | cons h1 h1s =>
    cases h2 with
    | cons h2 h2s =>
    obtain ⟨q1, q2, q3⟩ := ih he h1s h2s
    rw [LR_int h1, LR_int h2]
    exact ⟨⟨hk.1, q1⟩, ⟨hk.2, q2⟩, by simp [eqV, q3]⟩
  | case5 s0 z a xs b ys r0 he ih =>
    intro r cs ds h h1 h2
    cases h
    cases h1 with
    | cons h1 h1s =>
    cases h2 with
    | cons h2 h2s =>
    obtain ⟨q1, q2, q3⟩ := ih he h1s h2s
    rw [LR_str h1, LR_str h2]
    exact ⟨q1, q2, by simp [eqV, q3]⟩
  | case7 s0 z a xs b ys r0 he ih =>
    intro r cs ds h h1 h2
    cases h
    cases h1 with
    | cons h1 h1s =>
    cases h2 with
    | cons h2 h2s =>
    obtain ⟨q1, q2, q3⟩ := ih he h1s h2s
    rw [LR_bool h1, LR_bool h2]
    exact ⟨q1, q2, by simp [eqV, q3]⟩
  | _ => intro r cs ds h; cases h
theorem eqSV_ok (hT : TGood P ti) {op : BinOp} {T : Nat} {x y : SV} {X Y : Value} {C : Prop} {sv : SV} (hb : (ti T).eqb = true) (h : eqSV ti op T x y = some (C, sv)) (hC : C) (hx : SR tag hv w x X) (hy : SR tag hv w y Y) (xo yo : Operand) :
    ∃ v, (do eqGuard op T xo yo X Y; binOp op T X Y : Sem Value).run P w = .ok v w ∧ SR tag hv w sv v := by
  unfold eqSV at h
  split at h
  · rename_i ls ls'
    split at h
    · rename_i r hr
      obtain ⟨cs, rfl, h1, _⟩ := hx
      obtain ⟨ds, rfl, h2, _⟩ := hy
      obtain ⟨q1, q2, q3⟩ := eqC_ok hr h1 h2
      obtain ⟨he, hg⟩ := hT.e T hb
      split at h
      · cases h
        have he' := he 5000 w cs ds q1 q2
        rw [hC.2, q3] at he'
        simp only [mkV] at he' ⊢
        exact ⟨.bool r, by rw [Sem.run_bind, run_eqGuard_agg w .eql T xo yo _ _ hg, Result.andThen_ok, run_eql_struct w T, he']; rfl, mk_bool⟩
      · cases h
        have he' := he 5000 w cs ds q1 q2
        rw [hC.2, q3] at he'
        simp only [mkV] at he' ⊢
        exact ⟨.bool (!r), by rw [Sem.run_bind, run_eqGuard_agg w .neq T xo yo _ _ hg, Result.andThen_ok, run_neq_struct w T, he']; rfl, mk_bool⟩
      · cases h
    · cases h
  · cases h
theorem binSV_ok {op : BinOp} {x y : SV} {X Y : Value} {C : Prop} {sv : SV} (h : binSV op x y = some (C, sv)) (hC : C) (hx : SR tag hv w x X) (hy : SR tag hv w y Y) (T : TypeId) (xo yo : Operand) :
    ∃ v, (do eqGuard op T xo yo X Y; binOp op T X Y : Sem Value).run P w = .ok v w ∧ SR tag hv w sv v := by
  unfold binSV at h
  split at h
  · rw [SR_int hx, SR_int hy]
    exact shiftBin_ok h hC T xo yo
  · rw [SR_int hx, SR_int hy]
    exact shiftBin_ok h hC T xo yo
  · rw [SR_int hx, SR_int hy]
    split at h
    · rename_i hk
      subst hk
      exact intBin_ok h hC T xo yo
    · cases h
  · rw [SR_str hx, SR_str hy]
    exact strBin_ok h hC T xo yo
  · cases h

theorem run_binOp {o : Oper} {op : BinOp} {T yT : TypeId} {x y : Operand} {v : Value} (ho : o.op = .binOp op T x y yT) (h : (do eqGuard op T x y (a.eval x) (a.eval y); binOp op T (a.eval x) (a.eval y) : Sem Value).run P w = .ok v w) :
    (execOp a.eval o).run P w = .ok (.value v) w := by
  simp only [Sem.run_bind] at h
  simp only [execOp, ho, Sem.run_bind, h, Result.andThen_ok, Sem.run_pure]

/-- A pointer moves on by a field. -/
theorem run_fieldAt {f off u b k : Nat} (g : (ti t).good P t) (hf : (ti t).fld f = some (off, u)) : (Instr.fieldAt t (.pointer (some ⟨b, k, none⟩)) f).run P w = .ok (.pointer (some ⟨b, k + off, none⟩)) w := by
  obtain ⟨n, hn, hn0⟩ := g.fs f off u hf
  obtain ⟨i, hi, hin⟩ := Option.map_eq_some_iff.1 hn
  unfold TI.fld at hf
  split at hf
  · rename_i fs hd
    obtain ⟨fl, hfl, h2⟩ := Option.map_eq_some_iff.1 hf
    simp only [Prod.mk.injEq] at h2
    obtain ⟨rfl, rfl⟩ := h2
    have hu := g.und
    rw [hd] at hu
    have hne : i.size ≠ 0 := by rw [hin]; exact hn0
    simp [Instr.fieldAt, run_underlying hu, hfl, Instr.sureAddr, fieldPlace, sizeOf, typeInfo, hi, hne, add_lit]
  · cases hf

theorem run_indexAt_sl {e : Nat} {A : Option Addr} {n c : Nat} {k : IntKind} {i : Int} {b off sz : Nat} (g : (ti t).good P t) (he : (ti t).elt = some e) (ge : (ti e).good P e) (hsz : (ti e).sz = sz)
    (h0 : 0 ≤ i) (h1 : i < n) (hA : A = some ⟨b, off, none⟩) : (Instr.indexAt t (.slice A n c) (.int k i)).run P w = .ok (.pointer (some ⟨b, off + i.toNat * sz, none⟩)) w := by
  unfold TI.elt at he
  split at he
  · rename_i e' hd
    cases he
    have hu := g.und
    rw [hd] at hu
    subst hA
    simp [Instr.indexAt, asIntOf, run_underlying hu, h0, h1, ge.size, hsz, add_lit]
  · cases he

theorem bnd_ok {n : Nat} {x : Option Operand} {C : Prop} {h : Nat} {ti : TT} (hs : St w0 tag0 E tag hv a w) (hb : bnd n (x.bind (opd ti E 0)) = some (C, h)) (hC : C) (hx : x.isSome = (x.bind (opd ti E 0)).isSome) :
    (x = none ∧ h = n) ∨ ∃ y k i, x = some y ∧ a.eval y = .int k i ∧ 0 ≤ i ∧ i ≤ n ∧ h = i.toNat := by
  cases x with
  | none =>
    simp only [Option.bind_none, bnd, Option.some.injEq, Prod.mk.injEq] at hb
    exact .inl ⟨rfl, hb.2.symm⟩
  | some y =>
    simp only [Option.bind_some] at hb hx
    cases ho : opd ti E 0 y with
    | none => simp [ho] at hx
    | some sv =>
      rw [ho] at hb
      unfold bnd at hb
      split at hb
      · rename_i heq; cases heq
      · rename_i k i heq
        cases heq
        simp only [Option.some.injEq, Prod.mk.injEq] at hb
        obtain ⟨rfl, rfl⟩ := hb
        exact .inr ⟨y, k, i, rfl, SR_int (opd_ok hs ho), hC.1, hC.2, rfl⟩
      · cases hb
theorem bndL_ok {n : Nat} {x : Option Operand} {C : Prop} {h : Nat} {ti : TT} (hs : St w0 tag0 E tag hv a w) (hb : bndL n (x.bind (opd ti E 0)) = some (C, h)) (hC : C) (hx : x.isSome = (x.bind (opd ti E 0)).isSome) :
    (x = none ∧ h = 0) ∨ ∃ y k i, x = some y ∧ a.eval y = .int k i ∧ 0 ≤ i ∧ i ≤ n ∧ h = i.toNat := by
  cases x with
  | none =>
    simp only [Option.bind_none, bndL, Option.some.injEq, Prod.mk.injEq] at hb
    exact .inl ⟨rfl, hb.2.symm⟩
  | some y =>
    simp only [Option.bind_some] at hb hx
    cases ho : opd ti E 0 y with
    | none => simp [ho] at hx
    | some sv =>
      rw [ho] at hb
      unfold bndL at hb
      split at hb
      · rename_i heq; cases heq
      · rename_i k i heq
        cases heq
        simp only [Option.some.injEq, Prod.mk.injEq] at hb
        obtain ⟨rfl, rfl⟩ := hb
        exact .inr ⟨y, k, i, rfl, SR_int (opd_ok hs ho), hC.1, hC.2, rfl⟩
      · cases hb
theorem run_bounds {isS : Bool} {len cap : Nat} {lo hi : Option Value} {h l : Nat} (hlc : len ≤ cap)
    (hh : (hi = none ∧ h = len) ∨ ∃ k i, hi = some (.int k i) ∧ 0 ≤ i ∧ i ≤ (len : Int) ∧ h = i.toNat) (hl : (lo = none ∧ l = 0) ∨ ∃ k i, lo = some (.int k i) ∧ 0 ≤ i ∧ i ≤ (h : Int) ∧ l = i.toNat) :
    (Instr.sliceBounds isS len cap lo hi none).run P w = .ok (l, h, cap) w := by
  rcases hh with ⟨rfl, rfl⟩ | ⟨k, i, rfl, h0, h1, rfl⟩ <;> rcases hl with ⟨rfl, rfl⟩ | ⟨k', i', rfl, h2, h3, rfl⟩
  · simp [Instr.sliceBounds]
  · simp [Instr.sliceBounds, Instr.sliceBound, asIntOf, h2, h3]
  · have : i ≤ (cap : Int) := by omega
    simp [Instr.sliceBounds, Instr.sliceBound, asIntOf, h0, this]
  · have h4 : i ≤ (cap : Int) := by omega
    have h5 : ¬ max i 0 < i' := by omega
    simp [Instr.sliceBounds, Instr.sliceBound, asIntOf, h0, h4, h2, h5]

/-- A cut of a slice that nobody writes. -/
theorem VR_cut {z : List Lf} {rows : List (List Lf)} {A : Option Addr} {n c l h : Nat} {p : List Nat} (hv0 : VR tag hv w p .s (.ls z rows) (.slice A n c)) (hl : l ≤ h) (hh : h ≤ rows.length) :
    VR tag hv w p .s (.ls z ((rows.take h).drop l)) (.slice (if c = l then A else A.map (·.add (l * z.length))) (h - l) (c - l)) := by
  have hlen : ((rows.take h).drop l).length = h - l := by simp; omega
  by_cases h0 : h = l
  · subst h0
    have : (rows.take h).drop h = [] := by simp
    rw [this, Nat.sub_self]
    exact .sh0
  · cases hv0 with
    | sh0 => simp at hh; omega
    | @sh _ _ _ b off _ _ cell hn hc ht hrl hcell hr =>
      have hne : c ≠ l := by omega
      simp only [hne, if_false, Option.map_some, add_lit]
      have hget : ∀ i, i < h - l → ((rows.take h).drop l).getD i z = rows.getD (l + i) z := by
        intro i hi
        rw [List.getD_eq_getElem?_getD, List.getD_eq_getElem?_getD, List.getElem?_drop, List.getElem?_take, if_pos (by omega)]
      refine .sh (fun i j => cell (l + i) j) hlen (by omega) ht (fun i hi => ?_) (fun i j hi hj => ?_) (fun i j hi hj => ?_)
      · rw [hget i hi]
        exact hrl _ (by omega)
      · have := hcell (l + i) j (by omega) hj
        rw [Nat.add_mul] at this
        rw [show off + l * z.length + (i * z.length + j) = off + (l * z.length + i * z.length + j) by omega]
        exact this
      · have := hr (l + i) j (by omega) hj
        simp only [lf] at this ⊢
        rw [hget i hi]
        exact this
end Go.Sm
