import Derived.Test.YtkciklpdhhcblaaGreatSm6
import Derived.Laws.BytesArg
import Derived.Laws.IdiomStrings
namespace Go.Sm
open Go.RowKit

variable {P : Program} {ti : TT} {E : Env} {tag tag0 : Nat → Tag} {hv : Hv} {a : Act} {w w0 : World} {t : Nat}

theorem take_all2_ps {ds : List Lf} {n b off : Nat} (hn : n ≤ ds.length) (hc : ∀ j, j < ds.length → ∃ u, w.cell? ⟨b, off + j, none⟩ = some u ∧ VR tag hv w [] .s (ds.getD j default) u) :
    ∃ cs : List Value, cs.length = n ∧ (∀ j v, cs[j]? = some v → w.cell? ⟨b, off + j, none⟩ = some v) ∧ All2 (LR tag hv w) ((ds.take n).map .s) cs := by
  induction n with
  | zero => exact ⟨[], rfl, fun j v h => by simp at h, by simpa using .nil⟩
  | succ n ih =>
    obtain ⟨cs, h1, h2, h3⟩ := ih (by omega)
    obtain ⟨u, hu, hr⟩ := hc n (by omega)
    refine ⟨cs ++ [u], by simp [h1], fun j v h => ?_, ?_⟩
    · rcases Nat.lt_or_ge j cs.length with hj | hj
      · rw [List.getElem?_append_left hj] at h
        exact h2 j v h
      · rw [List.getElem?_append_right hj] at h
        have : j = n := by
          by_cases e : j - cs.length = 0
          · omega
          · rw [List.getElem?_eq_none (by simp; omega)] at h; cases h
        subst this
        rw [← h1] at h
        simp only [Nat.sub_self, List.getElem?_cons_zero, Option.some.injEq] at h
        rw [← h]
        exact hu
    · refine .of_get (by simp [h1]; omega) fun j x y hx hy => ?_
      rcases Nat.lt_or_ge j n with hj | hj
      · refine h3.get j x y ?_ ?_
        · rw [List.getElem?_map, List.getElem?_take, if_pos hj]
          rw [List.getElem?_map, List.getElem?_take, if_pos (by omega)] at hx
          exact hx
        · rw [List.getElem?_append_left (by omega)] at hy
          exact hy
      · have hj2 : j = n := by
          rcases Nat.lt_or_ge j (n + 1) with h | h
          · omega
          · rw [List.getElem?_map, List.getElem?_take, if_neg (by omega)] at hx; simp at hx
        subst hj2
        rw [List.getElem?_append_right (by omega), h1] at hy
        simp only [Nat.sub_self, List.getElem?_cons_zero, Option.some.injEq] at hy
        rw [List.getElem?_map, List.getElem?_take, if_pos (by omega), List.getElem?_eq_getElem (by omega)] at hx
        simp only [Option.map_some, Option.some.injEq] at hx
        subst hx hy
        rw [List.getD_eq_getElem?_getD, List.getElem?_eq_getElem (by omega)] at hr
        exact hr

theorem toLV_ok {p : List Nat} {i j : Nat} {m : Md} {l : Lf} {v : Value} (h : VR tag hv w (p ++ [i, j]) m l v) : LR tag hv w (toLV p i j m l) v := by
  cases m with
  | s =>
    show VR tag hv w [] .s l v
    refine h.move [] (fun b hb => ⟨hb, rfl⟩) (fun rest hrest => by cases hrest)
  | x => exact h.one
  | o e cols =>
    cases l with
    | sc u => cases h
    | ls z rows =>
      obtain ⟨h1, h2⟩ := h.open_own
      refine ⟨h1.symm, ?_⟩
      rcases h2 with ⟨h3, _⟩ | ⟨b, c, cur, h3, _⟩
      · exact ⟨_, _, _, h3⟩
      · exact ⟨_, _, _, h3⟩

theorem row_all2_pt {p : List Nat} {e : Nat} {cols : Nat → List Md} {z : List Lf} {rows : List (List Lf)} {i off n b c : Nat} {cur : Array Value}
    (hb : w.heap[b]? = some (.cells cur e (0, 0))) (hsz : cur.size = c * z.length) (hlc : rows.length ≤ c) (hi : i < rows.length)
    (hr : ∀ i j, i < rows.length → j < z.length → VR tag hv w (p ++ [i, j]) (md cols i j) (lf z rows i j) (cur.getD (i * z.length + j) default)) (hn : off + n ≤ z.length) :
    ∃ cs : List Value, cs.length = n ∧ (∀ j v, cs[j]? = some v → w.cell? ⟨b, i * z.length + off + j, none⟩ = some v) ∧ All2 (LR tag hv w) ((List.range' off n).map fun j => toLV p i j (md cols i j) (lf z rows i j)) cs := by
  have hlt : ∀ j, j < z.length → i * z.length + j < cur.size := by
    intro j hj
    rw [hsz]
    have h1 : (i + 1) * z.length ≤ c * z.length := Nat.mul_le_mul_right _ (by omega)
    rw [Nat.add_mul] at h1
    omega
  refine ⟨(List.range' off n).map fun j => cur.getD (i * z.length + j) default, by simp, fun j v h => ?_, ?_⟩
  · rw [List.getElem?_map, Option.map_eq_some_iff] at h
    obtain ⟨k, hk, rfl⟩ := h
    have hj : j < n := by
      have := (List.getElem?_eq_some_iff.1 hk).1
      simpa using this
    rw [List.getElem?_range' (by omega)] at hk
    cases hk
    have := hlt (off + j) (by omega)
    rw [Nat.one_mul] at *
    simp only [World.cell?, hb, Option.isSome_none, Bool.false_eq_true, if_false]
    rw [show i * z.length + off + j = i * z.length + (off + j) by omega]
    simp [Array.getD, this]
  · refine .of_get (by simp) fun j x y hx hy => ?_
    rw [List.getElem?_map, Option.map_eq_some_iff] at hx hy
    obtain ⟨k, hk, rfl⟩ := hx
    obtain ⟨k', hk', rfl⟩ := hy
    rw [hk] at hk'
    cases hk'
    have hj : j < n := by
      have := (List.getElem?_eq_some_iff.1 hk).1
      simpa using this
    rw [List.getElem?_range' (by omega)] at hk
    cases hk
    exact toLV_ok (hr i _ hi (by omega))

theorem run_len_sl {e : Nat} {A : Option Addr} {n c : Nat} (g : (ti t).good P t) (he : (ti t).elt = some e) (T : TypeId) : (Builtin.len_ #[t] T #[.slice A n c]).run P w = .ok (.int .i64 n) w := by
  unfold TI.elt at he
  split at he
  · rename_i e' hd
    cases he
    have hu := g.und
    rw [hd] at hu
    simp [Builtin.len_, run_underlying hu, goInt]
  · cases he
theorem isStr_und (g : (ti t).good P t) (h : (ti t).isStr = true) : P.underlying t = some .string := by
  unfold TI.isStr at h
  split at h
  · rename_i hd
    have hu := g.und
    rwa [hd] at hu
  · cases h
theorem elt_und {e : Nat} (g : (ti t).good P t) (h : (ti t).elt = some e) : P.underlying t = some (.slice e) := by
  unfold TI.elt at h
  split at h
  · rename_i hd
    have hu := g.und
    rw [hd] at hu
    cases h
    exact hu
  · cases h

theorem run_part {cs : List Value} {off : Nat} (g : (ti t).good P t) (hl : off + (ti t).sz ≤ cs.length) : (part t cs.toArray off).run P w = .ok (mkV (ti t).agg ((cs.drop off).take (ti t).sz)) w := by
  simp only [part, Sem.run_bind, g.isAgg_run w, Result.andThen_ok]
  cases ha : (ti t).agg with
  | true => simp [g.size, mkV]
  | false =>
    have h1 := (g.na ha).1
    rw [h1] at hl ⊢
    have h2 : cs[off]? = some cs[off] := List.getElem?_eq_getElem (by omega)
    have h3 : (cs.drop off).take 1 = [cs[off]] := by
      rw [List.drop_eq_getElem_cons (by omega)]
      rfl
    simp [h2, h3, mkV]
theorem capsO_ok (hs : St w0 tag0 E tag hv a w) : ∀ {xs : List Operand} {qs : List PV}, capsO ti E xs = some qs → All2 (PR tag hv w) qs (xs.map a.eval)
  | [], qs, h => by
    simp only [capsO, Option.some.injEq] at h
    subst h
    exact .nil
  | x :: r, qs, h => by
    simp only [capsO] at h
    split at h
    · rename_i q qs' h1 h2
      cases h
      exact .cons (opd_ok hs h1) (capsO_ok hs h2)
    · cases h

theorem purFn_ok {o : Oper} {f : Fn} {first caps : Array Operand} {C : Prop} {sv : SV} (hs : St w0 tag0 E tag hv a w) (ho : o.op = .makeFunc f first caps) (h : purFn ti E f first.toList caps.toList = some (C, sv)) (_hC : C) :
    ∃ v, (execOp a.eval o).run P w = .ok (.value v) w ∧ SR tag hv w sv v := by
  unfold purFn at h
  split at h
  · rename_i k hl
    have h0 : first = #[] := by
      apply Array.ext'
      simpa using hl
    split at h
    · rename_i qs hq
      cases h
      subst h0
      refine ⟨.func (.func k) #[] (caps.map a.eval), by simp [execOp, ho, Instr.makeFunc], (caps.map a.eval).toList, rfl, ?_⟩
      rw [Array.toList_map]
      exact capsO_ok hs hq
    · cases h
  · cases h
theorem purCall_ok {o : Oper} {c : Call} {C : Prop} {sv : SV} (hT : TGood P ti) (hs : St w0 tag0 E tag hv a w) (ho : o.op = .call c) (h : purCall ti E o.type c.callee c.args.toList c.argTypes.toList = some (C, sv)) (hC : C) :
    ∃ v, (execOp a.eval o).run P w = .ok (.value v) w ∧ SR tag hv w sv v := by
  obtain ⟨f, args, ats⟩ := c
  unfold purCall at h
  simp only at h
  split at h
  · -- len
    split at h
    · rename_i x t h1 h2
      have e1 : args = #[x] := by apply Array.ext'; simpa using h1
      have e2 : ats = #[t] := by apply Array.ext'; simpa using h2
      subst e1 e2
      split at h
      · rename_i p sz lo n hx
        cases h
        obtain ⟨e, he⟩ := Option.isSome_iff_exists.1 hC.2
        obtain ⟨A, k, h1⟩ : ∃ A k, a.eval x = .slice A n k := by
          rcases (opd_ok hs hx : PR tag hv w (.vw p sz lo n) _) with ⟨b, N, k, o, _, h1, _⟩ | ⟨_, h1, rfl, _⟩
          · exact ⟨_, _, h1⟩
          · exact ⟨_, _, h1⟩
        have := run_len_sl (P := P) (w := w) (A := A) (n := n) (c := k) (hT t hC.1) he o.type
        exact ⟨_, by simp [execOp, ho, resolve, invoke, builtin, h1, this], mk_int⟩
      · rename_i s hx
        cases h
        have hxv := SR_str (opd_ok hs hx)
        have hu := isStr_und (hT t hC.1) hC.2
        exact ⟨_, by simp [execOp, ho, resolve, invoke, builtin, Builtin.len_, hxv, run_underlying hu, goInt], mk_int⟩
      · rename_i c _ hx
        split at h
        · rename_i z rows hrows
          cases h
          obtain ⟨A, k, h1⟩ := rows_form hs hrows hC.2.2 (VV_open (opd_ok hs hx))
          obtain ⟨e, he⟩ := Option.isSome_iff_exists.1 hC.2.1
          have := run_len_sl (P := P) (w := w) (A := A) (n := rows.length) (c := k) (hT t hC.1) he o.type
          exact ⟨_, by simp [execOp, ho, resolve, invoke, builtin, h1, this], mk_int⟩
        · cases h
      · cases h
    · cases h
  · -- min
    split at h
    · rename_i x y h1
      have e1 : args = #[x, y] := by apply Array.ext'; simpa using h1
      subst e1
      split at h
      · rename_i k n k' m hx hy
        cases h
        have h1 := SR_int (opd_ok hs hx)
        have h2 := SR_int (opd_ok hs hy)
        exact ⟨_, by simp [execOp, ho, resolve, invoke, builtin, h1, h2, Builtin.min_, Builtin.min2], mk_int⟩
      · cases h
    · cases h
  · -- max
    split at h
    · rename_i x y h1
      have e1 : args = #[x, y] := by apply Array.ext'; simpa using h1
      subst e1
      split at h
      · rename_i k n k' m hx hy
        cases h
        have h1 := SR_int (opd_ok hs hx)
        have h2 := SR_int (opd_ok hs hy)
        exact ⟨_, by simp [execOp, ho, resolve, invoke, builtin, h1, h2, Builtin.max_, Builtin.max2], mk_int⟩
      · cases h
    · cases h
  · cases h

set_option maxHeartbeats 1600000 in
theorem foldl_setM {α : Type} [Inhabited α] : ∀ (l : List α) (k off : Nat) (cs : Array α), ((l.zipIdx k).foldl (fun cs (x : α × Nat) => cs.setIfInBounds (off + x.2) x.1) cs).toList = setM cs.toList (off + k) l
  | [], _, _, _ => rfl
  | y :: r, k, off, cs => by
    simp only [List.zipIdx_cons, List.foldl_cons, setM]
    rw [foldl_setM r (k + 1) off, Array.toList_setIfInBounds]
    rfl
theorem All2.setM {α β : Type} {R : α → β → Prop} {new : List α} {vs : List β} (hn : All2 R new vs) : ∀ {ls : List α} {cs : List β} {off : Nat}, All2 R ls cs → All2 R (setM ls off new) (Go.Sm.setM cs off vs) := by
  induction hn with
  | nil => exact fun h => h
  | @cons x y xs ys h _ ih =>
    intro ls cs off hl
    simp only [Go.Sm.setM]
    refine ih (.of_get (by simp [hl.len]) fun j u v hu hv => ?_)
    rw [List.getElem?_set] at hu hv
    split at hu
    · rename_i he
      rw [if_pos he] at hv
      split at hu
      · split at hv
        · cases hu; cases hv; exact h
        · cases hv
      · cases hu
    · rename_i he
      rw [if_neg he] at hv
      exact hl.get j u v hu hv

theorem LR.one {x : LV} {c : Value} (h : LR tag hv w x c) : c.oneCell' = true := by
  cases x with
  | s l => exact VR.one h
  | n z => simp only [LR] at h; rw [h]; rfl
  | r p =>
    obtain ⟨_, A, n, c', h2⟩ := h
    rw [h2]; rfl
  | u => exact h

theorem cells_mkV {ag : Bool} {ls : List LV} {cs : List Value} (h : All2 (LR tag hv w) ls cs) (h1 : ag = false → ls.length = 1) : (mkV ag cs).cells.toList = cs := by
  cases ag with
  | true => simp [mkV, Value.cells]
  | false =>
    have hl := h1 rfl
    rw [h.len] at hl
    match cs, hl, h with
    | [c], _, h =>
      have hone : c.oneCell' = true := by
        cases h with
        | @cons x _ _ _ h _ =>
          cases x with
          | s l => exact VR.one h
          | n z => simp only [LR] at h; rw [h]; rfl
          | r p =>
            obtain ⟨_, A, n, c', h2⟩ := h
            rw [h2]; rfl
          | u => exact h
      cases c <;> simp_all [mkV, Value.cells, Value.oneCell']
theorem zLV_ok (g : (ti t).good P t) : All2 (LR tag hv w) ((ti t).z.map zLV) (ti t).zv.cells.toList := by
  rw [g.zc]
  refine .of_get (by simp) fun j x y hx hy => ?_
  rw [List.getElem?_map, Option.map_eq_some_iff] at hx hy
  obtain ⟨l, h1, rfl⟩ := hx
  obtain ⟨l', h2, rfl⟩ := hy
  rw [h1] at h2
  cases h2
  rcases g.zf l (List.mem_of_getElem? h1) with ⟨v, rfl, hv⟩ | ⟨zz, rfl⟩
  · exact VR_scal hv
  · rfl

theorem bparts_ok (hs : St w0 tag0 E tag hv a w) {place : Nat → Option (Nat × Nat)} {pl : Nat → Option (Nat × Nat)} (hpl : ∀ i off u, place i = some (off, u) → (ti u).ok = true → pl i = some (off, (ti u).sz)) :
    ∀ {parts : List (Nat × Operand)} {ls l : List LV} {C : Prop} {cs : Array Value}, bparts ti E place parts ls = some (C, l) → C → All2 (LR tag hv w) ls cs.toList →
    ∃ cs', Instr.fill pl cs (parts.map fun q => (q.1, a.eval q.2)) = some cs' ∧ All2 (LR tag hv w) l cs'.toList
  | [], ls, l, C, cs, h, hC, hall => by
    simp only [bparts, Option.some.injEq, Prod.mk.injEq] at h
    obtain ⟨_, rfl⟩ := h
    exact ⟨cs, rfl, hall⟩
  | (i, x) :: r, ls, l, C, cs, h, hC, hall => by
    simp only [bparts] at h
    split at h
    · rename_i off u hp
      split at h
      · rename_i ag new hx
        split at h
        · rename_i C1 l1 hb
          cases h
          obtain ⟨⟨h1, h2, h3⟩, hC1⟩ := hC
          obtain ⟨vs, h4, h5, h6⟩ := opd_ok hs hx
          have hcells : (a.eval x).cells.toList = vs := by rw [h4]; exact cells_mkV h5 h6
          have hsz : (a.eval x).cells.size = (ti u).sz := by rw [← Array.length_toList, hcells, ← h5.len, h2]
          have hcl : cs.size = ls.length := by rw [hall.len]; simp
          have hset : (((a.eval x).cells.zipIdx).foldl (fun cs (x : Value × Nat) => cs.setIfInBounds (off + x.2) x.1) cs).toList = setM cs.toList off vs := by
            rw [← Array.foldl_toList, Array.toList_zipIdx, foldl_setM, hcells, Nat.add_zero]
          have hall' : All2 (LR tag hv w) (setM ls off new) (((a.eval x).cells.zipIdx).foldl (fun cs (x : Value × Nat) => cs.setIfInBounds (off + x.2) x.1) cs).toList := by
            rw [hset]
            exact All2.setM h5 hall
          obtain ⟨cs', h7, h8⟩ := bparts_ok hs hpl hb hC1 hall'
          refine ⟨cs', ?_, h8⟩
          simp only [List.map_cons, Instr.fill, hpl i off u hp h1]
          rw [if_neg (by simp [hsz]; rw [hcl, ← h2]; exact h3)]
          exact h7
        · cases h
      · cases h
    · cases h


theorem run_build {o : Oper} {parts : Array (Nat × Operand)} {l : List LV} {C : Prop} (hT : TGood P ti) (hs : St w0 tag0 E tag hv a w) (ho : o.op = .build t parts) (ht : (ti t).ok = true) (hag : (ti t).agg = true)
    (h : bparts ti E (ti t).fld parts.toList ((ti t).z.map zLV) = some (C, l)) (hC : C) : ∃ v, (execOp a.eval o).run P w = .ok (.value v) w ∧ VV tag hv w true l v := by
  have g := hT t ht
  obtain ⟨x, h1, h2, h3, h4⟩ := g.inf
  obtain ⟨fs, hfs⟩ : ∃ fs, (ti t).desc = .struct fs := by
    unfold TI.agg at hag
    split at hag
    · rename_i fs hd; exact ⟨fs, hd⟩
    · cases hag
  have hund : P.underlying t = some (.struct fs) := by rw [g.und, hfs]
  have hpl : ∃ places : Array (Nat × Nat), (fs.mapM fun (f : Field) => (do pure (f.offset, ← sizeOf f.type) : Sem (Nat × Nat))).run P w = .ok places w ∧ ∀ i off u, (ti t).fld i = some (off, u) → (ti u).ok = true → places[i]? = some (off, (ti u).sz) := by
    have key : ∀ (l : List Field), (∀ (i : Nat) (f : Field), l[i]? = some f → ∃ n, (P.info? f.type).map (·.size) = some n) → ∃ places : List (Nat × Nat), (l.mapM fun (f : Field) => (do pure (f.offset, ← sizeOf f.type) : Sem (Nat × Nat))).run P w = .ok places w ∧
        ∀ (i : Nat) (f : Field), l[i]? = some f → (ti f.type).ok = true → places[i]? = some (f.offset, (ti f.type).sz) := by
      intro l
      induction l with
      | nil => exact fun _ => ⟨[], rfl, fun i f h => by simp at h⟩
      | cons f r ih =>
        intro hl
        obtain ⟨ps, q1, q2⟩ := ih (fun i f h => hl (i + 1) f (by simpa using h))
        obtain ⟨n, hn⟩ := hl 0 f rfl
        obtain ⟨y, hy1, hy2⟩ := Option.map_eq_some_iff.1 hn
        refine ⟨(f.offset, n) :: ps, ?_, fun i f' hi hok => ?_⟩
        · rw [List.mapM_cons]
          simp only [Sem.run_bind, sizeOf, typeInfo, run_program, hy1, Sem.run_pure, Result.andThen_ok, hy2]
          simp only [sizeOf, typeInfo] at q1
          rw [q1]
          rfl
        · cases i with
          | zero =>
            simp only [List.getElem?_cons_zero, Option.some.injEq] at hi
            subst hi
            obtain ⟨y', hz1, hz2, _⟩ := (hT _ hok).inf
            rw [hy1] at hz1
            cases hz1
            simp [← hy2, hz2]
          | succ i =>
            simp only [List.getElem?_cons_succ] at hi ⊢
            exact q2 i f' hi hok
    obtain ⟨ps, q1, q2⟩ := key fs.toList (fun i f hi => by
      have hf : (ti t).fld i = some (f.offset, f.type) := by
        simp only [TI.fld, hfs]
        rw [← Array.getElem?_toList, hi]
        rfl
      obtain ⟨n, h5, _⟩ := g.fs i _ _ hf
      exact ⟨n, h5⟩)
    refine ⟨ps.toArray, ?_, fun i off u hf hok => ?_⟩
    · rw [Array.mapM_eq_mapM_toList, Sem.run_map, q1]
      rfl
    · simp only [TI.fld, hfs] at hf
      obtain ⟨f, h5, h6⟩ := Option.map_eq_some_iff.1 hf
      simp only [Prod.mk.injEq] at h6
      obtain ⟨rfl, rfl⟩ := h6
      have := q2 i f (by rw [Array.getElem?_toList]; exact h5) hok
      simpa using this
  obtain ⟨places, hp1, hp2⟩ := hpl
  obtain ⟨cs', h5, h6⟩ := bparts_ok hs (pl := fun i => places[i]?) hp2 h hC (zLV_ok g)
  refine ⟨.agg cs', ?_, cs'.toList, rfl, h6, fun hf => by cases hf⟩
  have h7 : (parts.map fun (x : Nat × Operand) => (x.1, a.eval x.2)).toList = parts.toList.map fun q => (q.1, a.eval q.2) := by simp
  simp only [execOp, ho, Instr.build, zeroValue, typeInfo, Sem.run_bind, run_program, h1, h4, Sem.run_pure, Result.andThen_ok, run_underlying hund, hp1, h7, h5]

theorem pur_ok (hT : TGood P ti) {o : Oper} {C : Prop} {sv : SV} (hs : St w0 tag0 E tag hv a w) (h : pur ti E o = some (C, sv)) (hC : C) :
    ∃ v, (execOp a.eval o).run P w = .ok (.value v) w ∧ SR tag hv w sv v := by
  unfold pur at h
  split at h
  · -- move
    rename_i x ho
    obtain ⟨s, h1, h2⟩ := Option.map_eq_some_iff.1 h
    cases h2
    exact ⟨a.eval x, by simp [execOp, ho], opd_ok hs h1⟩
  · -- assign
    rename_i x ho
    obtain ⟨s, h1, h2⟩ := Option.map_eq_some_iff.1 h
    cases h2
    exact ⟨a.eval x, by simp [execOp, ho], opd_ok hs h1⟩
  · -- load
    rename_i t ad ho
    split at h
    · rename_i ds hd
      cases h
      obtain ⟨b, off, h1, h2, h3⟩ := opd_ok hs hd
      obtain ⟨cs, h4, h5, h6⟩ := take_all2_ps hC.2 h3
      have g := hT t hC.1
      have := mkV_load (agg := (ti t).agg) g rfl b off cs h4 h5
      refine ⟨_, by simp [execOp, ho, h1, this], cs, rfl, h6, fun hf => ?_⟩
      rw [h6.len, h4]
      exact (g.na hf).1
    · rename_i bb off hd
      split at h
      · rename_i ls hbx
        cases h
        obtain ⟨k, h1, h2⟩ := opd_ok hs hd
        obtain ⟨k', cur, e, h3, ht, hb, hall⟩ := hs.bx bb ls hbx
        rw [h1] at h3
        cases h3
        have g := hT t hC.1
        have hlen : off + (ti t).sz ≤ cur.toList.length := by rw [← hall.len]; exact hC.2
        have := mkV_load (P := P) (w := w) (agg := (ti t).agg) g rfl k off ((cur.toList.drop off).take (ti t).sz) (by simp only [List.length_take, List.length_drop]; omega) (fun j v hj => by
          rw [List.getElem?_take] at hj
          split at hj
          · rw [List.getElem?_drop] at hj
            simp only [World.cell?, hb, Option.isSome_none, Bool.false_eq_true, if_false]
            simpa using hj
          · cases hj)
        refine ⟨_, by simp only [execOp, ho, h2, Sem.run_bind, this, Result.andThen_ok, Sem.run_pure], _, rfl, (hall.drop off).take _, fun hf => ?_⟩
        rw [((hall.drop off).take _).len, List.length_take, List.length_drop]
        have := (g.na hf).1
        omega
      · cases h
    · rename_i p sz i off hd
      split at h
      · rename_i e cols z rows hat
        cases h
        obtain ⟨hok, hvld, hi, hn, hz⟩ := hC
        obtain ⟨b, n, c, h1, h2⟩ := opd_ok hs hd
        have h3 := (at_own hs hat hvld).open_own
        rcases h3 with ⟨_, h4 | ⟨b', c', cur, h4, hlc, hm, ht, hb, hcs, hl, hr⟩⟩
        · rw [h4.2] at hi; simp at hi
        · rw [h1] at h4
          cases h4
          obtain ⟨cs, h5, h6, h7⟩ := row_all2_pt hb hcs hlc hi hr hn
          have g := hT t hok
          have := mkV_load (agg := (ti t).agg) g rfl b _ cs h5 h6
          subst hz
          refine ⟨_, by simp [execOp, ho, h2, this], cs, rfl, h7, fun hf => ?_⟩
          rw [h7.len, h5]
          exact (g.na hf).1
      · cases h
    · cases h
  · -- binOp
    rename_i op t x y yt ho
    split at h
    · rename_i A B hA hB
      split at h
      · rename_i hbt
        split at h
        · rename_i u1 u2
          obtain ⟨⟨C', sv'⟩, hb, h3⟩ := Option.map_eq_some_iff.1 h
          simp only [Prod.mk.injEq] at h3
          obtain ⟨rfl, rfl⟩ := h3
          have e1 := SR_bool (opd_ok hs hA)
          have e2 := SR_bool (opd_ok hs hB)
          obtain ⟨v, h1, h2⟩ := boolBin_ok (P := P) (w := w) (tag := tag) (hv := hv) hT hC hbt hb x y
          rw [← e1, ← e2] at h1
          exact ⟨v, run_binOp ho h1, h2⟩
        · cases h
      · split at h
        · rename_i he
          obtain ⟨v, h1, h2⟩ := eqSV_ok (P := P) (w := w) hT he h hC (opd_ok hs hA) (opd_ok hs hB) x y
          exact ⟨v, run_binOp ho h1, h2⟩
        · obtain ⟨v, h1, h2⟩ := binSV_ok (P := P) (w := w) h hC (opd_ok hs hA) (opd_ok hs hB) t x y
          exact ⟨v, run_binOp ho h1, h2⟩
    · cases h
  · -- not
    rename_i t x ho
    split at h
    · rename_i b hx
      cases h
      have := SR_bool (opd_ok hs hx)
      exact ⟨.bool (!b), by simp [execOp, ho, this, Op.unary], mk_bool⟩
    · cases h
  · -- neg
    rename_i t x ho
    split at h
    · rename_i k n hx
      cases h
      have := SR_int (opd_ok hs hx)
      exact ⟨_, by simp [execOp, ho, this, Op.unary, Op.intArith], mk_int⟩
    · cases h
  · -- fieldAddr
    rename_i t x f ho
    split at h
    · rename_i off u ds hf hx
      cases h
      obtain ⟨b, k, h1, h2, h3⟩ := opd_ok hs hx
      have := run_fieldAt (P := P) (w := w) (b := b) (k := k) (hT t hC) hf
      refine ⟨_, by simp [execOp, ho, h1, this], b, k + off, rfl, h2, fun j hj => ?_⟩
      rw [List.length_drop] at hj
      obtain ⟨u, h4, h5⟩ := h3 (off + j) (by omega)
      refine ⟨u, by rw [Nat.add_assoc]; exact h4, ?_⟩
      rw [List.getD_eq_getElem?_getD, List.getElem?_drop, ← List.getD_eq_getElem?_getD]
      exact h5
    · rename_i off u bb o hf hx
      cases h
      obtain ⟨k, h1, h2⟩ := opd_ok hs hx
      have := run_fieldAt (P := P) (w := w) (b := k) (k := o) (hT t hC) hf
      exact ⟨.pointer (some ⟨k, o + off, none⟩), by simp [execOp, ho, h2, this], k, h1, rfl⟩
    · rename_i off u p sz i k hf hx
      cases h
      obtain ⟨b, n, c, h1, h2⟩ := opd_ok hs hx
      have := run_fieldAt (P := P) (w := w) (b := b) (k := i * sz + k) (hT t hC) hf
      exact ⟨.pointer (some ⟨b, i * sz + k + off, none⟩), by simp [execOp, ho, h2, this], b, n, c, h1, by rw [Nat.add_assoc]⟩
    · cases h
  · -- field
    rename_i t x f ho
    split at h
    · rename_i off u ls hf hx
      cases h
      obtain ⟨cs, h1, h2, _⟩ := opd_ok hs hx
      have g := hT t hC.1
      have gu := hT u hC.2.1
      have hl : off + (ti u).sz ≤ cs.length := by rw [← h2.len]; exact hC.2.2
      have hp := run_part (P := P) (w := w) gu hl
      refine ⟨mkV (ti u).agg ((cs.drop off).take (ti u).sz), ?_, _, rfl, (h2.drop off).take _, fun hf2 => ?_⟩
      · unfold TI.fld at hf
        split at hf
        · rename_i fs hd
          obtain ⟨fl, hfl, h3⟩ := Option.map_eq_some_iff.1 hf
          simp only [Prod.mk.injEq] at h3
          obtain ⟨rfl, rfl⟩ := h3
          have hu := g.und
          rw [hd] at hu
          simp [execOp, ho, h1, mkV, Instr.field, run_underlying hu, hfl, asAgg, hp]
        · cases hf
      · have := (gu.na hf2).1
        simp only [List.length_take, List.length_drop, h2.len]
        omega
    · cases h
  · -- indexAddr
    rename_i t x ix ho
    split at h
    · rename_i e z rows k i he hx hix
      cases h
      obtain ⟨h1, h2, h3, h4, h5⟩ := hC
      obtain ⟨n, rfl⟩ := Int.eq_ofNat_of_zero_le h4
      have h5' : n < rows.length := by omega
      obtain ⟨A, c, hv1, hc, hcs⟩ := sl_form (VV_open (opd_ok hs hx))
      obtain ⟨b, off, hA, ht, hl, cell, hcell, hr⟩ := hcs (by omega)
      have hi := SR_int (opd_ok hs hix)
      have := run_indexAt_sl (P := P) (w := w) (k := k) (n := rows.length) (c := c) (hT t h1) he (hT e h2) h3 h4 h5 hA
      refine ⟨_, by simp [execOp, ho, hv1, hi, this]; rfl, b, _, rfl, ht, fun j hj => ⟨cell n j, ?_, ?_⟩⟩
      · simp only [Int.toNat_natCast] at hj ⊢
        rw [hl n h5'] at hj
        rw [Nat.add_assoc]
        exact hcell n j h5' hj
      · simp only [Int.toNat_natCast] at hj ⊢
        rw [hl n h5'] at hj
        exact (hr n j h5' hj)
    · rename_i e p k i he hx hix
      split at h
      · rename_i e' cols z rows hat
        cases h
        obtain ⟨h1, h2, h3, hvld, h4, h5⟩ := hC
        obtain ⟨n, rfl⟩ := Int.eq_ofNat_of_zero_le h4
        have h5' : n < rows.length := by omega
        have hxv := (VV_open (opd_ok hs hx)).1
        have hi := SR_int (opd_ok hs hix)
        rcases (at_own hs hat hvld).open_own with ⟨_, h6 | ⟨b', c', cur, h6, hlc, hm, ht, hb, hcs, hl, hr⟩⟩
        · rw [h6.2] at h5'; simp at h5'
        · have := run_indexAt_sl (P := P) (w := w) (k := k) (n := rows.length) (c := c') (hT t h1) he (hT e h2) h3 h4 h5 (b := b') (off := 0) rfl
          rw [h6] at hxv
          exact ⟨_, by simp [execOp, ho, hxv, hi, this]; rfl, b', _, _, h6, by simp⟩
      · cases h
    · cases h
  · -- index
    rename_i t x ix ho
    split at h
    · rename_i s k i hx hix
      cases h
      obtain ⟨h1, h2, h4, h5⟩ := hC
      obtain ⟨n, rfl⟩ := Int.eq_ofNat_of_zero_le h4
      have h5' : n < s.size := by omega
      have hxv := SR_str (opd_ok hs hx)
      have hi := SR_int (opd_ok hs hix)
      have hu := isStr_und (hT t h1) h2
      refine ⟨_, ?_, mk_int⟩
      have h6 : s[n]? = some (s.data.getD n 0) := by
        rw [getElem?_pos s n h5']
        simp [Array.getD, h5', ByteArray.getElem_eq_getElem_data]
      simp [execOp, ho, hxv, hi, Instr.index, asIntOf, run_underlying hu, h6]
    · cases h
  · -- extract
    rename_i t ix ho
    split at h
    · rename_i parts ht
      split at h
      · rename_i ag ls hp
        cases h
        obtain ⟨vs, h1, h2⟩ := opd_ok hs ht
        have hlt : ix < vs.length := by rw [← h2.len]; exact (List.getElem?_eq_some_iff.1 hp).1
        have h3 := h2.get ix _ _ hp (List.getElem?_eq_getElem hlt)
        refine ⟨vs[ix], ?_, h3⟩
        simp [execOp, ho, h1, Instr.extract, hlt]
      · cases h
    · cases h
  · -- nilCheck
    rename_i x ho
    split at h
    · cases h
    · rename_i q hnv hx
      cases h
      have h1 := opd_ok hs hx
      refine ⟨a.eval x, ?_, h1⟩
      cases q with
      | pt p sz i off =>
        obtain ⟨b, n, c, _, h2⟩ := h1
        simp [execOp, ho, h2]
      | bx b off =>
        obtain ⟨k, _, h2⟩ := h1
        simp [execOp, ho, h2]
      | ps ds =>
        obtain ⟨b, off, h2, _⟩ := h1
        simp [execOp, ho, h2]
      | vw p sz lo n => exact (hnv p sz lo n rfl).elim
    · rename_i k caps hx
      cases h
      have h1 := opd_ok hs hx
      refine ⟨a.eval x, ?_, h1⟩
      obtain ⟨vs, h2, _⟩ := h1
      simp [execOp, ho, h2]
    · cases h
  · -- slice
    rename_i t x lo hi ho
    split at h
    · rename_i s hx
      split at h
      · rename_i C1 hh hb1
        split at h
        · rename_i D1 ll hb2
          cases h
          obtain ⟨h1, h2, h3, h4, h5, h6⟩ := hC
          have hxv := SR_str (opd_ok hs hx)
          have hu := isStr_und (hT t h1) h2
          have e1 := bnd_ok hs hb1 h3 h6
          have e2 := bndL_ok hs hb2 h4 h5
          refine ⟨_, ?_, mk_str⟩
          have hr := run_bounds (P := P) (w := w) (isS := false) (len := s.size) (cap := s.size) (lo := lo.map a.eval) (hi := hi.map a.eval) (h := hh) (l := ll) (Nat.le_refl _) (by
              rcases e1 with ⟨rfl, rfl⟩ | ⟨y, k, i, rfl, h7, h8, h9, rfl⟩
              · exact .inl ⟨rfl, rfl⟩
              · exact .inr ⟨k, i, by simp [h7], h8, h9, rfl⟩) (by
              rcases e2 with ⟨rfl, rfl⟩ | ⟨y, k, i, rfl, h7, h8, h9, rfl⟩
              · exact .inl ⟨rfl, rfl⟩
              · exact .inr ⟨k, i, by simp [h7], h8, h9, rfl⟩)
          simp [execOp, ho, hxv, Instr.sliceAt, Instr.slice, run_underlying hu, hr]
        · cases h
      · cases h
    · rename_i z rows hx
      split at h
      · rename_i C1 hh e hb1 he
        split at h
        · rename_i D1 ll hb2
          cases h
          obtain ⟨h1, h2, hz, h3, h4, h5, h6⟩ := hC
          have hxv := VV_open (opd_ok hs hx)
          obtain ⟨A, c, hv1, hc, _⟩ := sl_form hxv
          have hu := elt_und (hT t h1) he
          have e1 := bnd_ok hs hb1 h3 h6
          have e2 := bndL_ok hs hb2 h4 h5
          have hr := run_bounds (P := P) (w := w) (isS := true) (len := rows.length) (cap := c) (lo := lo.map a.eval) (hi := hi.map a.eval) (h := hh) (l := ll) hc (by
              rcases e1 with ⟨rfl, rfl⟩ | ⟨y, k, i, rfl, h7, h8, h9, rfl⟩
              · exact .inl ⟨rfl, rfl⟩
              · exact .inr ⟨k, i, by simp [h7], h8, h9, rfl⟩) (by
              rcases e2 with ⟨rfl, rfl⟩ | ⟨y, k, i, rfl, h7, h8, h9, rfl⟩
              · exact .inl ⟨rfl, rfl⟩
              · exact .inr ⟨k, i, by simp [h7], h8, h9, rfl⟩)
          have hhl : hh ≤ rows.length := by rcases e1 with ⟨_, rfl⟩ | ⟨y, k, i, _, _, h8, h9, rfl⟩ <;> omega
          have hll : ll ≤ hh := by rcases e2 with ⟨_, rfl⟩ | ⟨y, k, i, _, _, h8, h9, rfl⟩ <;> omega
          rw [hv1] at hxv
          have hcut := VR_cut hxv hll hhl
          refine ⟨_, ?_, VV_one hcut⟩
          simp [execOp, ho, hv1, Instr.sliceAt, Instr.slice, run_underlying hu, hr, (hT e h2).size, hz]
        · cases h
      · cases h
    · rename_i p hx
      split at h
      · rename_i e0 cols z rows hat
        split at h
        · rename_i C1 hh e hb1 he
          split at h
          · rename_i D1 ll hb2
            cases h
            obtain ⟨h1, h2, hz, h3, h4, h5, h6, h7⟩ := hC
            have hxv := VV_open (opd_ok hs hx)
            have hown := at_own hs hat h7
            have hu := elt_und (hT t h1) he
            have e1 := bnd_ok hs hb1 h3 h6
            have e2 := bndL_ok hs hb2 h4 h5
            have hhl : hh ≤ rows.length := by rcases e1 with ⟨_, rfl⟩ | ⟨y, k, i, _, _, h8, h9, rfl⟩ <;> omega
            have hll : ll ≤ hh := by rcases e2 with ⟨_, rfl⟩ | ⟨y, k, i, _, _, h8, h9, rfl⟩ <;> omega
            have hbnd : ∀ c, rows.length ≤ c → (Instr.sliceBounds true rows.length c (lo.map a.eval) (hi.map a.eval) none).run P w = .ok (ll, hh, c) w := fun c hc => run_bounds hc (by
                rcases e1 with ⟨rfl, rfl⟩ | ⟨y, k, i, rfl, h7, h8, h9, rfl⟩
                · exact .inl ⟨rfl, rfl⟩
                · exact .inr ⟨k, i, by simp [h7], h8, h9, rfl⟩) (by
                rcases e2 with ⟨rfl, rfl⟩ | ⟨y, k, i, rfl, h7, h8, h9, rfl⟩
                · exact .inl ⟨rfl, rfl⟩
                · exact .inr ⟨k, i, by simp [h7], h8, h9, rfl⟩)
            rcases hown.open_own.2 with ⟨hn, hr0⟩ | ⟨b, c, cur, hn, hc, _⟩
            · have hl0 : rows.length = 0 := by rw [hr0]; rfl
              have hh0 : hh = 0 := by omega
              have ll0 : ll = 0 := by omega
              subst hh0 ll0
              have hr := hbnd 0 (by omega)
              rw [hl0] at hr
              refine ⟨.slice none 0 0, ?_, .inr ⟨hn, rfl, rfl, rfl⟩⟩
              simp [execOp, ho, hxv.1, hn, Instr.sliceAt, Instr.slice, run_underlying hu, hr, (hT e h2).size]
            · have hr := hbnd c hc
              by_cases hcl : c = ll
              · subst hcl
                refine ⟨.slice (some ⟨b, 0, none⟩) (hh - c) (c - c), ?_, .inl ⟨b, _, c, 0, hn, rfl, fun h => ?_, by omega⟩⟩
                · simp [execOp, ho, hxv.1, hn, Instr.sliceAt, Instr.slice, run_underlying hu, hr, (hT e h2).size]
                · rcases h with h | h
                  · omega
                  · rw [h, Nat.zero_mul]
              · refine ⟨.slice (some ⟨b, ll * z.length, none⟩) (hh - ll) (c - ll), ?_, .inl ⟨b, _, c, _, hn, rfl, fun _ => rfl, by omega⟩⟩
                simp [execOp, ho, hxv.1, hn, Instr.sliceAt, Instr.slice, run_underlying hu, hr, (hT e h2).size, hcl, hz, Addr.add_lit]
          · cases h
        · cases h
      · cases h
    · cases h
  · -- convert
    rename_i src dst x ho
    split at h
    · rename_i k n k' _ hx hk
      cases h
      have hu1 := (hT src hC.1).und
      have hu2 := (hT dst hC.2).und
      have hxv := SR_int (opd_ok hs hx)
      unfold TI.int? at hk
      split at hk
      · rename_i k2 hd
        cases hk
        rw [hd] at hu2
        exact ⟨_, by simp [execOp, ho, hxv, convert, run_underlying hu1, run_underlying hu2, Conv.intToInt], mk_int⟩
      · cases hk
    · rename_i hx hk
      cases h
      have hu1 := (hT src hC.1).und
      have hu2 := isStr_und (hT dst hC.2) hk
      have hxv := SR_str (opd_ok hs hx)
      exact ⟨_, by simp [execOp, ho, hxv, convert, run_underlying hu1, run_underlying hu2], mk_str⟩
    · rename_i c _ hx hk _
      split at h
      · rename_i z rows e hrows he
        cases h
        obtain ⟨h1, h2, h3, h4, h5, h6, h7, h8⟩ := hC
        have hu1 := (hT src h1).und
        have hu2 := isStr_und (hT dst h2) hk
        have hu3 : P.underlying e = some (.int .u8) := by
          have := (hT e h3).und
          unfold TI.isU8 at h4
          split at h4
          · rename_i hd
            rw [this, hd]
          · cases h4
        have hu1' : P.underlying src = some (.slice e) := by
          unfold TI.elt at he
          split at he
          · rename_i hd
            cases he
            rw [hu1, hd]
          · cases he
        obtain ⟨A, k, hv0, hA⟩ := bytes_form hs hrows h6 (VV_open (opd_ok hs hx)) h5 h7 h8
        refine ⟨.string ⟨(rows.map rowByte).toArray⟩, ?_, mk_str⟩
        by_cases h0 : 0 < rows.length
        · obtain ⟨ad, rfl, hcell⟩ := hA h0
          have := run_convert_bytes_back (P := P) w src dst e ad k (rows.map rowByte) hu1' hu3 hu2 hcell
          rw [List.length_map] at this
          simp only [execOp, ho, hv0, Sem.run_bind, this, Result.andThen_ok, Sem.run_pure]
        · have hr0 : rows = [] := List.length_eq_zero_iff.1 (by omega)
          subst hr0
          cases A with
          | none =>
            have := run_convert_bytes_nil (P := P) w src e hu1' hu3 0 k dst hu2
            simp only [List.length_nil] at hv0
            simp only [execOp, ho, hv0, Sem.run_bind, this, Result.andThen_ok, Sem.run_pure]
            rfl
          | some ad =>
            have := run_convert_bytes_back (P := P) w src dst e ad k [] hu1' hu3 hu2 (fun j hj => absurd hj (by simp))
            simp only [List.length_nil] at hv0 this
            simp only [execOp, ho, hv0, Sem.run_bind, this, Result.andThen_ok, Sem.run_pure]
            rfl
      · cases h
    · cases h
  · -- makeFunc
    rename_i f first caps ho
    exact purFn_ok hs ho h hC
  · -- build
    rename_i t parts ho
    split at h
    · rename_i C1 l hb
      cases h
      obtain ⟨v, h1, h2⟩ := run_build hT hs ho hC.1 hC.2.1 hb hC.2.2
      exact ⟨v, h1, h2⟩
    · cases h
  · -- call
    rename_i c ho
    exact purCall_ok hT hs ho h hC
  · cases h
end Go.Sm
