import Derived.Test.YtkciklpdhhcblaaGreatSm8
/-
  Operations that make or write memory: boxes.
-/
namespace Go.Sm
open Go.RowKit

variable {P : Program} {ti : TT} {E : Env} {tag tag' tag0 : Nat → Tag} {hv hv' : Hv} {a : Act} {w w' w0 : World} {t d : Nat}

theorem Fr.step (h : Fr w0 tag0 tag w) (ho : w'.os = w.os) (ht : w'.tape = w.tape) (hout : w'.output = w.output) (hsz : w.heap.size ≤ w'.heap.size)
    (hb : ∀ b, b < w.heap.size → (tag b = .sh ∨ tag b = .off) → w'.heap[b]? = w.heap[b]? ∧ tag' b = tag b) : Fr w0 tag0 tag' w' := by
  refine ⟨ho.trans h.os, ht.trans h.tape, hout.trans h.output, Nat.le_trans h.size hsz, fun b hlt hq => ?_⟩
  have h1 := h.heap b hlt hq
  have h2 := hb b (Nat.lt_of_lt_of_le hlt h.size) (by rw [h1.2]; exact hq)
  exact ⟨h2.1.trans h1.1, h2.2.trans h1.2⟩

def upT (tag : Nat → Tag) (b : Nat) (p : List Nat) : Nat → Tag := fun x => if x = b then .own p else tag x
def upH (hv : Hv) (p : List Nat) (v : Value) : Hv := fun x => if x = p then v else hv x

def Env.box (E : Env) (d : Nat) (ls : List LV) : Env := { E.fresh (fam d) with bx := putL (E.fresh (fam d)).bx d (ls.map (LV.fr (fam d))) }

theorem hop_alloc (D : Nat → Bool) (d : Nat) (hd : D d = true) (p : List Nat) (v : Value) (o : Obj) : Hop D tag (upT tag w.heap.size (d :: p)) hv (upH hv (d :: p) v) w (w.alloc o) := by
  refine ⟨fun b hb h => ?_, fun b r q hb h hne => ?_, fun r q hne => ?_⟩
  · refine ⟨?_, Below.heap_alloc w o b hb⟩
    simp only [upT]
    rw [if_neg (by omega)]
    exact h
  · refine ⟨?_, Below.heap_alloc w o b hb⟩
    simp only [upT]
    rw [if_neg (by omega)]
    exact h
  · simp only [upH]
    rw [if_neg (fun e => by rw [(List.cons.inj e).1, hd] at hne; cases hne)]
theorem fr_alloc (hs : St w0 tag0 E tag hv a w) (p : List Nat) (o : Obj) : Fr w0 tag0 (upT tag w.heap.size p) (w.alloc o) :=
  hs.fr.step rfl rfl rfl (by simp) fun b hb _ => ⟨Below.heap_alloc w o b hb, by simp only [upT]; rw [if_neg (by omega)]⟩
theorem hi_alloc (hs : St w0 tag0 E tag hv a w) (p : List Nat) (o : Obj) : ∀ b, (w.alloc o).heap.size ≤ b → upT tag w.heap.size p b = .off := by
  intro b hb
  rw [World.size_alloc] at hb
  simp only [upT]
  rw [if_neg (by omega)]
  exact hs.hi b (by omega)

theorem St.newBox (hs : St w0 tag0 E tag hv a w) (d : Nat) (hd : d < 1000) {ls : List LV} {cs : List Value} (h : All2 (LR tag hv w) ls cs) (T : TypeId) :
    St w0 tag0 (E.box d ls) (upT tag w.heap.size [d, 0]) (upH hv [d, 0] (.pointer (some ⟨w.heap.size, 0, none⟩))) a (w.alloc (.cells cs.toArray T)) := by
  have hh := hop_alloc (tag := tag) (hv := hv) (w := w) (fam d) d (by simp [fam]; omega) [0] (.pointer (some ⟨w.heap.size, 0, none⟩)) (.cells cs.toArray T)
  have h1 := hs.hop hh (fr_alloc hs _ _) (hi_alloc hs _ _)
  refine ⟨h1.nt, h1.df, h1.sl, fun b ls' hl => ?_, h1.rt, h1.fr, h1.hi⟩
  simp only [Env.box, lkp_putL] at hl
  split at hl
  · rename_i he
    subst he
    cases hl
    refine ⟨w.heap.size, cs.toArray, T, by simp [upH], by simp [upT], heap_alloc_new w _, ?_⟩
    exact (h.imp fun _ _ h => h.hop hh hs.hi).map_left
  · exact h1.bx b ls' hl

theorem run_alloc (g : (ti t).good P t) {o : Oper} (ho : o.op = .alloc t) : (execOp a.eval o).run P w = .ok (.value (.pointer (some ⟨w.heap.size, 0, none⟩))) (w.alloc (.cells (ti t).zv.cells t)) := by
  obtain ⟨x, h1, h2, h3, h4⟩ := g.inf
  simp [execOp, ho, Instr.alloc, zeroValue, typeInfo, h1, h4, newVar, newRow]
theorem run_box {o : Oper} {x : Operand} (ho : o.op = .box t x) : (execOp a.eval o).run P w = .ok (.value (.pointer (some ⟨w.heap.size, 0, none⟩))) (w.alloc (.cells (a.eval x).cells t)) := by
  simp [execOp, ho, Instr.box, newVar, newRow]

/-- Cells are written, one behind the other, into a block. -/
theorem run_storeCells_blk (k : Nat) (e : TypeId) : ∀ (vs : List Value) (cur : Array Value) (off i : Nat) (w : World), w.heap[k]? = some (.cells cur e (0, 0)) → off + i + vs.length ≤ cur.size → (∀ v ∈ vs, v.oneCell' = true) →
    ∃ w', (storeCells ⟨k, off, none⟩ vs i).run P w = .ok () w' ∧ w'.os = w.os ∧ w'.tape = w.tape ∧ w'.output = w.output ∧ w'.heap.size = w.heap.size ∧ (∀ b, b ≠ k → w'.heap[b]? = w.heap[b]?) ∧
      ∃ cur', w'.heap[k]? = some (.cells cur' e (0, 0)) ∧ cur'.size = cur.size ∧ ∀ j, cur'.getD j default = if off + i ≤ j ∧ j < off + i + vs.length then vs.getD (j - (off + i)) default else cur.getD j default
  | [], cur, off, i, w, hb, hl, h1 => ⟨w, rfl, rfl, rfl, rfl, rfl, fun _ _ => rfl, cur, hb, rfl, fun j => by rw [if_neg (by simp only [List.length_nil]; omega)]⟩
  | v :: vs, cur, off, i, w, hb, hl, h1 => by
    simp only [List.length_cons] at hl
    have hc : w.cell? ⟨k, off + i, none⟩ = some (cur.getD (off + i) default) := by
      simp only [World.cell?, hb, Option.isSome_none, Bool.false_eq_true, if_false]
      rw [Array.getD_eq_getD_getElem?, Array.getElem?_eq_getElem (by omega)]
      rfl
    have hf : w.frozen? ⟨k, off + i, none⟩ = false := by simp [World.frozen?, hb]
    have hb1 : (w.setCell ⟨k, off + i, none⟩ v).heap[k]? = some (.cells (cur.setIfInBounds (off + i) v) e (0, 0)) := by
      simp [World.setCell, Array.getElem?_modify, hb]
    obtain ⟨w', h2, h3, h4, h5, h6, h7, cur', h8, h9, h10⟩ := run_storeCells_blk k e vs (cur.setIfInBounds (off + i) v) off (i + 1) (w.setCell ⟨k, off + i, none⟩ v) hb1 (by simp; omega) (fun u hu => h1 u (by simp [hu]))
    refine ⟨w', ?_, h3, h4, h5, by rw [h6]; simp, fun b hne => ?_, cur', h8, by rw [h9]; simp, fun j => ?_⟩
    · simp only [storeCells, Sem.run_bind, add_lit, run_store P w _ v _ (h1 v (by simp)), hc, hf, Bool.false_eq_true, if_false, Result.andThen_ok, h2]
    · rw [h7 b hne]
      exact Below.heap_setCell w ⟨k, off + i, none⟩ v b hne
    · rw [h10 j]
      simp only [List.length_cons]
      by_cases hj : j = off + i
      · subst hj
        rw [if_neg (by omega), if_pos (by omega)]
        rw [Array.getD_eq_getD_getElem?, Array.getElem?_setIfInBounds_self_of_lt (by omega)]
        simp
      · have h11 : (cur.setIfInBounds (off + i) v).getD j default = cur.getD j default := by
          rw [Array.getD_eq_getD_getElem?, Array.getElem?_setIfInBounds_ne (Ne.symm hj), ← Array.getD_eq_getD_getElem?]
        rw [h11]
        by_cases hin : off + (i + 1) ≤ j ∧ j < off + (i + 1) + vs.length
        · rw [if_pos hin, if_pos (by omega)]
          rw [show j - (off + i) = (j - (off + (i + 1))) + 1 by omega]
          simp
        · rw [if_neg hin, if_neg (by omega)]

def splice (ls : List LV) (off : Nat) (new : List LV) : List LV := ls.take off ++ (new ++ ls.drop (off + new.length))
def Env.stBx (E : Env) (b off : Nat) (ls new : List LV) : Env := { E with bx := putL E.bx b (splice ls off new) }

theorem St.storeBx (hs : St w0 tag0 E tag hv a w) {b off : Nat} {ls new : List LV} {ag : Bool} {X V : Value} (hT : TGood P ti) (hok : (ti t).ok = true) (hb : lkp E.bx b = some ls) (hp : SR tag hv w (.p (.bx b off)) X) (hv1 : VV tag hv w ag new V)
    (hlen : new.length = (ti t).sz) (hoff : off + new.length ≤ ls.length) :
    ∃ w', (Instr.storeAt t X V).run P w = .ok () w' ∧ St w0 tag0 (E.stBx b off ls new) tag hv a w' := by
  obtain ⟨k, hk1, rfl⟩ := hp
  obtain ⟨k', cur, e, hk2, ht, hbl, hall⟩ := hs.bx b ls hb
  rw [hk1] at hk2
  cases hk2
  obtain ⟨cs, rfl, hcs, hag⟩ := hv1
  have hcells := cells_mkV hcs hag
  have hcl : cs.length = new.length := hcs.len.symm
  have hcur : cur.size = ls.length := by rw [hall.len]; simp
  have g := hT t hok
  obtain ⟨w', h1, h2, h3, h4, h5, h6, cur', h7, h8, h9⟩ := run_storeCells_blk (P := P) k e cs cur off 0 w hbl (by omega) (fun v hv => by
    obtain ⟨j, hj⟩ := List.getElem?_of_mem hv
    have hj2 : j < new.length := by rw [← hcl]; exact (List.getElem?_eq_some_iff.1 hj).1
    exact (hcs.get j _ _ (List.getElem?_eq_getElem hj2) hj).one)
  have hh : ∀ b', tag b' ≠ .own [b, 0] → w'.heap[b']? = w.heap[b']? := fun b' hne => h6 b' (fun e => hne (e ▸ ht))
  have hVR : ∀ {p m l v}, VR tag hv w p m l v → (∀ rest, OwnIn m l rest → p ++ rest ≠ [b, 0]) → VR tag hv w' p m l v := by
    intro p m l v h hne
    refine h.move p (fun b' hb' => ⟨hb', hh b' (by rw [hb']; intro e; cases e)⟩) (fun rest hr => ⟨rfl, fun b' hb' => ⟨hb', hh b' (by rw [hb']; intro e; injection e with e; exact hne rest hr e)⟩⟩)
  have hs' : ∀ {l : Lf} {v : Value}, VR tag hv w [] .s l v → VR tag hv w' [] .s l v := fun h => hVR h (fun rest hr => by cases hr)
  have hLR : ∀ {x : LV} {v : Value}, LR tag hv w x v → LR tag hv w' x v := by
    intro x v h
    cases x with
    | s l => exact hs' h
    | n z => exact h
    | r p => exact h
    | u => exact h
  have hVV : ∀ {ag : Bool} {ls : List LV} {v : Value}, VV tag hv w ag ls v → VV tag hv w' ag ls v := fun h => by
    obtain ⟨cs, h1, h2, h3⟩ := h
    exact ⟨cs, h1, h2.imp fun _ _ h => hLR h, h3⟩
  have hPR : ∀ {q : PV} {v : Value}, PR tag hv w q v → PR tag hv w' q v := by
    intro q v h
    cases q with
    | pt p sz i off => exact h
    | vw p sz lo n => exact h
    | bx b off => exact h
    | ps ds =>
      obtain ⟨b', off', h1, h2, h3⟩ := h
      refine ⟨b', off', h1, h2, fun j hj => ?_⟩
      obtain ⟨u, hu, hr⟩ := h3 j hj
      refine ⟨u, ?_, hs' hr⟩
      rw [World.cell?_of_block (w := w) (hh b' (by rw [h2]; intro e; cases e))]
      exact hu
  have hSR : ∀ {sv : SV} {v : Value}, SR tag hv w sv v → SR tag hv w' sv v := by
    intro sv
    induction sv with
    | dead => exact fun _ => trivial
    | v ag ls => exact fun h => hVV h
    | tu parts => exact fun ⟨vs, h1, h2⟩ => ⟨vs, h1, h2.imp fun _ _ h => hVV h⟩
    | p q => exact fun h => hPR h
    | fn k caps => exact fun ⟨vs, h1, h2⟩ => ⟨vs, h1, h2.imp fun _ _ h => hPR h⟩
    | g c s ih => exact fun h => ⟨fun hc => ih (h.1 hc), h.2⟩
    | pin r x => exact fun h => h
  refine ⟨w', ?_, ⟨hs.nt, hs.df, fun t' sv h => hSR (hs.sl t' sv h), fun b' ls' h => ?_, fun r x h => hVR (hs.rt r x h) (fun rest hr => ?_), hs.fr.step h2 h3 h4 (by omega) fun b' _ hq => ⟨hh b' (by rcases hq with hq | hq <;> rw [hq] <;> intro e <;> cases e), rfl⟩, fun b' hb' => hs.hi b' (by omega)⟩⟩
  · have hsz := g.size w
    have h10 : (mkV ag cs).cells.size = (ti t).sz := by rw [← Array.length_toList, hcells, hcl, hlen]
    simp only [Instr.storeAt, Instr.sureAddr, Sem.run_bind, Sem.run_pure, Result.andThen_ok, storeVar, hsz, h10, ne_eq, not_true_eq_false, if_false, hcells]
    exact h1
  · simp only [Env.stBx, lkp_putL] at h
    split at h
    · rename_i he
      subst he
      cases h
      refine ⟨k, cur', e, hk1, ht, h7, .of_get ?_ fun j x y hx hy => ?_⟩
      · simp only [splice, List.length_append, List.length_take, List.length_drop, Array.length_toList, h8, hcur]
        omega
      · have hj : j < cur'.size := by simpa using (List.getElem?_eq_some_iff.1 hy).1
        have hy' : y = cur'.getD j default := by
          rw [Array.getElem?_toList] at hy
          rw [Array.getD_eq_getD_getElem?, hy]
          rfl
        have h9j := h9 j
        simp only [Nat.add_zero] at h9j
        rw [h9j] at hy'
        simp only [splice] at hx
        by_cases c1 : j < off
        · rw [List.getElem?_append_left (by rw [List.length_take]; omega), List.getElem?_take, if_pos c1] at hx
          rw [if_neg (by omega)] at hy'
          refine hLR (hall.get j x y hx ?_)
          rw [hy', Array.getElem?_toList, Array.getD_eq_getD_getElem?, Array.getElem?_eq_getElem (by omega)]
          rfl
        · have hl1 : (ls.take off).length = off := by rw [List.length_take]; omega
          rw [List.getElem?_append_right (by omega), hl1] at hx
          by_cases c2 : j < off + new.length
          · rw [List.getElem?_append_left (by omega)] at hx
            rw [if_pos (by omega)] at hy'
            refine hLR (hcs.get (j - off) x y hx ?_)
            rw [hy', List.getD_eq_getElem?_getD, List.getElem?_eq_getElem (by omega)]
            rfl
          · rw [List.getElem?_append_right (by omega), List.getElem?_drop] at hx
            rw [if_neg (by omega)] at hy'
            rw [show off + new.length + (j - off - new.length) = j by omega] at hx
            refine hLR (hall.get j x y hx ?_)
            rw [hy', Array.getElem?_toList, Array.getD_eq_getD_getElem?, Array.getElem?_eq_getElem (by omega)]
            rfl
    · rename_i hne
      obtain ⟨k2, cur2, e2, q1, q2, q3, q4⟩ := hs.bx b' ls' h
      refine ⟨k2, cur2, e2, q1, q2, ?_, q4.imp fun _ _ h => hLR h⟩
      rw [hh k2 (by rw [q2]; intro e; injection e with e; injection e with e; exact hne e.symm)]
      exact q3
  · intro e
    have e2 := congrArg List.length e
    have e3 : ∀ {m l q}, OwnIn m l q → q.length ≠ 1 := fun h => by cases h <;> simp
    simp only [List.length_append, List.length_cons, List.length_nil] at e2
    exact e3 hr (by omega)
end Go.Sm
