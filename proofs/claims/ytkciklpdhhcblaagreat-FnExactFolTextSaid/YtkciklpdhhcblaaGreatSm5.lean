import Derived.Test.YtkciklpdhhcblaaGreatSm4
import Derived.Laws.Cells
import Derived.Laws.Rows
import Derived.Laws.Small
/-
  What 'pur' says is what the machine does.
-/
namespace Go.Sm
open Go.RowKit

section all2
variable {α β : Type} {R : α → β → Prop}
theorem All2.len {as : List α} {bs : List β} (h : All2 R as bs) : as.length = bs.length := by
  induction h with
  | nil => rfl
  | cons _ _ ih => simp [ih]
theorem All2.get {as : List α} {bs : List β} (h : All2 R as bs) : ∀ (j : Nat) (a : α) (b : β), as[j]? = some a → bs[j]? = some b → R a b := by
  induction h with
  | nil => intro j a b h1; simp at h1
  | cons h hs ih =>
    intro j a b h1 h2
    cases j with
    | zero =>
      simp only [List.getElem?_cons_zero, Option.some.injEq] at h1 h2
      subst h1
      subst h2
      exact h
    | succ j =>
      simp only [List.getElem?_cons_succ] at h1 h2
      exact ih j a b h1 h2
theorem All2.of_get : ∀ {as : List α} {bs : List β}, as.length = bs.length → (∀ (j : Nat) (a : α) (b : β), as[j]? = some a → bs[j]? = some b → R a b) → All2 R as bs
  | [], [], _, _ => .nil
  | [], _ :: _, h, _ => by simp at h
  | _ :: _, [], h, _ => by simp at h
  | a :: as, b :: bs, h, hj => .cons (hj 0 a b rfl rfl) (All2.of_get (by simpa using h) fun j x y h1 h2 => hj (j + 1) x y (by simpa using h1) (by simpa using h2))
theorem All2.imp {R' : α → β → Prop} {as : List α} {bs : List β} (h : All2 R as bs) (hi : ∀ a b, R a b → R' a b) : All2 R' as bs := by
  induction h with
  | nil => exact .nil
  | cons h _ ih => exact .cons (hi _ _ h) ih
theorem All2.drop {as : List α} {bs : List β} (h : All2 R as bs) (n : Nat) : All2 R (as.drop n) (bs.drop n) :=
  .of_get (by simp [h.len]) fun j a b h1 h2 => h.get (n + j) a b (by simpa using h1) (by simpa using h2)
theorem All2.take {as : List α} {bs : List β} (h : All2 R as bs) (n : Nat) : All2 R (as.take n) (bs.take n) :=
  .of_get (by simp [h.len]) fun j a b h1 h2 => by
    rw [List.getElem?_take] at h1 h2
    split at h1
    · rename_i hlt
      rw [if_pos hlt] at h2
      exact h.get j a b h1 h2
    · cases h1
end all2

variable {P : Program} {ti : TT} {E : Env} {tag tag0 : Nat → Tag} {hv : Hv} {a : Act} {w w0 : World} {t : Nat}

theorem add_lit (b off j : Nat) : (⟨b, off, none⟩ : Addr).add j = ⟨b, off + j, none⟩ := by
  unfold Addr.add
  split
  · rename_i h; subst h; rfl
  · rfl

namespace TI.good
theorem inf (g : (ti t).good P t) : ∃ x, P.info? t = some x ∧ x.size = (ti t).sz ∧ x.bytes = (ti t).by_ ∧ x.zero = some (ti t).zv := by
  obtain ⟨x, h1, h2⟩ := Option.map_eq_some_iff.1 g.info
  simp only [Prod.mk.injEq] at h2
  exact ⟨x, h1, h2.1, h2.2.1, h2.2.2⟩
theorem size (g : (ti t).good P t) (w : World) : (sizeOf t).run P w = .ok (ti t).sz w := by
  obtain ⟨x, h1, h2, _⟩ := g.inf
  simp [sizeOf, typeInfo, h1, h2]
theorem isAgg_run (g : (ti t).good P t) (w : World) : (isAgg t).run P w = .ok (ti t).agg w := by
  unfold isAgg
  rw [Sem.run_bind, run_underlying g.und w]
  simp only [Result.andThen_ok]
  cases hd : (ti t).desc <;> simp [TI.agg, hd]
  have h1 : (ti t).agg = false := by simp [TI.agg, hd]
  exact absurd hd ((g.na h1).2.2 _ _)
end TI.good

theorem mkV_load {agg : Bool} (g : (ti t).good P t) (ha : (ti t).agg = agg) (b off : Nat) (cs : List Value) (hl : cs.length = (ti t).sz) (hc : ∀ j v, cs[j]? = some v → w.cell? ⟨b, off + j, none⟩ = some v) :
    (Instr.loadAt t (.pointer (some ⟨b, off, none⟩))).run P w = .ok (mkV agg cs) w := by
  have hagg := g.isAgg_run w
  have hsz := g.size w
  simp only [Instr.loadAt, Instr.sureAddr, Sem.run_bind, Sem.run_pure, Result.andThen_ok, loadVar, hagg, ha]
  cases agg with
  | true =>
    have := run_loadCells_list (P := P) w ⟨b, off, none⟩ cs (fun j v hv => by rw [add_lit]; exact hc j v hv)
    rw [hl] at this
    simp [hsz, this, mkV]
  | false =>
    have h1 := (g.na ha).1
    match cs, hl with
    | [c], _ =>
      have := hc 0 c rfl
      simp only [Nat.add_zero] at this
      simp [this, mkV]
    | [], hl => simp [h1] at hl
    | _ :: _ :: _, hl => simp [h1] at hl

theorem VR_scal {v : Value} (h : scal v = true) : VR tag hv w [] .s (.sc v) v := .sc (by cases v <;> simp_all [scal, Value.oneCell'])

theorem cLV_ok : ∀ {z : Lf} {v : Value} {x : LV}, cLV z v = some x → LR tag hv w x v := by
  intro z v x h
  unfold cLV at h
  split at h
  · cases h; rfl
  · split at h
    · cases h; exact VR_scal (by assumption)
    · cases h
theorem cLVs_ok : ∀ {zs : List Lf} {vs : List Value} {xs : List LV}, cLVs zs vs = some xs → All2 (LR tag hv w) xs vs
  | [], [], xs, h => by
    simp only [cLVs, Option.some.injEq] at h
    subst h
    exact .nil
  | [], _ :: _, xs, h => by simp [cLVs] at h
  | _ :: _, [], xs, h => by simp [cLVs] at h
  | z :: zs, v :: vs, xs, h => by
    simp only [cLVs] at h
    split at h
    · rename_i x ys h1 h2
      cases h
      exact .cons (cLV_ok h1) (cLVs_ok h2)
    · cases h
theorem VV_one {l : LV} {v : Value} (h : LR tag hv w l v) : VV tag hv w false [l] v := ⟨[v], rfl, .cons h .nil, fun _ => rfl⟩
theorem VV_open {l : LV} {v : Value} (h : VV tag hv w false [l] v) : LR tag hv w l v := by
  obtain ⟨cs, rfl, h1, _⟩ := h
  cases h1 with
  | cons h hs =>
    cases hs
    exact h

theorem cSV_ok {T : Nat} {v : Value} {sv : SV} (h : cSV ti T v = some sv) : SR tag hv w sv v := by
  unfold cSV at h
  split at h
  · split at h
    · obtain ⟨ls, h1, rfl⟩ := Option.map_eq_some_iff.1 h
      exact ⟨_, by simp [mkV], cLVs_ok h1, by simp⟩
    · cases h
  · split at h
    · cases h
      exact VV_one rfl
    · cases h
  · split at h
    · cases h
      exact VV_one (VR_scal (by assumption))
    · cases h

theorem opd_ok {T : Nat} {x : Operand} {sv : SV} (hs : St w0 tag0 E tag hv a w) (h : opd ti E T x = some sv) : SR tag hv w sv (a.eval x) := by
  cases x with
  | tmp t => exact hs.sl t sv h
  | const v => exact cSV_ok h
  | global g => simp [opd] at h
  | func k =>
    simp only [opd, Option.some.injEq] at h
    subst h
    exact ⟨[], rfl, .nil⟩

/-- What stands at a place. -/
theorem at_ok {p : List Nat} {m : Md} {l : Lf} (hs : St w0 tag0 E tag hv a w) (h : E.at_ p = some (m, l)) (hv0 : E.vld p) : ∃ v, VR tag hv w p m l v := by
  match p, h, hv0 with
  | r :: rest, h, hv0 =>
    simp only [Env.at_] at h
    obtain ⟨x, h1, h2⟩ := Option.bind_eq_some_iff.1 h
    have hr := hs.rt r x h1
    simp only [Env.vld, h1] at hv0
    obtain ⟨v', h5, _⟩ := VR.get rest _ _ _ _ m l hr hv0 h2
    exact ⟨v', by simpa using h5⟩
  | [], h, _ => simp [Env.at_] at h
theorem at_own {p : List Nat} {e : Nat} {cols : Nat → List Md} {z : List Lf} {rows : List (List Lf)} (hs : St w0 tag0 E tag hv a w) (h : E.at_ p = some (.o e cols, .ls z rows)) (hv0 : E.vld p) : VR tag hv w p (.o e cols) (.ls z rows) (hv p) := by
  obtain ⟨v, h1⟩ := at_ok hs h hv0
  have := h1.open_own.1
  rw [this]
  exact h1

theorem LR_int {k : IntKind} {n : Int} {v : Value} (h : LR tag hv w (.s (.sc (.int k n))) v) : v = .int k n := by cases h; rfl
theorem LR_bool {b : Bool} {v : Value} (h : LR tag hv w (.s (.sc (.bool b))) v) : v = .bool b := by cases h; rfl
theorem LR_str {s : ByteArray} {v : Value} (h : LR tag hv w (.s (.sc (.string s))) v) : v = .string s := by cases h; rfl
theorem SR_int {k : IntKind} {n : Int} {v : Value} (h : SR tag hv w (.v false [.s (.sc (.int k n))]) v) : v = .int k n := LR_int (VV_open h)
theorem SR_bool {b : Bool} {v : Value} (h : SR tag hv w (.v false [.s (.sc (.bool b))]) v) : v = .bool b := LR_bool (VV_open h)
theorem SR_str {s : ByteArray} {v : Value} (h : SR tag hv w (.v false [.s (.sc (.string s))]) v) : v = .string s := LR_str (VV_open h)
theorem mk_int {k : IntKind} {n : Int} : SR tag hv w (int k n) (.int k n) := VV_one (.sc rfl)
theorem mk_bool {b : Bool} : SR tag hv w (bool b) (.bool b) := VV_one (.sc rfl)
theorem mk_str {s : ByteArray} : SR tag hv w (str s) (.string s) := VV_one (.sc rfl)

/-- A slice's value: its length; and where it is one that nobody writes, its cells. -/
theorem sl_form {z : List Lf} {rows : List (List Lf)} {p : List Nat} {v : Value} (h : VR tag hv w p .s (.ls z rows) v) :
    ∃ A c, v = .slice A rows.length c ∧ rows.length ≤ c ∧ (0 < rows.length → ∃ b off, A = some ⟨b, off, none⟩ ∧ tag b = .sh ∧
      (∀ i, i < rows.length → (rows.getD i z).length = z.length) ∧
      ∃ cell : Nat → Nat → Value, (∀ i j, i < rows.length → j < z.length → w.cell? ⟨b, off + (i * z.length + j), none⟩ = some (cell i j)) ∧ (∀ i j, i < rows.length → j < z.length → VR tag hv w p .s (lf z rows i j) (cell i j))) := by
  cases h with
  | sh0 => exact ⟨_, _, rfl, by simp, fun h => by simp at h⟩
  | sh cell hn hc ht hl hcell hr =>
    subst hn
    exact ⟨_, _, rfl, hc, fun _ => ⟨_, _, rfl, ht, hl, cell, hcell, hr⟩⟩
theorem rows_form {c : LV} {z : List Lf} {rows : List (List Lf)} {v : Value} (hs : St w0 tag0 E tag hv a w) (h : E.rows c = some (z, rows)) (hv0 : E.vldLV c) (hr : LR tag hv w c v) :
    ∃ A k, v = .slice A rows.length k := by
  unfold Env.rows at h
  split at h
  · cases h
    obtain ⟨A, c, h1, _⟩ := sl_form hr
    exact ⟨A, c, h1⟩
  · cases h
    exact ⟨none, 0, hr⟩
  · rename_i p
    split at h
    · rename_i e cols z' rows' h1
      cases h
      obtain ⟨h2, h3⟩ := (at_own hs h1 hv0).open_own
      rw [hr.1]
      rcases h3 with ⟨h4, h5⟩ | ⟨b, c, cur, h4, _⟩
      · rw [h4, h5]
        exact ⟨none, 0, rfl⟩
      · rw [h4]
        exact ⟨_, _, rfl⟩
    · cases h
  · cases h
/-- The cells of bytes. -/
theorem bytes_form {c : LV} {z : List Lf} {rows : List (List Lf)} {v : Value} (hs : St w0 tag0 E tag hv a w) (h : E.rows c = some (z, rows)) (hv0 : E.vldLV c) (hr : LR tag hv w c v) (hz : z.length = 1) (hm : E.bytM c) (hb : ∀ r ∈ rows, isByteRow r) :
    ∃ A k, v = .slice A rows.length k ∧ (0 < rows.length → ∃ ad : Addr, A = some ad ∧ ∀ j (hj : j < (rows.map rowByte).length), w.cell? (ad.add j) = some (.int .u8 (((rows.map rowByte)[j]).toNat : Int))) := by
  have hcell : ∀ (p : List Nat) (j : Nat) (hj : j < (rows.map rowByte).length) (u : Value), VR tag hv w p .s (lf z rows j 0) u → u = .int .u8 (((rows.map rowByte)[j]).toNat : Int) := by
    intro p j hj u hu
    have hj' : j < rows.length := by simpa using hj
    obtain ⟨b, hbr⟩ := hb rows[j] (List.getElem_mem hj')
    have e : lf z rows j 0 = .sc (.int .u8 (b.toNat : Int)) := by
      simp only [lf]
      rw [List.getD_eq_getElem?_getD (l := rows), List.getElem?_eq_getElem hj', Option.getD_some, hbr]
      rfl
    rw [e] at hu
    cases hu
    rw [List.getElem_map, hbr]
    simp [rowByte, eByte]
  unfold Env.rows at h
  split at h
  · rename_i z' rows'
    cases h
    obtain ⟨A, k, h1, h2, h3⟩ := sl_form hr
    refine ⟨A, k, h1, fun h0 => ?_⟩
    obtain ⟨b, off, rfl, _, _, cell, h4, h5⟩ := h3 h0
    refine ⟨_, rfl, fun j hj => ?_⟩
    have hj' : j < rows.length := by simpa using hj
    have h6 := h4 j 0 hj' (by omega)
    rw [hcell _ j hj _ (h5 j 0 hj' (by omega)), hz] at h6
    rw [add_lit]
    simpa using h6
  · cases h
    exact ⟨none, 0, hr, fun h0 => by simp at h0⟩
  · rename_i p
    split at h
    · rename_i e cols z' rows' h1
      cases h
      have h2 := at_own hs h1 hv0
      obtain ⟨q1, q2⟩ := h2.open_own
      rw [hr.1]
      rcases q2 with ⟨q3, q4⟩ | ⟨b, c, cur, q3, _, _, _, q4, q5, _, q6⟩
      · subst q4
        exact ⟨none, 0, q3, fun h0 => by simp at h0⟩
      · refine ⟨_, c, q3, fun _ => ⟨_, rfl, fun j hj => ?_⟩⟩
        have hj' : j < rows.length := by simpa using hj
        have h7 := q6 j 0 hj' (by omega)
        simp only [Env.bytM, h1] at hm
        rw [hm j, hz] at h7
        have h8 := hcell _ j hj _ h7
        have hlt : j < cur.size := by
          rw [q5, hz]
          omega
        rw [add_lit]
        simp only [World.cell?, q4, Option.isSome_none, Bool.false_eq_true, if_false]
        simp only [Nat.mul_one, Nat.add_zero] at h8
        simp only [Nat.zero_add]
        rw [← h8]
        simp [Array.getD, hlt]
    · cases h
  · cases h
end Go.Sm
