import Derived.Test.YtkciklpdhhcblaaGreatSmF
/-
  buildSlice and append.
-/
namespace Go.Sm
open Go.RowKit
set_option linter.unusedVariables false
set_option linter.unusedSimpArgs false

variable {P : Program} {ti : TT} {E : Env} {tag tag' tag0 : Nat → Tag} {hv hv' : Hv} {a : Act} {w w' w0 : World} {t d : Nat}

/-! ### buildSlice -/
def bsO (ti : TT) (E : Env) (d t n : Nat) (parts : List (Nat × Operand)) : Option (Prop × Env) :=
  match (ti t).elt with
  | some e => match bparts ti E (fun i => some (i * (ti e).sz, e)) parts (List.replicate n ((ti e).z.map zLV)).flatten with
    | some (C, F) => match E.bs d e n (ti e).ms (ti e).z F with
      | some (D, E') => some ((ti t).ok = true ∧ (ti e).ok = true ∧ n * (ti e).sz ≤ 16777216 ∧ d < 1000 ∧ C ∧ D, E')
      | none => none
    | none => none
  | none => none
theorem flat_get {α : Type} {l : List α} : ∀ {n j : Nat}, j < n * l.length → ((List.replicate n l).flatten)[j]? = l[j % l.length]?
  | 0, j, h => by simp at h
  | n + 1, j, h => by
    rw [List.replicate_succ, List.flatten_cons]
    by_cases hj : j < l.length
    · rw [List.getElem?_append_left hj, Nat.mod_eq_of_lt hj]
    · have h2 : n * l.length + l.length = (n + 1) * l.length := by rw [Nat.add_mul, Nat.one_mul]
      rw [List.getElem?_append_right (by omega), flat_get (by omega), Nat.mod_eq_sub_mod (a := j) (b := l.length) (by omega)]
theorem bsO_ok {o : Oper} {n : Nat} {parts : Array (Nat × Operand)} {C : Prop} {E' : Env} (hT : TGood P ti) (hs : St w0 tag0 E tag hv a w) (ho : o.op = .buildSlice t n parts) (h : bsO ti E d t n parts.toList = some (C, E')) (hC : C) :
    ∃ v w' tg hh, (execOp a.eval o).run P w = .ok (.value v) w' ∧ St w0 tag0 E' tg hh a w' ∧ SR tg hh w' (.v false [.r [d]]) v := by
  unfold bsO at h
  split at h
  · rename_i e he
    split at h
    · rename_i C1 F hF
      split at h
      · rename_i D E1 hE
        cases h
        obtain ⟨ht, hek, hn, hd, hC1, hD⟩ := hC
        have g := hT t ht
        have ge := hT e hek
        have hund := elt_und g he
        obtain ⟨x, h1, h2, h3, h4⟩ := ge.inf
        have hzc : (ti e).zv.cells.size = (ti e).sz := by
          rw [← Array.length_toList, ← (zLV_ok (tag := tag) (hv := hv) (w := w) ge).len]
          simpa using ge.zl
        have hall0 : All2 (LR tag hv w) (List.replicate n ((ti e).z.map zLV)).flatten (((Array.range (n * (ti e).sz)).map ((if n * (ti e).sz = 0 then #[] else (ti e).zv.cells)[· % (if n * (ti e).sz = 0 then #[] else (ti e).zv.cells).size]!)).toList) := by
          refine .of_get ?_ fun j u1 v hu hv0 => ?_
          · simp [ge.zl]
          · have hj : j < n * (ti e).sz := by simpa using (List.getElem?_eq_some_iff.1 hv0).1
            have hne : ¬ n * (ti e).sz = 0 := by omega
            have hz := zLV_ok (tag := tag) (hv := hv) (w := w) ge
            rw [flat_get (by simpa [ge.zl] using hj)] at hu
            simp only [hne, if_false] at hv0
            have hpos := ge.pos
            have hmod : j % (ti e).sz < (ti e).sz := Nat.mod_lt _ hpos
            refine hz.get (j % (ti e).sz) u1 v (by simpa [ge.zl] using hu) ?_
            rw [Array.getElem?_toList] at hv0 ⊢
            rw [Array.getElem?_map, Array.getElem?_eq_getElem (by simpa using hj)] at hv0
            simp only [Array.getElem_range, Option.map_some, Option.some.injEq] at hv0
            rw [hzc, getElem!_pos _ _ (by rw [hzc]; exact hmod)] at hv0
            rw [Array.getElem?_eq_getElem (by rw [hzc]; exact hmod), hv0]
        obtain ⟨cs', h5, h6⟩ := bparts_ok hs (pl := fun i => some (i * (ti e).sz, (ti e).sz)) (fun i off u hi _ => by
          simp only [Option.some.injEq, Prod.mk.injEq] at hi
          obtain ⟨rfl, rfl⟩ := hi
          rfl) hF hC1 hall0
        have hn2 : n ≤ maxLen := by
          have := ge.pos
          have h7 : n * 1 ≤ n * (ti e).sz := Nat.mul_le_mul_left _ this
          simp [maxLen]
          omega
        obtain ⟨tg, hh, h7, h8⟩ := hs.bs hd hn2 hE hD h6
        refine ⟨_, _, tg, hh, ?_, h7, h8⟩
        have h9 : (parts.map fun (x : Nat × Operand) => (x.1, a.eval x.2)).toList = parts.toList.map fun q => (q.1, a.eval q.2) := by simp
        have hle : ¬ n * (ti e).sz > 2 ^ 24 := by simpa using hn
        simp only [execOp, ho, Instr.buildSlice, Sem.run_bind, run_underlying hund, Result.andThen_ok, ge.size w, hle, if_false, Sem.run_pure]
        by_cases hz0 : n * (ti e).sz = 0
        · simp only [hz0, if_true, Sem.run_pure, Result.andThen_ok] at h5 ⊢
          simp only [Sem.run_bind, Sem.run_pure, Result.andThen_ok]
          rw [h9, h5]
          simp [newRow]
        · simp only [hz0, if_false, zeroValue, typeInfo, Sem.run_bind, run_program, h1, h4, Sem.run_pure, Result.andThen_ok] at h5 ⊢
          rw [h9, h5]
          simp [newRow]
      · cases h
    · cases h
  · cases h

/-! ### append -/
def scAll : List Lf → Bool
  | [] => true
  | .sc _ :: r => scAll r
  | _ => false
def allS : Nat → List Md → Prop
  | 0, _ => True
  | n + 1, .s :: r => allS n r
  | _, _ => False
theorem allS_get : ∀ {n : Nat} {ms : List Md} {j : Nat}, allS n ms → j < n → ms.getD j .x = .s
  | 0, _, _, _, h => by omega
  | n + 1, .s :: r, 0, _, _ => rfl
  | n + 1, .s :: r, j + 1, h, hj => by
    simp only [allS] at h
    have := allS_get (j := j) h (by omega)
    simpa using this
  | n + 1, [], _, h, _ => by simp [allS] at h
  | n + 1, .x :: _, _, h, _ => by simp [allS] at h
  | n + 1, .o _ _ :: _, _, h, _ => by simp [allS] at h

/-- What is appended: what is asked, its rows, their modes, the slice of the call's own that is used up. -/
def Env.appS (ti : TT) (E : Env) (z : List Lf) (t2 : Nat) : SV → Option (Prop × List (List Lf) × (Nat → List Md) × Option Nat)
  | .v false [.s (.sc (.string s))] => some ((ti t2).isStr = true ∧ z.length = 1, s.data.toList.map (fun b => [.sc (.int .u8 b.toNat)]), fun _ => [.s], none)
  | .v false [.s (.ls z' rows)] => some ((ti t2).elt.isSome = true ∧ z'.length = z.length, rows, fun _ => z.map (fun _ => .s), none)
  | .v false [.n _] => some ((ti t2).elt.isSome = true, [], fun _ => z.map (fun _ => .s), none)
  | .v false [.r q] => match E.at_ q with
    | some (.o _ cols, .ls z' rows) => if scAll z = true then some ((ti t2).elt.isSome = true ∧ z'.length = z.length ∧ E.vld q ∧ ∀ i, allS z.length (cols i), rows, fun _ => z.map (fun _ => .s), none)
      else match q with
        | [r] => some ((ti t2).elt.isSome = true ∧ z'.length = z.length ∧ E.vld q, rows, cols, some r)
        | _ => none
    | _ => none
  | _ => none

/-- What a source holds. -/
structure SrcOk (P : Program) (tag : Nat → Tag) (hv : Hv) (w : World) (t2 sz : Nat) (X : Value) (rows : List (List Lf)) (z : List Lf) (cols : Nat → List Md) (kill : Option Nat) : Prop where
  src : ∃ news, Src P sz t2 X rows.length news w ∧ ∀ i j, i < rows.length → j < sz → ∃ q, VR tag hv w q (md cols i j) (lf z rows i j) (news.getD (i * sz + j) default) ∧ (md cols i j = .s ∨ ∃ r, kill = some r ∧ q = [r, i, j])
  len : ∀ i, i < rows.length → (rows.getD i z).length = z.length

theorem md_map_s {z : List Lf} {i j : Nat} (hj : j < z.length) : md (fun _ => z.map fun _ => Md.s) i j = .s := by
  simp only [md]
  rw [List.getD_eq_getElem?_getD, List.getElem?_map, List.getElem?_eq_getElem hj]
  rfl
theorem isSome_elt (g : (ti t).good P t) (h : (ti t).elt.isSome = true) : ∃ e, P.underlying t = some (.slice e) := by
  obtain ⟨e, he⟩ := Option.isSome_iff_exists.1 h
  exact ⟨e, elt_und g he⟩
theorem lf_z {z z' : List Lf} {rows : List (List Lf)} {i : Nat} (j : Nat) (hi : i < rows.length) : lf z rows i j = lf z' rows i j := by
  simp only [lf, List.getD_eq_getElem?_getD (l := rows), List.getElem?_eq_getElem hi, Option.getD_some]
theorem getD_z {z z' : List Lf} {rows : List (List Lf)} {i : Nat} (hi : i < rows.length) : rows.getD i z = rows.getD i z' := by
  simp only [List.getD_eq_getElem?_getD, List.getElem?_eq_getElem hi, Option.getD_some]
theorem appS_ok {t2 : Nat} {z : List Lf} {sv : SV} {C : Prop} {rows : List (List Lf)} {cols : Nat → List Md} {kill : Option Nat} {X : Value} (hT : TGood P ti) (hs : St w0 tag0 E tag hv a w) (ht : (ti t2).ok = true) (hpos : 0 < z.length)
    (h : E.appS ti z t2 sv = some (C, rows, cols, kill)) (hC : C) (hX : SR tag hv w sv X) : SrcOk P tag hv w t2 z.length X rows z cols kill := by
  have g := hT t2 ht
  unfold Env.appS at h
  split at h
  · -- a string
    rename_i s
    cases h
    have hu := isStr_und g hC.1
    have hxs := SR_str hX
    subst hxs
    refine ⟨⟨byteCells s, ?_, fun i j hi hj => ⟨[], ?_, .inl ?_⟩⟩, fun i hi => ?_⟩
    · rw [hC.2, List.length_map, Array.length_toList]
      exact Src.ofString w hu s
    · rw [hC.2] at hj ⊢
      have hj0 : j = 0 := by omega
      subst hj0
      have hi' : i < s.data.toList.length := by simpa using hi
      simp only [lf, md, byteCells, Nat.mul_one, Nat.add_zero]
      rw [List.getD_eq_getElem?_getD (l := s.data.toList.map _), List.getElem?_map, List.getElem?_eq_getElem hi']
      rw [List.getD_eq_getElem?_getD (l := s.data.toList.map _), List.getElem?_map, List.getElem?_eq_getElem hi']
      exact .sc rfl
    · have hj0 : j = 0 := by rw [hC.2] at hj; omega
      subst hj0
      rfl
    · have hi' : i < s.data.toList.length := by simpa using hi
      rw [List.getD_eq_getElem?_getD, List.getElem?_map, List.getElem?_eq_getElem hi', hC.2]
      rfl
  · -- shared
    rename_i z' rows'
    cases h
    obtain ⟨e, hu⟩ := isSome_elt g hC.1
    have hv1 : VR tag hv w [] .s (.ls z' rows) X := by
      obtain ⟨cs, rfl, h1, _⟩ := hX
      cases h1 with
      | cons h hs => cases hs; exact h
    cases hv1 with
    | @sh0 _ _ A c =>
      refine ⟨⟨[], ?_, fun i j hi => by simp at hi⟩, fun i hi => by simp at hi⟩
      cases A with
      | none => exact Src.ofNil w hu c
      | some A => exact Src.ofSlice w hu A 0 c [] (by simp) (fun j u hj => by simp at hj) (fun u hu => by cases hu)
    | @sh _ _ _ b off n c cell hn hc htb hl hcell hr =>
      subst hn
      rw [hC.2] at hl hcell hr
      have hlen : ((List.range (rows.length * z.length)).map fun k => cell (k / z.length) (k % z.length)).length = rows.length * z.length := by simp
      have hget : ∀ i j, i < rows.length → j < z.length → i * z.length + j < rows.length * z.length ∧ (i * z.length + j) / z.length = i ∧ (i * z.length + j) % z.length = j := fun i j hi hj => by
        refine ⟨?_, ?_, ?_⟩
        · have h1 : (i + 1) * z.length ≤ rows.length * z.length := Nat.mul_le_mul_right _ (by omega)
          rw [Nat.add_mul] at h1
          omega
        · rw [Nat.mul_comm, Nat.mul_add_div hpos, Nat.div_eq_of_lt hj, Nat.add_zero]
        · rw [Nat.mul_comm, Nat.mul_add_mod, Nat.mod_eq_of_lt hj]
      refine ⟨⟨(List.range (rows.length * z.length)).map fun k => cell (k / z.length) (k % z.length), ?_, fun i j hi hj => ⟨[], ?_, .inl (md_map_s hj)⟩⟩, fun i hi => ?_⟩
      · refine Src.ofSlice w hu ⟨b, off, none⟩ rows.length c _ hlen (fun k u hk => ?_) (fun u hu => ?_)
        · have hk2 : k < rows.length * z.length := by simpa using (List.getElem?_eq_some_iff.1 hk).1
          rw [List.getElem?_map, List.getElem?_eq_getElem (by simpa using hk2)] at hk
          simp only [List.getElem_range, Option.map_some, Option.some.injEq] at hk
          subst hk
          have hq : k / z.length < rows.length := Nat.div_lt_of_lt_mul (by rw [Nat.mul_comm]; exact hk2)
          have hr2 := hcell (k / z.length) (k % z.length) hq (Nat.mod_lt _ hpos)
          rw [add_lit]
          rw [Nat.div_add_mod'] at hr2
          exact hr2
        · obtain ⟨k, hk, rfl⟩ := List.mem_map.1 hu
          have hk2 : k < rows.length * z.length := by simpa using hk
          have hq : k / z.length < rows.length := Nat.div_lt_of_lt_mul (by rw [Nat.mul_comm]; exact hk2)
          exact (hr _ _ hq (Nat.mod_lt _ hpos)).one
      · obtain ⟨h1, h2, h3⟩ := hget i j hi hj
        rw [md_map_s hj, List.getD_eq_getElem?_getD, List.getElem?_map, List.getElem?_eq_getElem (by simpa using h1)]
        simp only [List.getElem_range, Option.map_some, Option.getD_some, h2, h3]
        rw [lf_z (z' := z') j hi]
        exact hr i j hi hj
      · rw [getD_z (z' := z') hi]
        exact hl i hi
  · -- nil
    cases h
    obtain ⟨e, hu⟩ := isSome_elt g hC
    have hX : X = .slice none 0 0 := by
      obtain ⟨cs, rfl, h1, _⟩ := hX
      cases h1 with
      | cons h hs => cases hs; exact h
    subst hX
    exact ⟨⟨[], Src.ofNil w hu 0, fun i j hi => by simp at hi⟩, fun i hi => by simp at hi⟩
  · -- the call's own
    rename_i q
    have hX : X = hv q := by
      obtain ⟨cs, rfl, h1, _⟩ := hX
      cases h1 with
      | cons h hs => cases hs; exact h.1
    have own : ∀ {e' : Nat} {cols' : Nat → List Md} {z' : List Lf} {rows' : List (List Lf)}, E.at_ q = some (.o e' cols', .ls z' rows') → E.vld q → (ti t2).elt.isSome = true → z'.length = z.length →
        (∃ news, Src P z.length t2 X rows'.length news w ∧ ∀ i j, i < rows'.length → j < z.length → VR tag hv w (q ++ [i, j]) (md cols' i j) (lf z rows' i j) (news.getD (i * z.length + j) default)) ∧ ∀ i, i < rows'.length → (rows'.getD i z).length = z.length := by
      intro e' cols' z' rows' hat hvl hel hzl
      obtain ⟨e, hu⟩ := isSome_elt g hel
      have h1 := at_own hs hat hvl
      rw [← hX] at h1
      obtain ⟨_, ⟨rfl, rfl⟩ | ⟨b, c, cur, rfl, hc, hm, htb, hbl, hcs, hl, hr⟩⟩ := h1.open_own
      · exact ⟨⟨[], Src.ofNil w hu 0, fun i j hi => by simp at hi⟩, fun i hi => by simp at hi⟩
      · rw [hzl] at hcs hl hr
        have hle : rows'.length * z.length ≤ cur.size := by rw [hcs]; exact Nat.mul_le_mul_right _ hc
        have hget : ∀ i j, i < rows'.length → j < z.length → i * z.length + j < rows'.length * z.length := fun i j hi hj => by
          have h1 : (i + 1) * z.length ≤ rows'.length * z.length := Nat.mul_le_mul_right _ (by omega)
          rw [Nat.add_mul] at h1
          omega
        refine ⟨⟨cur.toList.take (rows'.length * z.length), ?_, fun i j hi hj => ?_⟩, fun i hi => ?_⟩
        · refine Src.ofSlice w hu ⟨b, 0, none⟩ rows'.length c _ (by simp; omega) (fun k u hk => ?_) (fun u hu => ?_)
          · rw [List.getElem?_take] at hk
            split at hk
            · rw [add_lit]
              simp only [World.cell?, hbl, Option.isSome_none, Bool.false_eq_true, if_false, Nat.zero_add]
              simpa using hk
            · cases hk
          · obtain ⟨k, hk⟩ := List.getElem?_of_mem hu
            rw [List.getElem?_take] at hk
            split at hk
            · rename_i hlt
              have hq : k / z.length < rows'.length := Nat.div_lt_of_lt_mul (by rw [Nat.mul_comm]; exact hlt)
              have h3 := (hr (k / z.length) (k % z.length) hq (Nat.mod_lt _ hpos)).one
              rw [Nat.div_add_mod'] at h3
              rw [Array.getElem?_toList] at hk
              rw [Array.getD_eq_getD_getElem?, hk] at h3
              exact h3
            · cases hk
        · have h2 := hget i j hi hj
          have h3 := hr i j hi hj
          rw [lf_z (z' := z') j hi]
          rw [List.getD_eq_getElem?_getD, List.getElem?_take, if_pos h2, Array.getElem?_toList, ← Array.getD_eq_getD_getElem?]
          exact h3
        · rw [getD_z (z' := z') hi]
          exact hl i hi
    split at h
    · rename_i e' cols' z' rows' hat
      split at h
      · cases h
        obtain ⟨h1, h2, h3, h4⟩ := hC
        obtain ⟨⟨news, q1, q2⟩, q3⟩ := own hat h3 h1 h2
        refine ⟨⟨news, q1, fun i j hi hj => ⟨q ++ [i, j], ?_, .inl (md_map_s hj)⟩⟩, q3⟩
        have := q2 i j hi hj
        rw [show md cols' i j = .s from allS_get (h4 i) hj] at this
        rw [md_map_s hj]
        exact this
      · split at h
        · rename_i r _
          cases h
          obtain ⟨h1, h2, h3⟩ := hC
          obtain ⟨⟨news, q1, q2⟩, q3⟩ := own hat h3 h1 h2
          exact ⟨⟨news, q1, fun i j hi hj => ⟨_, q2 i j hi hj, .inr ⟨r, rfl, rfl⟩⟩⟩, q3⟩
        · cases h
    · cases h
  · cases h
end Go.Sm
