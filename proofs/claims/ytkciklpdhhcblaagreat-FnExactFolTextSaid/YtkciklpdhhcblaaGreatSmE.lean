import Derived.Test.YtkciklpdhhcblaaGreatSmD
/-
  Slices of the call's own are made.
-/
namespace Go.Sm
open Go.RowKit
set_option linter.unusedVariables false
set_option linter.unusedSimpArgs false

variable {P : Program} {ti : TT} {E : Env} {tag tag' tag0 : Nat → Tag} {hv hv' : Hv} {a : Act} {w w' w0 : World} {t d : Nat}

def Env.yvM (E : Env) : LV → Md → Option (Md × Lf)
  | .n z, .o e cols => some (.o e cols, .ls z [])
  | x, _ => E.yv x
def hdM : List Md → Md
  | [] => .s
  | m :: _ => m
def Env.yvsM (E : Env) : List LV → List Md → Option (List (Md × Lf))
  | [], _ => some []
  | y :: r, ms => match E.yvM y (hdM ms), E.yvsM r ms.tail with
    | some x, some xs => some (x :: xs)
    | _, _ => none
theorem yvsM_len : ∀ {ls : List LV} {ms : List Md} {ys : List (Md × Lf)}, E.yvsM ls ms = some ys → ys.length = ls.length
  | [], _, ys, h => by simp only [Env.yvsM, Option.some.injEq] at h; subst h; rfl
  | y :: r, ms, ys, h => by
    simp only [Env.yvsM] at h
    split at h
    · rename_i x xs h1 h2
      cases h
      simp [yvsM_len h2]
    · cases h
theorem yvsM_get : ∀ {ls : List LV} {ms : List Md} {ys : List (Md × Lf)} {j : Nat} {x : LV}, E.yvsM ls ms = some ys → ls[j]? = some x → ∃ y m, ys[j]? = some y ∧ E.yvM x m = some y
  | [], _, ys, j, x, h, hj => by simp at hj
  | y :: r, ms, ys, j, x, h, hj => by
    simp only [Env.yvsM] at h
    split at h
    · rename_i x1 xs h1 h2
      cases h
      cases j with
      | zero =>
        simp only [List.getElem?_cons_zero, Option.some.injEq] at hj
        subst hj
        exact ⟨x1, _, rfl, h1⟩
      | succ j =>
        simp only [List.getElem?_cons_succ] at hj
        obtain ⟨u1, m, h3, h4⟩ := yvsM_get h2 hj
        exact ⟨u1, m, by simpa using h3, h4⟩
    · cases h

def rootT (L : MvL) (d : Nat) (g : Nat) (tag : Nat → Tag) : Nat → Tag := fun b => if b = g then .own [d] else mvT (Lt L) (Lh L) tag b
def rootH (L : MvL) (d : Nat) (v : Value) (hv : Hv) : Hv := fun q => if q = [d] then v else match Lh L q with
  | some q0 => hv q0
  | none => match q with
    | r :: _ => if r = d then .slice none 0 0 else hv q
    | [] => hv q
def rootR (L : MvL) (d : Nat) : Nat → Bool := fun r => fam d r || (L.map (·.1)).contains r

theorem St.newRoot (hs : St w0 tag0 E tag hv a w) (hd : d < 1000) {e n c : Nat} {cols : Nat → List Md} {z : List Lf} {rows : List (List Lf)} {cur : Array Value} {L : MvL}
    (hLd : ∀ x ∈ L, ∃ i j, x.2 = [d, i, j]) (hLu : ∀ x ∈ L, ∀ y ∈ L, x.2 = y.2 → x = y) (hLk : (L.map (·.1)).Nodup)
    (hn : rows.length = n) (hc : n ≤ c) (hm : c ≤ maxLen) (hsz : cur.size = c * z.length) (hl : ∀ i, i < n → (rows.getD i z).length = z.length)
    (hcell : ∀ i j, i < n → j < z.length → ∃ x y m, LR tag hv w x (cur.getD (i * z.length + j) default) ∧ E.yvM x m = some y ∧ md cols i j = y.1 ∧ lf z rows i j = y.2 ∧ (∀ k, x = .r [k] → (k, [d, i, j]) ∈ L) ∧ (∀ z', x = .n z' → ∀ k, (k, [d, i, j]) ∉ L)) :
    St w0 tag0 (E.re (rootR L d) [] [] [(d, .o e cols, .ls z rows)]) (rootT L d w.heap.size tag) (rootH L d (.slice (some ⟨w.heap.size, 0, none⟩) n c) hv) a (w.alloc (.cells cur e)) := by
  have hdl : ∀ q, dth (rootR L d) [] q = false → Lt L q = none ∧ Lh L q = none ∧ q ≠ [d] ∧ ∃ r q', q = r :: q' ∧ r ≠ d := fun q hq => by
    cases q with
    | nil => simp [dth] at hq
    | cons r q =>
      simp only [dth, rootR, List.any_nil, Bool.or_false, Bool.or_eq_false_iff] at hq
      have hrd : r ≠ d := fun e => by
        subst e
        have := hq.1
        simp [fam] at this
        omega
      refine ⟨by simp only [Lt, lkp_none_keys hq.2, Option.map_none], Lh_none fun x hx => ?_, fun e => hrd (by injection e), r, q, rfl, hrd⟩
      obtain ⟨i, j, h1⟩ := hLd x hx
      rw [h1]
      simp [List.isPrefixOf, Ne.symm hrd]
  have hlt : ∀ b, b < w.heap.size → b ≠ w.heap.size := fun b h => by omega
  have hHp : Hp (rootR L d) [] [] tag (rootT L d w.heap.size tag) hv (rootH L d (.slice (some ⟨w.heap.size, 0, none⟩) n c) hv) w (w.alloc (.cells cur e)) := by
    refine ⟨fun b hb h => ⟨?_, Below.heap_alloc w _ b hb⟩, fun b q hb h hq => ⟨?_, fun _ => Below.heap_alloc w _ b hb⟩, fun b hb h => ⟨?_, Below.heap_alloc w _ b hb⟩, fun q hq => ?_, rfl, rfl, rfl, by simp, fun b hb => ?_⟩
    · simp only [rootT, if_neg (hlt b hb)]
      exact mvT_sh h
    · simp only [rootT, if_neg (hlt b hb)]
      exact mvT_own h (hdl q hq).1 (hdl q hq).2.1
    · simp only [rootT, if_neg (hlt b hb)]
      exact mvT_off h
    · obtain ⟨_, h2, h3, r, q', rfl, h4⟩ := hdl q hq
      simp only [rootH, if_neg h3, h2, if_neg h4]
    · rw [World.size_alloc] at hb
      simp only [rootT, if_neg (show b ≠ w.heap.size by omega)]
      exact mvT_off (hs.hi b (by omega))
  refine hs.re hHp (by simp) fun r y hl' => ?_
  simp only [lkp] at hl'
  split at hl'
  · rename_i he
    subst he
    cases hl'
    simp only [rootH, if_true]
    have hroot : ∀ L d v, rootH L d v hv [d] = v := fun L d v => by simp [rootH]
    refine .own cur hn hc hm (by simp [rootT]) (hroot _ _ _) (heap_alloc_new w _) hsz hl (fun i j hi hj => ?_)
    obtain ⟨x, y, m, h1, h2, h3, h4, h5, h6⟩ := hcell i j hi hj
    rw [h3, h4]
    have key : E.yv x = some y → VR (rootT L d w.heap.size tag) (rootH L d (.slice (some ⟨w.heap.size, 0, none⟩) n c) hv) (w.alloc (.cells cur e)) ([d] ++ [i, j]) y.1 y.2 (cur.getD (i * z.length + j) default) := fun hy => by
      refine yv_ok hs hHp hy h1 (fun k hk rest => ?_)
      have hmem := h5 k hk
      have hLh := Lh_of (rest := rest) (L := L) (k := k) (p := [d, i, j]) (fun x hx => by
        obtain ⟨i, j, h⟩ := hLd x hx
        rw [h]; rfl) (fun x hx he => hLu x hx _ hmem he) hmem
      refine ⟨?_, fun b hb => ?_⟩
      · simp only [List.cons_append, List.nil_append] at hLh ⊢
        simp [rootH, hLh]
      · have hblt : b < w.heap.size := by
          rcases Nat.lt_or_ge b w.heap.size with h | h
          · exact h
          · rw [hs.hi b h] at hb; cases hb
        refine ⟨?_, Below.heap_alloc w _ b hblt⟩
        simp only [rootT, if_neg (hlt b hblt)]
        refine mvT_mv hb ?_
        simp only [Lt, lkp_of_mem hLk hmem, Option.map_some]
        rfl
    unfold Env.yvM at h2
    split at h2
    · rename_i z' e' cols'
      cases h2
      rw [show cur.getD (i * z.length + j) default = .slice none 0 0 from h1]
      refine .own0 ?_
      have hLh : Lh L [d, i, j] = none := Lh_none fun x hx => by
        obtain ⟨i', j', h⟩ := hLd x hx
        cases hz : x.2.isPrefixOf [d, i, j] with
        | false => rfl
        | true =>
          exfalso
          have h7 := List.isPrefixOf_iff_prefix.1 hz
          rw [h] at h7
          have h8 : [d, i', j'] = [d, i, j] := prefix_same (rest := []) rfl (by simpa using h7)
          refine h6 z' rfl x.1 ?_
          rw [← h8, ← h]
          exact hx
      simp [rootH, hLh]
    · exact key h2
  · cases hl'

/-! ### 'make' -/
def msK (ms : List Md) : List Lf → Bool
  | [] => true
  | .ls _ [] :: z => msK ms.tail z
  | .sc _ :: z => (match hdM ms with | .s => true | _ => false) && msK ms.tail z
  | _ => false
theorem zyvs (E : Env) : ∀ {z : List Lf} {ms : List Md}, msK ms z = true → ∃ ys, E.yvsM (z.map zLV) ms = some ys ∧ ys.map (·.2) = z
  | [], ms, _ => ⟨[], rfl, rfl⟩
  | .sc v :: z, ms, h => by
    simp only [msK, Bool.and_eq_true] at h
    obtain ⟨ys, h1, h2⟩ := zyvs E (z := z) h.2
    refine ⟨(.s, .sc v) :: ys, ?_, by simp [h2]⟩
    simp [Env.yvsM, zLV, Env.yvM, Env.yv, h1]
  | .ls zz [] :: z, ms, h => by
    simp only [msK] at h
    obtain ⟨ys, h1, h2⟩ := zyvs E (z := z) h
    cases hm : hdM ms with
    | o e cols => exact ⟨(.o e cols, .ls zz []) :: ys, by simp [Env.yvsM, zLV, Env.yvM, h1, hm], by simp [h2]⟩
    | s => exact ⟨(.s, .ls zz []) :: ys, by simp [Env.yvsM, zLV, Env.yvM, Env.yv, h1, hm], by simp [h2]⟩
    | x => exact ⟨(.s, .ls zz []) :: ys, by simp [Env.yvsM, zLV, Env.yvM, Env.yv, h1, hm], by simp [h2]⟩
  | .ls zz (_ :: _) :: z, ms, h => by simp [msK] at h
def msF (ms : List Md) : List Lf → List Md
  | [] => []
  | .ls _ _ :: z => (match hdM ms with | .o e cols => .o e cols | _ => .s) :: msF ms.tail z
  | .sc _ :: z => .s :: msF ms.tail z
theorem zyvs' : ∀ {z : List Lf} {ms : List Md} {ys : List (Md × Lf)}, E.yvsM (z.map zLV) ms = some ys → ys.map (·.1) = msF ms z
  | [], ms, ys, h => by simp only [List.map_nil, Env.yvsM, Option.some.injEq] at h; subst h; rfl
  | x :: z, ms, ys, h => by
    simp only [List.map_cons, Env.yvsM] at h
    split at h
    · rename_i y ys' h1 h2
      cases h
      have := zyvs' h2
      cases x with
      | sc v =>
        simp only [zLV, Env.yvM, Env.yv, Option.some.injEq] at h1
        subst h1
        simp [msF, this]
      | ls zz rows =>
        simp only [zLV] at h1
        cases hm : hdM ms with
        | o e cols =>
          simp only [hm, Env.yvM, Option.some.injEq] at h1
          subst h1
          simp [msF, this, hm]
        | s =>
          simp only [hm, Env.yvM, Env.yv, Option.some.injEq] at h1
          subst h1
          simp [msF, this, hm]
        | x =>
          simp only [hm, Env.yvM, Env.yv, Option.some.injEq] at h1
          subst h1
          simp [msF, this, hm]
    · cases h

def Env.mkS (E : Env) (d e n : Nat) (ms : List Md) (z : List Lf) : Env := E.re (fam d) [] [] [(d, .o e (fun _ => msF ms z), .ls z (List.replicate n z))]
theorem re_congr {R R' : Nat → Bool} (h : R = R') {rts} : E.re R [] [] rts = E.re R' [] [] rts := by rw [h]

theorem run_mk {e : Nat} {z : List Lf} {ms : List Md} {n : Nat} {kl kc : IntKind} (hT : TGood P ti) (hs : St w0 tag0 E tag hv a w) (hd : d < 1000) (ht : (ti t).ok = true) (he : (ti t).elt = some e) (hek : (ti e).ok = true) (hz : (ti e).z = z) (hms : msK ms z = true)
    (hn : n * (ti e).by_ ≤ 281474976710656) :
    ∃ w' v tg hh, (Instr.makeSlice t (.int kl n) (.int kc n)).run P w = .ok v w' ∧ St w0 tag0 (E.mkS d e n ms z) tg hh a w' ∧ SR tg hh w' (.v false [.r [d]]) v := by
  have g := hT t ht
  have ge := hT e hek
  have hdesc : (ti t).desc = .slice e := by
    unfold TI.elt at he
    split at he
    · rename_i h
      cases he
      exact h
    · cases he
  obtain ⟨x, h1, h2, h3, h4⟩ := ge.inf
  have hn63 : n ≤ 281474976710656 := by
    have := ge.posb
    have h5 : n * 1 ≤ n * (ti e).by_ := Nat.mul_le_mul_left _ this
    omega
  have hbb : (x.bytes : Int) * (n : Int) ≤ 281474976710656 := by
    have h : ((x.bytes * n : Nat) : Int) ≤ 281474976710656 := by rw [h3, Nat.mul_comm]; omega
    rwa [Int.natCast_mul] at h
  have hr := run_make (P := P) w t e x (ti e).zv (by rw [g.und, hdesc]) h1 h4 kl kc n n (by omega) (Int.le_refl _) hbb (by omega)
  simp only [Int.toNat_natCast] at hr
  subst hz
  obtain ⟨ys, hy1, hy2⟩ := zyvs E (z := (ti e).z) hms
  have hy3 := zyvs' hy1
  have hzl := ge.zl
  have hall := zLV_ok (tag := tag) (hv := hv) (w := w) ge
  have hzc : (ti e).zv.cells.size = (ti e).sz := by
    rw [← Array.length_toList, ← hall.len]
    simpa using hzl
  have hst := hs.newRoot hd (e := e) (n := n) (c := n) (cols := fun _ => msF ms (ti e).z) (z := (ti e).z) (rows := List.replicate n (ti e).z) (cur := madeCells (ti e).zv.cells (n * x.size)) (L := []) (by simp) (by simp) (by simp) (by simp) (Nat.le_refl _) (by simp [maxLen]; omega)
    (by rw [size_madeCells, h2, hzl]) (fun i hi => by simp [List.getD_eq_getElem?_getD, List.getElem?_replicate, hi]) (fun i j hi hj => by
      have hjl : j < ((ti e).z.map zLV).length := by simpa using hj
      obtain ⟨y, m, h5, h6⟩ := yvsM_get hy1 (List.getElem?_eq_getElem hjl)
      have hcl : j < (ti e).zv.cells.toList.length := by rw [Array.length_toList, hzc, ← hzl]; exact hj
      refine ⟨_, y, m, hall.get j _ _ (List.getElem?_eq_getElem hjl) (?_), h6, ?_, ?_, fun k hk => ?_, by simp⟩
      · rw [List.getElem?_eq_getElem hcl]
        congr 1
        have hlt : i * (ti e).z.length + j < n * x.size := by
          rw [h2, ← hzl]
          have h1 : (i + 1) * (ti e).z.length ≤ n * (ti e).z.length := Nat.mul_le_mul_right _ (by omega)
          rw [Nat.add_mul] at h1
          omega
        rw [Array.getD_eq_getD_getElem?, Array.getElem?_eq_getElem (by rw [size_madeCells]; exact hlt)]
        simp only [madeCells, Array.getElem_map, Array.getElem_range, Option.getD_some]
        have hmod : (i * (ti e).z.length + j) % (ti e).zv.cells.size = j := by
          rw [hzc, ← hzl, Nat.mul_comm, Nat.mul_add_mod]
          exact Nat.mod_eq_of_lt hj
        rw [hmod, getElem!_pos _ _ (by rw [hzc, ← hzl]; exact hj)]
        simp
      · simp only [md]
        rw [← hy3, List.getD_eq_getElem?_getD, List.getElem?_map, h5]
        rfl
      · simp only [lf]
        rw [List.getD_eq_getElem?_getD (l := List.replicate _ _), List.getElem?_replicate, if_pos hi]
        simp only [Option.getD_some]
        conv => lhs; rw [← hy2]
        rw [List.getD_eq_getElem?_getD, List.getElem?_map, h5]
        rfl
      · rw [List.getElem_map] at hk
        cases hz : (ti e).z[j] <;> rw [hz] at hk <;> cases hk)
  have hR : rootR [] d = fam d := by funext r; simp [rootR]
  rw [hR] at hst
  exact ⟨_, _, _, _, hr, hst, VV_one ⟨by simp [rootH], _, _, _, rfl⟩⟩
/-- A new variable, as a slice of one row; where the order of operations is open. -/
theorem run_al {o : Oper} (hT : TGood P ti) (hs : St w0 tag0 E tag hv a w) (hd : d < 1000) (hek : (ti t).ok = true) (hms : msK (ti t).ms (ti t).z = true) (ho : o.op = .alloc t) :
    ∃ w' v tg hh, (execOp a.eval o).run P w = .ok (.value v) w' ∧ St w0 tag0 (E.mkS d t 1 (ti t).ms (ti t).z) tg hh a w' ∧ SR tg hh w' (.p (.pt [d] (ti t).z.length 0 0)) v := by
  have ge := hT t hek
  have hr := run_alloc (P := P) (a := a) (w := w) ge ho
  obtain ⟨ys, hy1, hy2⟩ := zyvs E (z := (ti t).z) hms
  have hy3 := zyvs' hy1
  have hzl := ge.zl
  have hall := zLV_ok (tag := tag) (hv := hv) (w := w) ge
  have hzc : (ti t).zv.cells.size = (ti t).sz := by
    rw [← Array.length_toList, ← hall.len]
    simpa using hzl
  have hst := hs.newRoot hd (e := t) (n := 1) (c := 1) (cols := fun _ => msF (ti t).ms (ti t).z) (z := (ti t).z) (rows := List.replicate 1 (ti t).z) (cur := (ti t).zv.cells) (L := []) (by simp) (by simp) (by simp) (by simp) (Nat.le_refl _) (by simp [maxLen])
    (by rw [hzc, hzl]; simp) (fun i hi => by simp [List.getD_eq_getElem?_getD, List.getElem?_replicate, hi]) (fun i j hi hj => by
      have hi0 : i = 0 := by omega
      subst hi0
      have hjl : j < ((ti t).z.map zLV).length := by simpa using hj
      obtain ⟨y, m, h5, h6⟩ := yvsM_get hy1 (List.getElem?_eq_getElem hjl)
      have hcl : j < (ti t).zv.cells.toList.length := by rw [Array.length_toList, hzc, ← hzl]; exact hj
      refine ⟨_, y, m, hall.get j _ _ (List.getElem?_eq_getElem hjl) (?_), h6, ?_, ?_, fun k hk => ?_, by simp⟩
      · rw [List.getElem?_eq_getElem hcl, Nat.zero_mul, Nat.zero_add, Array.getD_eq_getD_getElem?, ← Array.getElem?_toList, List.getElem?_eq_getElem hcl]
        rfl
      · simp only [md]
        rw [← hy3, List.getD_eq_getElem?_getD, List.getElem?_map, h5]
        rfl
      · simp only [lf]
        rw [List.getD_eq_getElem?_getD (l := List.replicate _ _), List.getElem?_replicate, if_pos hi]
        simp only [Option.getD_some]
        conv => lhs; rw [← hy2]
        rw [List.getD_eq_getElem?_getD, List.getElem?_map, h5]
        rfl
      · rw [List.getElem_map] at hk
        cases hz : (ti t).z[j] <;> rw [hz] at hk <;> cases hk)
  have hR : rootR [] d = fam d := by funext r; simp [rootR]
  rw [hR] at hst
  exact ⟨_, _, _, _, hr, hst, w.heap.size, 1, 1, by simp [rootH], by simp⟩
end Go.Sm
