import Derived.Test.YtkciklpdhhcblaaGreatSmB
/-
  A store into a row of a slice of the call's own; slices of the call's own that are stored move there.
-/
namespace Go.Sm
open Go.RowKit

variable {P : Program} {ti : TT} {E : Env} {tag tag' tag0 : Nat → Tag} {hv hv' : Hv} {a : Act} {w w' w0 : World} {t d : Nat}

/-! ### moves: roots to places -/
abbrev MvL := List (Nat × List Nat)
def Lt (L : MvL) : List Nat → Option (List Nat)
  | k :: q => (lkp L k).map (· ++ q)
  | [] => none
def Lh : MvL → List Nat → Option (List Nat)
  | [], _ => none
  | (k, p) :: r, q => if p.isPrefixOf q = true then some (k :: q.drop p.length) else Lh r q
def mvT (T H : List Nat → Option (List Nat)) (tag : Nat → Tag) : Nat → Tag := fun b => match tag b with
  | .own q => match T q with
    | some q' => .own q'
    | none => if (H q).isSome = true then .off else .own q
  | s => s
def mvH (H : List Nat → Option (List Nat)) (hv : Hv) : Hv := fun q => match H q with
  | some q0 => hv q0
  | none => hv q
theorem lkp_of_mem {α : Type} {k : Nat} {x : α} : ∀ {L : List (Nat × α)}, (L.map (·.1)).Nodup → (k, x) ∈ L → lkp L k = some x
  | [], _, h => by cases h
  | (k', y) :: r, hn, h => by
    simp only [List.map_cons, List.nodup_cons] at hn
    simp only [lkp]
    rcases List.mem_cons.1 h with e | h
    · cases e
      simp
    · have : k' ≠ k := fun e => hn.1 (e ▸ List.mem_map.2 ⟨_, h, rfl⟩)
      rw [if_neg this]
      exact lkp_of_mem hn.2 h
theorem prefix_same {p q rest : List Nat} (hl : p.length = q.length) (h : p <+: q ++ rest) : p = q := by
  obtain ⟨t, ht⟩ := h
  exact (List.append_inj ht hl).1
theorem Lh_of {rest : List Nat} {k : Nat} {p : List Nat} : ∀ {L : MvL}, (∀ x ∈ L, x.2.length = p.length) → (∀ x ∈ L, x.2 = p → x = (k, p)) → (k, p) ∈ L → Lh L (p ++ rest) = some (k :: rest)
  | [], _, _, h => by cases h
  | (k', p') :: r, hl, hu, h => by
    simp only [Lh]
    split
    · rename_i hp
      have hp' := prefix_same (hl (k', p') (by simp)) (List.isPrefixOf_iff_prefix.1 hp)
      have := hu (k', p') (by simp) hp'
      cases this
      simp
    · rename_i hp
      rcases List.mem_cons.1 h with e | h
      · cases e
        exact absurd (List.isPrefixOf_iff_prefix.2 (List.prefix_append p rest)) hp
      · exact Lh_of (fun x hx => hl x (by simp [hx])) (fun x hx => hu x (by simp [hx])) h
theorem Lh_none {q : List Nat} : ∀ {L : MvL}, (∀ x ∈ L, x.2.isPrefixOf q = false) → Lh L q = none
  | [], _ => rfl
  | (k', p') :: r, h => by
    simp only [Lh]
    rw [if_neg (by simp [h (k', p') (by simp)])]
    exact Lh_none fun x hx => h x (by simp [hx])
theorem lkp_none_keys {α : Type} {k : Nat} : ∀ {L : List (Nat × α)}, (L.map (·.1)).contains k = false → lkp L k = none
  | [], _ => rfl
  | (k', x) :: r, h => by
    simp only [List.map_cons, List.contains_cons, Bool.or_eq_false_iff, beq_eq_false_iff_ne, ne_eq] at h
    simp only [lkp]
    rw [if_neg (fun e => h.1 e.symm)]
    exact lkp_none_keys h.2

/-- The moves of a store. -/
def mvs (p : List Nat) (i : Nat) : Nat → List LV → MvL
  | _, [] => []
  | j, .r [k] :: r => (k, p ++ [i, j]) :: mvs p i (j + 1) r
  | j, _ :: r => mvs p i (j + 1) r
theorem mvs_mem {p : List Nat} {i : Nat} {x : Nat × List Nat} : ∀ {ls : List LV} {j : Nat}, x ∈ mvs p i j ls → ∃ t, ls[t]? = some (.r [x.1]) ∧ x.2 = p ++ [i, j + t]
  | [], j, h => by simp [mvs] at h
  | y :: r, j, h => by
    have hr : x ∈ mvs p i (j + 1) r → ∃ t, (y :: r)[t]? = some (.r [x.1]) ∧ x.2 = p ++ [i, j + t] := fun h => by
      obtain ⟨t, h1, h2⟩ := mvs_mem h
      exact ⟨t + 1, by simpa using h1, by rw [h2, show j + 1 + t = j + (t + 1) by omega]⟩
    unfold mvs at h
    split at h
    · cases ‹_ :: _ = []›
    · rename_i heq
      injection heq with h1 h2
      subst h1
      subst h2
      rcases List.mem_cons.1 h with rfl | h
      · exact ⟨0, rfl, rfl⟩
      · exact hr h
    · rename_i heq
      injection heq with h1 h2
      subst h1
      subst h2
      exact hr h
theorem mvs_of {p : List Nat} {i k : Nat} : ∀ {ls : List LV} {j t : Nat}, ls[t]? = some (.r [k]) → (k, p ++ [i, j + t]) ∈ mvs p i j ls
  | [], j, t, h => by simp at h
  | y :: r, j, 0, h => by
    simp only [List.getElem?_cons_zero, Option.some.injEq] at h
    subst h
    simp [mvs]
  | y :: r, j, t + 1, h => by
    simp only [List.getElem?_cons_succ] at h
    have := mvs_of (p := p) (i := i) (j := j + 1) h
    rw [show j + 1 + t = j + (t + 1) by omega] at this
    unfold mvs
    split
    · cases ‹_ :: _ = []›
    · rename_i heq
      injection heq with h1 h2
      subst h2
      exact List.mem_cons_of_mem _ this
    · rename_i heq
      injection heq with h1 h2
      subst h2
      exact this

/-- What is stored, as a cell of the tree. -/
def Env.yv (E : Env) : LV → Option (Md × Lf)
  | .s l => some (.s, l)
  | .n z => some (.s, .ls z [])
  | .u => some (.x, default)
  | .r [k] => lkp E.rt k
  | .r _ => none
def Env.yvs (E : Env) : List LV → Option (List (Md × Lf))
  | [] => some []
  | y :: r => match E.yv y, E.yvs r with
    | some x, some xs => some (x :: xs)
    | _, _ => none
theorem yvs_len : ∀ {ls : List LV} {ys : List (Md × Lf)}, E.yvs ls = some ys → ys.length = ls.length
  | [], ys, h => by simp only [Env.yvs, Option.some.injEq] at h; subst h; rfl
  | y :: r, ys, h => by
    simp only [Env.yvs] at h
    split at h
    · rename_i x xs h1 h2
      cases h
      simp [yvs_len h2]
    · cases h
theorem yvs_get : ∀ {ls : List LV} {ys : List (Md × Lf)} {j : Nat} {y : Md × Lf}, E.yvs ls = some ys → ys[j]? = some y → ∃ x, ls[j]? = some x ∧ E.yv x = some y
  | [], ys, j, y, h, hj => by simp only [Env.yvs, Option.some.injEq] at h; subst h; simp at hj
  | x :: r, ys, j, y, h, hj => by
    simp only [Env.yvs] at h
    split at h
    · rename_i x1 xs h1 h2
      cases h
      cases j with
      | zero =>
        simp only [List.getElem?_cons_zero, Option.some.injEq] at hj
        subst hj
        exact ⟨x, rfl, h1⟩
      | succ j =>
        simp only [List.getElem?_cons_succ] at hj
        obtain ⟨u1, h3, h4⟩ := yvs_get h2 hj
        exact ⟨u1, by simpa using h3, h4⟩
    · cases h

theorem mvT_sh {T H : List Nat → Option (List Nat)} {b : Nat} (h : tag b = .sh) : mvT T H tag b = .sh := by simp [mvT, h]
theorem mvT_off {T H : List Nat → Option (List Nat)} {b : Nat} (h : tag b = .off) : mvT T H tag b = .off := by simp [mvT, h]
theorem mvT_own {T H : List Nat → Option (List Nat)} {b : Nat} {q : List Nat} (h : tag b = .own q) (h1 : T q = none) (h2 : H q = none) : mvT T H tag b = .own q := by simp [mvT, h, h1, h2]
theorem mvT_mv {T H : List Nat → Option (List Nat)} {b : Nat} {q q' : List Nat} (h : tag b = .own q) (h1 : T q = some q') : mvT T H tag b = .own q' := by simp [mvT, h, h1]
theorem mvH_none {H : List Nat → Option (List Nat)} {q : List Nat} (h : H q = none) : mvH H hv q = hv q := by simp [mvH, h]
theorem mvH_some {H : List Nat → Option (List Nat)} {q q0 : List Nat} (h : H q = some q0) : mvH H hv q = hv q0 := by simp [mvH, h]

/-- A cell's value, under its new name, behind a step. -/
theorem yv_ok {R : Nat → Bool} {Ps Ws : List (List Nat)} (hs : St w0 tag0 E tag hv a w) (hh : Hp R Ps Ws tag tag' hv hv' w w') {x : LV} {y : Md × Lf} {c : Value} {p' : List Nat} (hy : E.yv x = some y) (hc : LR tag hv w x c)
    (hmv : ∀ k, x = .r [k] → ∀ rest, hv' (p' ++ rest) = hv (k :: rest) ∧ ∀ b, tag b = .own (k :: rest) → tag' b = .own (p' ++ rest) ∧ w'.heap[b]? = w.heap[b]?) : VR tag' hv' w' p' y.1 y.2 c := by
  cases x with
  | s l =>
    simp only [Env.yv, Option.some.injEq] at hy
    subst hy
    exact VR.hp_s hc hh hs.hi
  | n z =>
    simp only [Env.yv, Option.some.injEq] at hy
    subst hy
    rw [show c = .slice none 0 0 from hc]
    exact .sh0
  | u =>
    simp only [Env.yv, Option.some.injEq] at hy
    subst hy
    exact .dead hc
  | r q =>
    match q, hy, hc, hmv with
    | [], hy, _, _ => simp [Env.yv] at hy
    | _ :: _ :: _, hy, _, _ => simp [Env.yv] at hy
    | [k], hy, hc, hmv =>
      simp only [Env.yv] at hy
      have h1 := hs.rt k y hy
      rw [hc.1]
      refine h1.move _ (fun b hb => ?_) (fun rest _ => hmv k rfl rest)
      rcases Nat.lt_or_ge b w.heap.size with hlt | hge
      · exact hh.sh b hlt hb
      · rw [hs.hi b hge] at hb; cases hb

def Env.stPt (E : Env) (p : List Nat) (i off : Nat) (new : List LV) : Option (Prop × Env) :=
  match p with
  | r :: rest => match lkp E.rt r, E.yvs new with
    | some x, some ys => match getL rest x with
      | some (.o _ _, .ls z rows) => some (vldL rest x ∧ i < rows.length ∧ off + ys.length ≤ z.length ∧ ((mvs p i off new).map (·.1)).contains r = false ∧ ((mvs p i off new).map (·.1)).Nodup,
          E.re (fun k => ((mvs p i off new).map (·.1)).contains k) ((mvs p i off new).map (·.2)) [p] [(r, setR rest i off ys x)])
      | _ => none
    | _, _ => none
  | [] => none

theorem getL_len : ∀ {rest : List Nat} {x y : Md × Lf}, getL rest x = some y → rest.length % 2 = 0
  | [], _, _, _ => rfl
  | [_], x, _, h => by simp [getL] at h
  | i :: j :: rest, (m, l), y, h => by
    cases m with
    | o e cols => cases l with
      | ls z rows =>
        simp only [getL] at h
        have := getL_len h
        simp only [List.length_cons]
        omega
      | sc v => simp [getL] at h
    | _ => simp [getL] at h

theorem St.storePt (hT : TGood P ti) (hs : St w0 tag0 E tag hv a w) {p : List Nat} {sz i off : Nat} {new : List LV} {ag : Bool} {X V : Value} {C : Prop} {E' : Env} (hok : (ti t).ok = true)
    (hp : SR tag hv w (.p (.pt p sz i off)) X) (hv1 : VV tag hv w ag new V) (hlen : new.length = (ti t).sz) (hst : E.stPt p i off new = some (C, E')) (hC : C)
    (hsz : ∀ z, (∃ r rest x e cols rows, p = r :: rest ∧ lkp E.rt r = some x ∧ getL rest x = some (.o e cols, .ls z rows)) → z.length = sz) :
    ∃ w' tag' hv', (Instr.storeAt t X V).run P w = .ok () w' ∧ St w0 tag0 E' tag' hv' a w' := by
  have hs0 := hs
  replace hs := hs.norm
  replace hv1 := hv1.norm
  have hone : ∀ {b b' : Nat} {p : List Nat}, normT tag hv b = .own p → normT tag hv b' = .own p → b = b' := normT_one
  have hp : PR (normT tag hv) hv w (.pt p sz i off) X := PR.norm hp
  generalize normT tag hv = tag at hs hv1 hone hp
  cases p with
  | nil => simp [Env.stPt] at hst
  | cons r rest =>
    simp only [Env.stPt] at hst
    split at hst
    · rename_i x ys hx hys
      split at hst
      · rename_i e cols z rows hg
        cases hst
        obtain ⟨hvl, hi, hoff, hrk, hnd⟩ := hC
        have hzs : z.length = sz := hsz z ⟨r, rest, x, e, cols, rows, rfl, hx, hg⟩
        have hroot := hs.rt r x hx
        obtain ⟨v', h1, _⟩ := VR.get rest [r] _ _ _ _ _ hroot hvl hg
        obtain ⟨hh1, h0 | ⟨b, c, cur, rfl, hc, hm, ht, hbl, hcs, hl, hr⟩⟩ := h1.open_own
        · rw [h0.2] at hi; simp at hi
        obtain ⟨b', n', c', hp1, rfl⟩ := hp
        rw [show ([r] ++ rest) = r :: rest from rfl] at hh1 ht
        rw [hh1] at hp1
        cases hp1
        obtain ⟨cs, rfl, hcs2, hag⟩ := hv1
        have hcells := cells_mkV hcs2 hag
        have hcl : cs.length = new.length := hcs2.len.symm
        have hyl := yvs_len hys
        have hlt : i * z.length + z.length ≤ cur.size := by
          rw [hcs]
          have h1 : (i + 1) * z.length ≤ c * z.length := Nat.mul_le_mul_right _ (by omega)
          rw [Nat.add_mul] at h1
          omega
        obtain ⟨w', q1, q2, q3, q4, q5, q6, cur', q7, q8, q9⟩ := run_storeCells_blk (P := P) b e cs cur (i * sz + off) 0 w hbl (by rw [← hzs]; omega) (fun v hv => by
          obtain ⟨j, hj⟩ := List.getElem?_of_mem hv
          have hj2 : j < new.length := by rw [← hcl]; exact (List.getElem?_eq_some_iff.1 hj).1
          exact (hcs2.get j _ _ (List.getElem?_eq_getElem hj2) hj).one)
        have g := hT t hok
        have hrun : (Instr.storeAt t (.pointer (some ⟨b, i * sz + off, none⟩)) (mkV ag cs)).run P w = .ok () w' := by
          have hsz2 := g.size w
          have h10 : (mkV ag cs).cells.size = (ti t).sz := by rw [← Array.length_toList, hcells, hcl, hlen]
          simp only [Instr.storeAt, Instr.sureAddr, Sem.run_bind, Sem.run_pure, Result.andThen_ok, storeVar, hsz2, h10, ne_eq, not_true_eq_false, if_false, hcells]
          exact q1
        have hneb : ∀ b', tag b' ≠ .own (r :: rest) → w'.heap[b']? = w.heap[b']? := fun b' hne => q6 b' (fun e => hne (e ▸ ht))
        generalize hL : mvs (r :: rest) i off new = L at *
        have hpre : ∀ x ∈ L, ∃ t, new[t]? = some (.r [x.1]) ∧ x.2 = (r :: rest) ++ [i, off + t] := fun x hx => mvs_mem (by rw [hL]; exact hx)
        have hdl : ∀ q, dth (fun k => (L.map (·.1)).contains k) (L.map (·.2)) q = false → Lt L q = none ∧ Lh L q = none := fun q hq => by
          simp only [dth, Bool.or_eq_false_iff, List.any_eq_false] at hq
          refine ⟨?_, Lh_none fun x hx => ?_⟩
          · cases q with
            | nil => rfl
            | cons k q => simp only [Lt, lkp_none_keys hq.1, Option.map_none]
          · exact Bool.eq_false_iff.2 (hq.2 x.2 (List.mem_map.2 ⟨x, hx, rfl⟩))
        have hHp : Hp (fun k => (L.map (·.1)).contains k) (L.map (·.2)) [r :: rest] tag (mvT (Lt L) (Lh L) tag) hv (mvH (Lh L) hv) w w' := by
          refine ⟨fun b' _ hb' => ⟨mvT_sh hb', hneb b' (by rw [hb']; intro e; cases e)⟩, fun b' q _ hb' hq => ?_, fun b' _ hb' => ⟨mvT_off hb', hneb b' (by rw [hb']; intro e; cases e)⟩, fun q hq => mvH_none (hdl q hq).2, q2, q3, q4, by omega, fun b' hb' => mvT_off (hs.hi b' (by omega))⟩
          refine ⟨mvT_own hb' (hdl q hq).1 (hdl q hq).2, fun hm => hneb b' ?_⟩
          rw [hb']
          intro e
          injection e with e
          exact hm (by simp [e])
        have hLh : ∀ q, (∀ j, j < ys.length → ¬ (rest ++ [i, off + j]) <+: q) → Lh L (r :: q) = none := fun q hq => Lh_none fun x hx => by
          obtain ⟨t, h1, h2⟩ := hpre x hx
          cases hz : x.2.isPrefixOf (r :: q) with
          | false => rfl
          | true =>
            exfalso
            have h3 := List.isPrefixOf_iff_prefix.1 hz
            rw [h2] at h3
            obtain ⟨u, hu⟩ := h3
            simp only [List.cons_append, List.cons.injEq, true_and] at hu
            exact hq t (by rw [hyl]; exact (List.getElem?_eq_some_iff.1 h1).1) ⟨u, by simpa using hu⟩
        have hLt : ∀ q, Lt L (r :: q) = none := fun q => by simp only [Lt, lkp_none_keys hrk, Option.map_none]
        refine ⟨w', mvT (Lt L) (Lh L) tag, mvH (Lh L) hv, hrun, hs.re hHp (fun q hq => ?_) (fun r' y hl' => ?_)⟩
        · simp only [List.mem_singleton] at hq
          subst hq
          have := getL_len hg
          simp only [List.length_cons]
          omega
        · simp only [lkp] at hl'
          split at hl'
          · rename_i he
            subst he
            cases hl'
            have hhr : mvH (Lh L) hv [r] = hv [r] := mvH_none (hLh [] (fun j _ hp => by
              obtain ⟨u, hu⟩ := hp
              simp at hu))
            rw [hhr]
            refine VR.updR (us := cs) hi hoff rest [r] x.1 x.2 _ hroot hvl hg (fun b' hb' => ⟨mvT_sh hb', hneb b' (by rw [hb']; intro e; cases e)⟩) (fun q hq hnp => ?_) (fun b' cur1 ht' hb' => ?_) (fun j y hy => ?_)
            · refine ⟨mvH_none (hLh q hnp), fun b' hb' => ⟨mvT_own hb' (hLt q) (hLh q hnp), fun hne => hneb b' ?_⟩⟩
              rw [hb']
              intro e
              injection e with e
              exact hne (by simpa using e)
            · have hbb := hone ht' ht
              subst hbb
              rw [hbl] at hb'
              cases hb'
              refine ⟨cur', q7, q8, fun k => ?_⟩
              rw [q9 k, hzs, Nat.add_zero, hyl, hcl]
            · obtain ⟨x1, hx1, hx2⟩ := yvs_get hys hy
              have hj : j < cs.length := by rw [hcl]; exact (List.getElem?_eq_some_iff.1 hx1).1
              have hcj : cs[j]? = some cs[j] := List.getElem?_eq_getElem hj
              have : cs.getD j default = cs[j] := by rw [List.getD_eq_getElem?_getD, hcj]; rfl
              rw [this]
              refine yv_ok hs hHp hx2 (hcs2.get j x1 _ hx1 hcj) (fun k hk rest' => ?_)
              subst hk
              have hmem : (k, (r :: rest) ++ [i, off + j]) ∈ L := by rw [← hL]; exact mvs_of hx1
              have hlk := lkp_of_mem hnd hmem
              have hkr : k ≠ r := fun e => by
                rw [e] at hlk
                rw [lkp_none_keys hrk] at hlk
                cases hlk
              refine ⟨?_, fun b' hb' => ⟨?_, hneb b' ?_⟩⟩
              · have := Lh_of (rest := rest') (fun x hx => by
                  obtain ⟨t, _, h2⟩ := hpre x hx
                  rw [h2]; simp) (fun x hx he => by
                  obtain ⟨t, h1, h2⟩ := hpre x hx
                  have h3 : off + t = off + j := by
                    have := h2.symm.trans he
                    simpa using this
                  have h4 : t = j := by omega
                  subst h4
                  rw [hx1] at h1
                  cases h1
                  exact Prod.ext rfl he) hmem
                have e2 : [r] ++ rest ++ [i, off + j] = (r :: rest) ++ [i, off + j] := rfl
                rw [e2, mvH_some this]
              · refine mvT_mv hb' ?_
                simp only [Lt, hlk, Option.map_some]
                rfl
              · rw [hb']
                intro e
                injection e with e
                injection e with e
                exact hkr e
          · cases hl'
      · cases hst
    · cases hst
end Go.Sm
