import Derived.Test.YtkciklpdhhcblaaGreatSmG
/-
  append.
-/
namespace Go.Sm
open Go.RowKit

variable {P : Program} {ti : TT} {E : Env} {tag tag' tag0 : Nat → Tag} {hv hv' : Hv} {a : Act} {w w' w0 : World} {t d : Nat}

/-- What is appended to: its name, its rows, their modes. -/
def Env.appB (E : Env) (e : Nat) : LV → Option (Prop × List (List Lf) × (Nat → List Md) × Option Nat)
  | .n _ => some (True, [], fun _ => [], none)
  | .r [k] => match lkp E.rt k with
    | some (.o e' cols, .ls _ rows) => some (e' = e, rows, cols, some k)
    | _ => none
  | _ => none
def appC (n : Nat) (k : Option Nat) (c1 c2 : Nat → List Md) : Nat → List Md := match k with
  | none => c2
  | some _ => fun i => if i < n then c1 i else c2 (i - n)
def appZ (ti : TT) (E : Env) (e : Nat) : LV → Option (List Lf)
  | .n _ => some (ti e).z
  | .r [k] => match lkp E.rt k with
    | some (.o _ _, .ls z _) => some z
    | _ => none
  | _ => none
def appR (d : Nat) (k kill : Option Nat) : Nat → Bool := fun r => fam d r || (k == some r || kill == some r)
def appO (ti : TT) (E : Env) (d t1 t2 : Nat) (s x : Operand) : Option (Prop × Env) :=
  match opd ti E t1 s, opd ti E t2 x, (ti t1).elt with
  | some (.v false [b]), some sv, some e => match E.appB e b, appZ ti E e b with
    | some (C1, rows, cols, k), some z => match E.appS ti z t2 sv with
      | some (C2, rows', cols', kill) => some ((ti t1).ok = true ∧ (ti t2).ok = true ∧ (ti e).ok = true ∧ (ti e).sz = z.length ∧ d < 1000 ∧ C1 ∧ C2 ∧ (rows.length + rows'.length) * (ti e).by_ ≤ 140737488355328 ∧ (∀ r, kill = some r → k ≠ some r),
          E.re (appR d k kill) [] [] [(d, .o e (appC rows.length k cols cols'), .ls z (rows ++ rows'))])
      | none => none
    | _, _ => none
  | _, _, _ => none

def appT (d n : Nat) (k kill : Option Nat) : List Nat → Option (List Nat)
  | [] => none
  | x :: rest => if k = some x then some (d :: rest) else if kill = some x then (match rest with
    | i :: j :: r => some (d :: (n + i) :: j :: r)
    | _ => none) else none
def appH (d n : Nat) (k kill : Option Nat) : List Nat → Option (List Nat)
  | x :: i :: j :: r => if x = d then (if i < n then k.map (fun k => k :: i :: j :: r) else kill.map (fun t => t :: (i - n) :: j :: r)) else none
  | _ => none

theorem lf_app {z : List Lf} {rows rows' : List (List Lf)} {i j : Nat} (hi : i < rows.length) : lf z (rows ++ rows') i j = lf z rows i j := by
  simp only [lf]
  rw [List.getD_eq_getElem?_getD (l := rows ++ rows'), List.getElem?_append_left hi, ← List.getD_eq_getElem?_getD]
theorem lf_app' {z : List Lf} {rows rows' : List (List Lf)} {i j : Nat} (hi : ¬ i < rows.length) : lf z (rows ++ rows') i j = lf z rows' (i - rows.length) j := by
  simp only [lf]
  rw [List.getD_eq_getElem?_getD (l := rows ++ rows'), List.getElem?_append_right (by omega), ← List.getD_eq_getElem?_getD]

theorem appO_ok {o : Oper} {c : Call} {s x : Operand} {t1 t2 : Nat} {C : Prop} {E' : Env} (hT : TGood P ti) (hs : St w0 tag0 E tag hv a w) (ho : o.op = .call c) (hc : c = { callee := .builtin .append, args := #[s, x], argTypes := #[t1, t2] })
    (h : appO ti E d t1 t2 s x = some (C, E')) (hC : C) : ∃ v w' tg hh, (execOp a.eval o).run P w = .ok (.value v) w' ∧ St w0 tag0 E' tg hh a w' ∧ SR tg hh w' (.v false [.r [d]]) v := by
  unfold appO at h
  split at h
  · rename_i b sv e hb hx he
    split at h
    · rename_i C1 rows cols k z hB hZ
      split at h
      · rename_i C2 rows' cols' kill hS
        cases h
        obtain ⟨ht1, ht2, hek, hz, hd, hC1, hC2, hby, hkk⟩ := hC
        have g1 := hT t1 ht1
        have ge := hT e hek
        have hund := elt_und g1 he
        obtain ⟨y, h1, h2, h3, h4⟩ := ge.inf
        have hpos : 0 < z.length := by rw [← hz]; exact ge.pos
        have hsrc := appS_ok hT hs ht2 hpos hS hC2 (opd_ok hs hx)
        obtain ⟨⟨news, hnews, hncell⟩, hnlen⟩ := hsrc
        -- the base
        have hbase : ∃ v xs, a.eval s = v ∧ w.ownsRow 0 e z.length v rows.length xs ∧ (∀ i, i < rows.length → (rows.getD i z).length = z.length) ∧ (∀ g, v.ownBlock = some g → ∃ kk, k = some kk ∧ tag g = .own [kk]) ∧
            (∀ kk, k = some kk → ∀ i j, i < rows.length → j < z.length → VR tag hv w [kk, i, j] (md cols i j) (lf z rows i j) (xs.getD (i * z.length + j) default)) ∧ (k = none → rows = []) := by
          have hbv := VV_open (opd_ok hs hb)
          unfold Env.appB at hB
          split at hB
          · cases hB
            refine ⟨_, [], rfl, ?_, fun i hi => by simp at hi, fun g hg => ?_, (fun kk hk i j hi _ => by simp at hi), fun _ => rfl⟩
            · rw [show a.eval s = .slice none 0 0 from hbv]
              exact World.ownsRow_nil w 0 e z.length
            · rw [show a.eval s = .slice none 0 0 from hbv] at hg
              cases hg
          · rename_i kk
            split at hB
            · rename_i e' cols1 z1 rows1 hk
              cases hB
              have hz1 : z1 = z := by
                simp only [appZ, hk, Option.some.injEq] at hZ
                exact hZ
              subst hz1
              have hC1' : e' = e := hC1
              subst hC1'
              have h5 := hs.rt kk _ hk
              have hev : a.eval s = hv [kk] := hbv.1
              obtain ⟨_, ⟨h6, rfl⟩ | ⟨b1, c1, cur, h6, hc1, hm, htb, hbl, hcs, hl, hr⟩⟩ := h5.open_own
              · refine ⟨_, [], rfl, ?_, fun i hi => by simp at hi, fun g hg => ?_, fun kk' hk' i j hi => by simp at hi, fun _ => rfl⟩
                · rw [hev, h6]
                  exact World.ownsRow_nil w 0 e' z1.length
                · rw [hev, h6] at hg
                  cases hg
              · have hle : rows.length * z1.length ≤ cur.size := by rw [hcs]; exact Nat.mul_le_mul_right _ hc1
                refine ⟨_, cur.toList.take (rows.length * z1.length), rfl, ⟨by simp; omega, .inr ⟨b1, c1, cur, by rw [hev, h6], Nat.zero_le _, hbl, hc1, hm, hcs, rfl⟩⟩, hl, fun g hg => ?_, fun kk' hk' i j hi hj => ?_, fun hk' => by cases hk'⟩
                · rw [hev, h6] at hg
                  cases hg
                  exact ⟨kk, rfl, htb⟩
                · cases hk'
                  have h7 := hr i j hi hj
                  have hlt : i * z1.length + j < rows.length * z1.length := by
                    have h1 : (i + 1) * z1.length ≤ rows.length * z1.length := Nat.mul_le_mul_right _ (by omega)
                    rw [Nat.add_mul] at h1
                    omega
                  rw [List.getD_eq_getElem?_getD, List.getElem?_take, if_pos hlt, Array.getElem?_toList, ← Array.getD_eq_getD_getElem?]
                  exact h7
            · cases hB
          · cases hB
        obtain ⟨v, xs, hev, hown, hrl, hblk, hbc, hkn⟩ := hbase
        have hzc : (ti e).zv.cells.size = z.length := by
          rw [← Array.length_toList, ← (zLV_ok (tag := tag) (hv := hv) (w := w) ge).len, ← hz]
          simpa using ge.zl
        have h63 : rows.length + rows'.length ≤ maxLen := by
          have := ge.posb
          have h5 : (rows.length + rows'.length) * 1 ≤ (rows.length + rows'.length) * (ti e).by_ := Nat.mul_le_mul_left _ this
          simp [maxLen]
          omega
        obtain ⟨v', w', hrun, hown', hgrow, hnil, hat⟩ := run_append_own_src (P := P) w 0 t1 t2 o.type e y (ti e).zv z.length (ti e).by_ hund h1 h4 (by rw [h2, hz]) h3 hzc hpos v rows.length xs hown (a.eval x) rows'.length news hnews h63 hby (Nat.zero_le _)
        have hex : (execOp a.eval o).run P w = .ok (.value v') w' := by
          subst hc
          simp only [execOp, ho, resolve, invoke, builtin, Sem.run_bind, Sem.run_pure, Result.andThen_ok, List.map_toArray, List.map_cons, List.map_nil, hev, hrun]
        -- the block that is written
        have hgo : ∀ b q, b < w.heap.size → tag b = .own q → dth (appR d k kill) [] q = false → v'.ownBlock ≠ some b ∧ w'.heap[b]? = w.heap[b]? := fun b q hb hq hdq => by
          have hne : v.ownBlock ≠ some b := fun e => by
            obtain ⟨kk, hk, htk⟩ := hblk b e
            rw [hq] at htk
            cases htk
            simp [dth, appR, hk] at hdq
          refine ⟨fun e => ?_, hgrow.block b hb (fun e => hne e.symm)⟩
          rcases hat with h | h
          · exact hne (h ▸ e)
          · rw [h] at e
            cases e
            omega
        have hgs : ∀ b, b < w.heap.size → (tag b = .sh ∨ tag b = .off) → v'.ownBlock ≠ some b ∧ w'.heap[b]? = w.heap[b]? := fun b hb hq => by
          have hne : v.ownBlock ≠ some b := fun e => by
            obtain ⟨kk, hk, htk⟩ := hblk b e
            rcases hq with hq | hq <;> rw [hq] at htk <;> cases htk
          refine ⟨fun e => ?_, hgrow.block b hb (fun e => hne e.symm)⟩
          rcases hat with h | h
          · exact hne (h ▸ e)
          · rw [h] at e
            cases e
            omega
        have hsub : ∀ b q, tag b = .own q → q.length ≠ 1 → b < w.heap.size ∧ v'.ownBlock ≠ some b ∧ w'.heap[b]? = w.heap[b]? := fun b q hq hl => by
          have hb : b < w.heap.size := by
            rcases Nat.lt_or_ge b w.heap.size with h | h
            · exact h
            · rw [hs.hi b h] at hq; cases hq
          have hne : v.ownBlock ≠ some b := fun e => by
            obtain ⟨kk, hk, htk⟩ := hblk b e
            rw [hq] at htk
            cases htk
            exact hl rfl
          refine ⟨hb, fun e => ?_, hgrow.block b hb (fun e => hne e.symm)⟩
          rcases hat with h | h
          · exact hne (h ▸ e)
          · rw [h] at e
            cases e
            omega
        have hdl : ∀ q, dth (appR d k kill) [] q = false → appT d rows.length k kill q = none ∧ appH d rows.length k kill q = none ∧ q ≠ [d] := fun q hq => by
          cases q with
          | nil => simp [dth] at hq
          | cons r q =>
            simp only [dth, appR, List.any_nil, Bool.or_false, Bool.or_eq_false_iff, beq_eq_false_iff_ne, ne_eq] at hq
            have hrd : r ≠ d := fun e => by
              subst e
              have := hq.1
              simp [fam] at this
              omega
            refine ⟨by simp [appT, hq.2.1, hq.2.2], ?_, fun e => hrd (by injection e)⟩
            unfold appH
            split
            · rename_i heq
              injection heq with e1 e2
              rw [if_neg (by rw [← e1]; exact hrd)]
            · rfl
        have hg' : ∀ g, v'.ownBlock = some g → g < w'.heap.size := fun g hg => by
          rcases hown'.2 with ⟨h5, _⟩ | ⟨g', cap', cur', h5, _, h6, _⟩
          · rw [h5] at hg; cases hg
          · rw [h5] at hg
            cases hg
            exact (Array.getElem?_eq_some_iff.1 h6).1
        let tg : Nat → Tag := fun b => if v'.ownBlock = some b then .own [d] else mvT (appT d rows.length k kill) (appH d rows.length k kill) tag b
        let hh : Hv := fun q => if q = [d] then v' else mvH (appH d rows.length k kill) hv q
        have hHp : Hp (appR d k kill) [] [] tag tg hv hh w w' := by
          refine ⟨fun b hb h => ⟨?_, (hgs b hb (.inl h)).2⟩, fun b q hb h hq => ⟨?_, fun _ => (hgo b q hb h hq).2⟩, fun b hb h => ⟨?_, (hgs b hb (.inr h)).2⟩, fun q hq => ?_, hgrow.os, hgrow.tape, hgrow.output, hgrow.size, fun b hb => ?_⟩
          · simp only [tg, if_neg (hgs b hb (.inl h)).1]
            exact mvT_sh h
          · simp only [tg, if_neg (hgo b q hb h hq).1]
            exact mvT_own h (hdl q hq).1 (hdl q hq).2.1
          · simp only [tg, if_neg (hgs b hb (.inr h)).1]
            exact mvT_off h
          · simp only [hh, if_neg (hdl q hq).2.2]
            exact mvH_none (hdl q hq).2.1
          · have hne : v'.ownBlock ≠ some b := fun e => by
              have := hg' b e
              omega
            have := hgrow.size
            simp only [tg, if_neg hne]
            exact mvT_off (hs.hi b (by omega))
        have hv'd : hh [d] = v' := by simp [hh]
        refine ⟨v', w', tg, hh, hex, hs.re hHp (by simp) (fun r yy hl' => ?_), ?_⟩
        · simp only [lkp] at hl'
          split at hl'
          · rename_i hrd
            subst hrd
            cases hl'
            rw [hv'd]
            rcases hown'.2 with ⟨rfl, h0⟩ | ⟨g', cap', cur', rfl, _, h6, h7, h8, h9, h10⟩
            · have hr0 : rows = [] := List.eq_nil_of_length_eq_zero (by omega)
              have hr0' : rows' = [] := List.eq_nil_of_length_eq_zero (by omega)
              simp only [hr0, hr0', List.append_nil]
              exact .own0 hv'd
            · have hxl := hown.1
              have hnl := hnews.newsLen
              have hcur : ∀ p, p < (rows.length + rows'.length) * z.length → cur'.getD p default = (xs ++ news).getD p default := fun p hp => by
                rw [← h10, List.getD_eq_getElem?_getD, List.getElem?_take, if_pos hp, Array.getElem?_toList, ← Array.getD_eq_getD_getElem?]
              refine .own cur' (by simp) h7 h8 (by simp [tg, Value.ownBlock]) hv'd h6 h9 (fun i hi => ?_) (fun i j hi hj => ?_)
              · by_cases hin : i < rows.length
                · have := hrl i hin
                  rw [List.getD_eq_getElem?_getD] at this ⊢
                  rw [List.getElem?_append_left hin]
                  exact this
                · have := hnlen (i - rows.length) (by omega)
                  rw [List.getD_eq_getElem?_getD] at this ⊢
                  rw [List.getElem?_append_right (by omega)]
                  exact this
              · have hlt : i * z.length + j < (rows.length + rows'.length) * z.length := by
                  have h1 : (i + 1) * z.length ≤ (rows.length + rows'.length) * z.length := Nat.mul_le_mul_right _ (by omega)
                  rw [Nat.add_mul] at h1
                  omega
                rw [hcur _ hlt]
                by_cases hin : i < rows.length
                · have hlx : i * z.length + j < xs.length := by
                    rw [hxl]
                    have h1 : (i + 1) * z.length ≤ rows.length * z.length := Nat.mul_le_mul_right _ (by omega)
                    rw [Nat.add_mul] at h1
                    omega
                  obtain ⟨kk, hkk'⟩ : ∃ kk, k = some kk := by
                    cases k with
                    | none => have := hkn rfl; rw [this] at hin; simp at hin
                    | some kk => exact ⟨kk, rfl⟩
                  subst hkk'
                  have h11 := hbc kk rfl i j hin hj
                  rw [lf_app hin, show md (appC rows.length (some kk) cols cols') i j = md cols i j by simp [md, appC, hin]]
                  rw [List.getD_eq_getElem?_getD (l := xs ++ news), List.getElem?_append_left hlx, ← List.getD_eq_getElem?_getD]
                  refine h11.move _ (fun b hb => ?_) (fun rest _ => ⟨?_, fun b hb => ?_⟩)
                  · have hbl : b < w.heap.size := by
                      rcases Nat.lt_or_ge b w.heap.size with h | h
                      · exact h
                      · rw [hs.hi b h] at hb; cases hb
                    exact hHp.sh b hbl hb
                  · simp [hh, mvH, appH, hin]
                  · obtain ⟨q1, q2, q3⟩ := hsub b _ hb (by simp)
                    refine ⟨?_, q3⟩
                    simp only [tg, if_neg q2]
                    exact mvT_mv hb (by simp [appT])
                · have hlx : xs.length ≤ i * z.length + j := by
                    rw [hxl]
                    have h1 : rows.length * z.length ≤ i * z.length := Nat.mul_le_mul_right _ (by omega)
                    omega
                  have hin' : i - rows.length < rows'.length := by omega
                  obtain ⟨q, h11, h12⟩ := hncell (i - rows.length) j hin' hj
                  have hcols : md (appC rows.length k cols cols') i j = md cols' (i - rows.length) j := by
                    cases k with
                    | none =>
                      have := hkn rfl
                      simp [md, appC, this]
                    | some kk => simp [md, appC, hin]
                  rw [lf_app' hin, hcols]
                  rw [List.getD_eq_getElem?_getD (l := xs ++ news), List.getElem?_append_right hlx, ← List.getD_eq_getElem?_getD, hxl,
                    show i * z.length + j - rows.length * z.length = (i - rows.length) * z.length + j by
                      rw [Nat.sub_mul]
                      have h1 : rows.length * z.length ≤ i * z.length := Nat.mul_le_mul_right _ (by omega)
                      omega]
                  rcases h12 with h12 | ⟨r, rfl, rfl⟩
                  · rw [h12] at h11 ⊢
                    exact VR.hp_s h11 hHp hs.hi
                  · refine h11.move _ (fun b hb => ?_) (fun rest _ => ⟨?_, fun b hb => ?_⟩)
                    · have hbl : b < w.heap.size := by
                        rcases Nat.lt_or_ge b w.heap.size with h | h
                        · exact h
                        · rw [hs.hi b h] at hb; cases hb
                      exact hHp.sh b hbl hb
                    · simp [hh, mvH, appH, hin]
                    · obtain ⟨q1, q2, q3⟩ := hsub b _ hb (by simp)
                      refine ⟨?_, q3⟩
                      simp only [tg, if_neg q2]
                      refine mvT_mv hb ?_
                      simp only [appT, List.cons_append, List.nil_append]
                      rw [if_neg (hkk r rfl)]
                      simp only [if_true, show rows.length + (i - rows.length) = i by omega]
          · cases hl'
        · refine VV_one ⟨hv'd.symm, ?_⟩
          rcases hown'.2 with ⟨rfl, h0⟩ | ⟨g', cap', cur', rfl, _⟩ <;> exact ⟨_, _, _, rfl⟩
      · cases h
    · cases h
  · cases h
end Go.Sm
