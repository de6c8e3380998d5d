import Derived.Test.YtkciklpdhhcblaaGreatSm16
import Derived.Test.YtkciklpdhhcblaaGreatSmQ
/-
  A function's contract out of its code's weakest precondition.
-/
namespace Go.Sm
open Go.RowKit
set_option linter.unusedVariables false
set_option linter.unusedSimpArgs false

variable {P : Program} {ti : TT} {E : Env} {tag tag' tag0 : Nat → Tag} {hv hv' : Hv} {a : Act} {w w' w0 : World} {t d : Nat}

def numL {α : Type} : Nat → List α → List (Nat × α)
  | _, [] => []
  | n, x :: r => (n, x) :: numL (n + 1) r
theorem lkp_numL {α : Type} : ∀ (l : List α) (n t : Nat) (x : α), lkp (numL n l) t = some x → n ≤ t ∧ l[t - n]? = some x
  | [], _, _, _, h => by simp [numL, lkp] at h
  | y :: r, n, t, x, h => by
    simp only [numL, lkp] at h
    split at h
    · rename_i he
      subst he
      cases h
      simp
    · rename_i hne
      obtain ⟨h1, h2⟩ := lkp_numL r (n + 1) t x h
      refine ⟨by omega, ?_⟩
      rw [show t - n = (t - (n + 1)) + 1 by omega]
      simpa using h2

/-- Where a frame begins. -/
def env0 (nt : Nat) (as : List SV) : Env := { nt, sl := numL 0 as, bx := [], rt := [] }

def resOne (ti : TT) (E : Env) : ResultVar → Option (Prop × Bool × List LV)
  | .tmp t => match lkp E.sl t with
    | some (.v ag ls) => some (True, ag, ls)
    | _ => none
  | .cell t T => match lkp E.sl t with
    | some (.p (.bx b off)) => match lkp E.bx b with
      | some ls => some ((ti T).ok = true ∧ off + (ti T).sz ≤ ls.length, (ti T).agg, (ls.drop off).take (ti T).sz)
      | none => none
    | _ => none
def LOk (E : Env) : LV → Md → Lf → Prop
  | .s l, .s, l' => l = l'
  | .n _, .s, .ls _ rows => rows = []
  | .n _, .o _ _, .ls _ rows => rows = []
  | .r [r], .o e cols, l => lkp E.rt r = some (.o e cols, l)
  | _, _, _ => False
def LsOk (E : Env) : List LV → ML → Prop
  | [], [] => True
  | y :: r, (m, l) :: q => LOk E y m l ∧ LsOk E r q
  | _, _ => False
def nmO : LV → Md → Option Nat
  | .r [r], .o _ _ => some r
  | _, _ => none
def nmsL : List LV → ML → List (Option Nat)
  | y :: r, (m, _) :: q => nmO y m :: nmsL r q
  | _, _ => []
/-- The results are what is said; and the names of the slices of the call's own among them. -/
def resOk (ti : TT) (E : Env) : List ResultVar → List (Bool × ML) → Prop
  | [], [] => True
  | v :: r, (ag, ml) :: q => (match resOne ti E v with | some (C, ag', ls) => C ∧ ag' = ag ∧ LsOk E ls ml ∧ (ag = false → ml.length = 1) | none => False) ∧ resOk ti E r q
  | _, _ => False
def nmsR (ti : TT) (E : Env) : List ResultVar → List (Bool × ML) → List (Option Nat)
  | v :: r, (_, ml) :: q => (match resOne ti E v with | some (_, _, ls) => nmsL ls ml | none => []) ++ nmsR ti E r q
  | _, _ => []

def idxN : List (Option Nat) → Nat → Option Nat
  | [], _ => none
  | x :: r, n => if x = some n then some 0 else (idxN r n).map (· + 1)
theorem idxN_of : ∀ {l : List (Option Nat)} {j n : Nat}, (l.filterMap id).Nodup → l[j]? = some (some n) → idxN l n = some j
  | [], _, _, _, h => by simp at h
  | x :: r, 0, n, _, h => by
    simp only [List.getElem?_cons_zero, Option.some.injEq] at h
    simp [idxN, h]
  | x :: r, j + 1, n, hn, h => by
    simp only [List.getElem?_cons_succ] at h
    have hmem : n ∈ r.filterMap id := List.mem_filterMap.2 ⟨some n, List.mem_of_getElem? h, rfl⟩
    have hne : x ≠ some n := by
      rintro rfl
      simp only [List.filterMap_cons, id_eq, List.nodup_cons] at hn
      exact hn.1 hmem
    have hn' : (r.filterMap id).Nodup := by
      cases x with
      | none => simpa using hn
      | some y => simp only [List.filterMap_cons, id_eq, List.nodup_cons] at hn; exact hn.2
    simp [idxN, hne, idxN_of hn' h]

def tagR (nm : List (Option Nat)) (tag : Nat → Tag) : Nat → Tag := fun b => match tag b with
  | .own (r :: rest) => match idxN nm r with
    | some j => .own (j :: rest)
    | none => .off
  | .own [] => .off
  | s => s
def hvR (nm : List (Option Nat)) (hv : Hv) : Hv := fun p => match p with
  | j :: rest => match nm[j]? with
    | some (some r) => hv (r :: rest)
    | _ => .slice none 0 0
  | [] => .slice none 0 0

theorem LOk_ok {nm : List (Option Nat)} (hnd : (nm.filterMap id).Nodup) (hs : St w0 tag0 E tag hv a w) {y : LV} {m : Md} {l : Lf} {v : Value} {j : Nat} (h : LOk E y m l) (hj : nm[j]? = some (nmO y m)) (hv0 : LR tag hv w y v) :
    VR (tagR nm tag) (hvR nm hv) w [j] m l v := by
  unfold LOk at h
  split at h
  · subst h
    exact VR.move hv0 [j] (fun b hb => ⟨by simp [tagR, hb], rfl⟩) (fun rest hr => by cases hr)
  · subst h
    rw [show v = .slice none 0 0 from hv0]
    exact .sh0
  · subst h
    rw [show v = .slice none 0 0 from hv0]
    refine .own0 ?_
    simp only [nmO] at hj
    simp [hvR, hj]
  · rename_i r e cols
    have h1 := hs.rt r _ h
    rw [hv0.1]
    simp only [nmO] at hj
    refine h1.move [j] (fun b hb => ⟨by simp [tagR, hb], rfl⟩) (fun rest _ => ⟨?_, fun b hb => ⟨?_, rfl⟩⟩)
    · simp [hvR, hj]
    · have hb' : tag b = .own (r :: rest) := by simpa using hb
      simp [tagR, hb', idxN_of hnd hj]
  · exact h.elim
theorem LsOk_ok {nm : List (Option Nat)} (hnd : (nm.filterMap id).Nodup) (hs : St w0 tag0 E tag hv a w) : ∀ {ls : List LV} {ml : ML} {cs : List Value} {b : Nat}, LsOk E ls ml → (∀ j x, (nmsL ls ml)[j]? = some x → nm[b + j]? = some x) → All2 (LR tag hv w) ls cs → RC (tagR nm tag) (hvR nm hv) w b ml cs
  | [], [], cs, b, _, _, hc => by cases hc; trivial
  | [], _ :: _, cs, b, h, _, _ => by simp [LsOk] at h
  | _ :: _, [], cs, b, h, _, _ => by simp [LsOk] at h
  | y :: r, (m, l) :: q, cs, b, h, hn, hc => by
    cases hc with
    | cons h1 h2 =>
      refine ⟨LOk_ok hnd hs h.1 (hn 0 _ rfl) h1, LsOk_ok hnd hs h.2 (fun j x hj => ?_) h2⟩
      have := hn (j + 1) x (by simpa [nmsL] using hj)
      rwa [show b + (j + 1) = b + 1 + j by omega] at this

theorem nmsL_len : ∀ {ls : List LV} {ml : ML}, LsOk E ls ml → (nmsL ls ml).length = ml.length
  | [], [], _ => rfl
  | [], _ :: _, h => by simp [LsOk] at h
  | _ :: _, [], h => by simp [LsOk] at h
  | y :: r, (m, l) :: q, h => by simp [nmsL, nmsL_len h.2]

def resV (tmps : Array Value) : ResultVar → Sem Value
  | .tmp t => pure (tmps.getD t undef)
  | .cell x t => do loadVar t (← asAddr (tmps.getD x undef))
theorem results_eq (fn : Func) (tmps : Array Value) : results fn tmps = (do let vs ← fn.results.mapM (resV tmps); pure (if h : vs.size = 1 then vs[0] else .tuple vs)) := by
  unfold results
  congr 1

theorem resOne_ok (hT : TGood P ti) (hs : St w0 tag0 E tag hv a w) {r : ResultVar} {C : Prop} {ag : Bool} {ls : List LV} (h : resOne ti E r = some (C, ag, ls)) (hC : C) :
    ∃ v, (resV a.tmps r).run P w = .ok v w ∧ ∃ cs, v = mkV ag cs ∧ All2 (LR tag hv w) ls cs := by
  unfold resOne at h
  split at h
  · rename_i t
    split at h
    · rename_i ag' ls' hl
      cases h
      obtain ⟨cs, h1, h2, _⟩ := hs.sl t _ hl
      exact ⟨_, rfl, cs, h1, h2⟩
    · cases h
  · rename_i t T
    split at h
    · rename_i b off hl
      split at h
      · rename_i ls' hb
        cases h
        obtain ⟨k, h1, h2⟩ := hs.sl t _ hl
        obtain ⟨k', cur, e, h3, ht, hbl, hall⟩ := hs.bx b ls' hb
        rw [h1] at h3
        cases h3
        have g := hT T hC.1
        have hlen : off + (ti T).sz ≤ cur.toList.length := by rw [← hall.len]; exact hC.2
        have h4 := mkV_load (P := P) (w := w) (agg := (ti T).agg) g rfl k off ((cur.toList.drop off).take (ti T).sz) (by simp only [List.length_take, List.length_drop]; omega) (fun j v hj => by
          rw [List.getElem?_take] at hj
          split at hj
          · rw [List.getElem?_drop] at hj
            simp only [World.cell?, hbl, Option.isSome_none, Bool.false_eq_true, if_false]
            simpa using hj
          · cases hj)
        simp only [Act.eval] at h2
        simp only [Instr.loadAt, Instr.sureAddr, Sem.run_bind, Sem.run_pure, Result.andThen_ok] at h4
        refine ⟨_, ?_, _, rfl, (hall.drop off).take _⟩
        simp only [resV, h2, asAddr, Sem.run_bind, Sem.run_pure, Result.andThen_ok]
        exact h4
      · cases h
    · cases h

theorem resAll_ok (hT : TGood P ti) {nm : List (Option Nat)} (hnd : (nm.filterMap id).Nodup) (hs : St w0 tag0 E tag hv a w) : ∀ {rv : List ResultVar} {rs : List (Bool × ML)} {b : Nat}, resOk ti E rv rs → (∀ j x, (nmsR ti E rv rs)[j]? = some x → nm[b + j]? = some x) →
    ∃ vs, (rv.mapM (resV a.tmps)).run P w = .ok vs w ∧ RVs (tagR nm tag) (hvR nm hv) w b rs vs ∧ vs.length = rv.length
  | [], [], b, _, _ => ⟨[], rfl, trivial, rfl⟩
  | [], _ :: _, b, h, _ => by simp [resOk] at h
  | _ :: _, [], b, h, _ => by simp [resOk] at h
  | v :: r, (ag, ml) :: q, b, h, hn => by
    simp only [resOk] at h
    obtain ⟨h1, h2⟩ := h
    split at h1
    · rename_i C ag' ls hr
      obtain ⟨hC, rfl, hls, hag⟩ := h1
      obtain ⟨u, h3, cs, h4, h5⟩ := resOne_ok hT hs hr hC
      have hn1 : ∀ j x, (nmsL ls ml)[j]? = some x → nm[b + j]? = some x := fun j x hj => hn j x (by
        simp only [nmsR, hr]
        rw [List.getElem?_append_left (List.getElem?_eq_some_iff.1 hj).1]
        exact hj)
      have hlen := nmsL_len hls
      obtain ⟨vs, h6, h7, h8⟩ := resAll_ok hT hnd hs (b := b + ml.length) h2 (fun j x hj => by
        have := hn (ml.length + j) x (by
          simp only [nmsR, hr]
          rw [List.getElem?_append_right (by omega), hlen]
          simpa using hj)
        rwa [← Nat.add_assoc] at this)
      refine ⟨u :: vs, ?_, ⟨⟨cs, h4, LsOk_ok hnd hs hls hn1 h5, hag⟩, h7⟩, by simp [h8]⟩
      rw [List.mapM_cons]
      simp only [Sem.run_bind]
      rw [h3]
      simp only [Result.andThen_ok]
      rw [h6]
      rfl
    · exact h1.elim

def kEnd (ti : TT) (res : List ResultVar) (rs : List (Bool × ML)) : Exit → Env → Prop := fun e E => match e with
  | .normal | .ret => resOk ti E res rs ∧ ((nmsR ti E res rs).filterMap id).Nodup
  | _ => False
/-- THE CONTRACT OUT OF THE CODE. -/
theorem vc_of_ew (hT : TGood P ti) (hm : P.follows .mixedOrders = true) (vs : List Nat) {f : FuncId} {fn : Func} {c : Code} (hf : P.funcs[f]? = some fn) (hb : fn.body = some c) (hn : (fn.name == "runtime.NumGoroutine") = false) (hok : codeOk c = true)
    {as : List SV} {rs : List (Bool × ML)} (hl : fn.results.toList.length = rs.length)
    (h : ew P ti vs c (kEnd ti fn.results.toList rs) (env0 (as.length + (fn.ntmps - as.length)) as)) : VC P f as rs := by
  refine ⟨⟨fn, c, hf, hb, hn⟩, fun w tag hv vals htag hhi hargs => calls_of_wp hf hb ?_⟩
  have hlen : vals.length = as.length := hargs.len.symm
  have hs : St w tag (env0 (as.length + (fn.ntmps - as.length)) as) tag hv { tmps := vals.toArray ++ Array.replicate (fn.ntmps - vals.toArray.size) undef, defers := [] } w := by
    refine ⟨by simp [env0, hlen], rfl, fun t sv hl => ?_, fun b ls hl => by simp [env0, lkp] at hl, fun r x hl => by simp [env0, lkp] at hl, ⟨rfl, rfl, rfl, Nat.le_refl _, fun _ _ _ => ⟨rfl, rfl⟩⟩, hhi⟩
    obtain ⟨_, h2⟩ := lkp_numL as 0 t sv hl
    simp only [Nat.sub_zero] at h2
    have ht : t < as.length := (List.getElem?_eq_some_iff.1 h2).1
    have h3 : vals[t]? = some vals[t] := List.getElem?_eq_getElem (by omega)
    have h4 := hargs.get t sv _ h2 h3
    have h5 : Act.eval { tmps := vals.toArray ++ Array.replicate (fn.ntmps - vals.toArray.size) undef, defers := [] } (.tmp t) = vals[t] := by
      simp only [Act.eval, Array.getD_eq_getD_getElem?]
      rw [Array.getElem?_append_left (by simp; omega)]
      simp [h3]
    rw [h5]
    exact h4
  refine ew_ok hT hm vs c _ _ hok hs h (fun e E' tag' hv' a' w' hs' hk => ?_)
  have key : (resOk ti E' fn.results.toList rs ∧ ((nmsR ti E' fn.results.toList rs).filterMap id).Nodup) → a'.defers = [] ∧ ∃ v, (results fn a'.tmps).run P w' = .ok v w' ∧ ∃ tag' hv' rv, Ending.returned v = .returned rv ∧ Fr w tag tag' w' ∧ (∀ b, w'.heap.size ≤ b → tag' b = .off) ∧ RV tag' hv' w' rs rv := by
    rintro ⟨h1, h2⟩
    refine ⟨hs'.df, ?_⟩
    obtain ⟨vs', h3, h4, h5⟩ := resAll_ok hT (nm := nmsR ti E' fn.results.toList rs) h2 hs' (b := 0) h1 (fun j x hj => by simpa using hj)
    have hmap : (fn.results.mapM (resV a'.tmps)).run P w' = .ok vs'.toArray w' := by
      rw [Array.mapM_eq_mapM_toList, Sem.run_map, h3]
      rfl
    have hF : Fr w tag (tagR (nmsR ti E' fn.results.toList rs) tag') w' := by
      refine ⟨hs'.fr.os, hs'.fr.tape, hs'.fr.output, hs'.fr.size, fun b hb hq => ?_⟩
      obtain ⟨q1, q2⟩ := hs'.fr.heap b hb hq
      refine ⟨q1, ?_⟩
      rcases hq with hq | hq <;> simp [tagR, q2, hq]
    have hI : ∀ b, w'.heap.size ≤ b → tagR (nmsR ti E' fn.results.toList rs) tag' b = .off := fun b hb => by simp [tagR, hs'.hi b hb]
    by_cases h1' : vs'.length = 1
    · match vs', h1', h4, hmap with
      | [u], _, h4, hmap =>
        refine ⟨u, ?_, _, hvR (nmsR ti E' fn.results.toList rs) hv', u, rfl, hF, hI, ?_⟩
        · rw [results_eq]
          simp only [Sem.run_bind, hmap, Result.andThen_ok]
          simp
        · have : rs.length = 1 := by rw [← hl, ← h5]; rfl
          match rs, this, h4 with
          | [p], _, h4 => exact h4
    · refine ⟨.tuple vs'.toArray, ?_, _, hvR (nmsR ti E' fn.results.toList rs) hv', _, rfl, hF, hI, ?_⟩
      · rw [results_eq]
        simp only [Sem.run_bind, hmap, Result.andThen_ok]
        simp [h1']
      · unfold RV
        split
        · rename_i p
          exfalso
          apply h1'
          rw [h5, hl]
          rfl
        · exact ⟨vs', rfl, h4⟩
  cases e with
  | normal => exact key hk
  | ret => exact key hk
  | _ => exact hk.elim

/-! ### the same where what is lent is written -/
def rtM : Nat → List (Md × Lf × Lf) → List (Nat × Md × Lf)
  | _, [] => []
  | k, (m, l, _) :: r => (k, m, l) :: rtM (k + 1) r
def pinM (pv : Nat → Value) : Nat → List (Md × Lf × Lf) → List (Nat × SV)
  | _, [] => []
  | k, _ :: r => (4100 + k, .pin k (pv k)) :: pinM pv (k + 1) r
def env0M (nt : Nat) (as : List SV) (ms : List (Md × Lf × Lf)) (pv : Nat → Value) : Env := { nt, sl := numL 0 as ++ pinM pv 900 ms, bx := [], rt := rtM 900 ms }
def mEnd (E : Env) (pv : Nat → Value) : Nat → List (Md × Lf × Lf) → Prop
  | _, [] => True
  | k, (m, _, l') :: r => lkp E.rt k = some (m, l') ∧ lkp E.sl (4100 + k) = some (.pin k (pv k)) ∧ mEnd E pv (k + 1) r
def kEndM (ti : TT) (res : List ResultVar) (ms : List (Md × Lf × Lf)) (n : Int) (pv : Nat → Value) : Exit → Env → Prop := fun e E => match e with
  | .normal | .ret => (resOk ti E res [(false, [(.s, .sc (.int .i64 n))])] ∧ ((nmsR ti E res [(false, [(.s, .sc (.int .i64 n))])]).filterMap id).Nodup) ∧ mEnd E pv 900 ms
  | _ => False
theorem lkp_rtM : ∀ {ms : List (Md × Lf × Lf)} {k r : Nat} {x : Md × Lf}, lkp (rtM k ms) r = some x → ∃ i y, ms[i]? = some y ∧ r = k + i ∧ x = (y.1, y.2.1)
  | [], _, _, _, h => by simp [rtM, lkp] at h
  | (m, l, l') :: ms, k, r, x, h => by
    simp only [rtM, lkp] at h
    split at h
    · rename_i e
      subst e
      cases h
      exact ⟨0, _, rfl, rfl, rfl⟩
    · obtain ⟨i, y, h1, h2, h3⟩ := lkp_rtM h
      exact ⟨i + 1, y, by simpa using h1, by omega, h3⟩
theorem lkp_pinM {pv : Nat → Value} : ∀ {ms : List (Md × Lf × Lf)} {k t : Nat} {sv : SV}, lkp (pinM pv k ms) t = some sv → ∃ j, sv = .pin j (pv j)
  | [], _, _, _, h => by simp [pinM, lkp] at h
  | _ :: ms, k, t, sv, h => by
    simp only [pinM, lkp] at h
    split at h
    · cases h
      exact ⟨_, rfl⟩
    · exact lkp_pinM h
theorem mEnd_get {pv : Nat → Value} : ∀ {ms : List (Md × Lf × Lf)} {k i : Nat} {x : Md × Lf × Lf}, mEnd E pv k ms → ms[i]? = some x → lkp E.rt (k + i) = some (x.1, x.2.2) ∧ lkp E.sl (4100 + (k + i)) = some (.pin (k + i) (pv (k + i)))
  | [], _, _, _, _, h => by simp at h
  | (m, l, l') :: ms, k, 0, x, h, hx => by
    simp only [List.getElem?_cons_zero, Option.some.injEq] at hx
    subst hx
    exact ⟨h.1, h.2.1⟩
  | (m, l, l') :: ms, k, i + 1, x, h, hx => by
    simp only [List.getElem?_cons_succ] at hx
    have := mEnd_get h.2.2 hx
    rw [show k + (i + 1) = k + 1 + i by omega]
    exact this
theorem vm_of_ew (hT : TGood P ti) (hm : P.follows .mixedOrders = true) (vs : List Nat) {f : FuncId} {fn : Func} {c : Code} (hf : P.funcs[f]? = some fn) (hb : fn.body = some c) (hn : (fn.name == "runtime.NumGoroutine") = false) (hok : codeOk c = true)
    {as : List SV} {ms : List (Md × Lf × Lf)} {n : Int} (hl : fn.results.toList.length = 1)
    (h : ∀ pv, ew P ti vs c (kEndM ti fn.results.toList ms n pv) (env0M (as.length + (fn.ntmps - as.length)) as ms pv)) : VM P f as ms n := by
  refine ⟨⟨fn, c, hf, hb, hn⟩, fun w tag hv vals htag hhi hargs hms => calls_of_wp hf hb ?_⟩
  have hlen : vals.length = as.length := hargs.len.symm
  have hs : St w tag (env0M (as.length + (fn.ntmps - as.length)) as ms (fun k => hv [k])) tag hv { tmps := vals.toArray ++ Array.replicate (fn.ntmps - vals.toArray.size) undef, defers := [] } w := by
    refine ⟨by simp [env0M, hlen], rfl, fun t sv hl => ?_, fun b ls hl => by simp [env0M, lkp] at hl, fun r x hl => ?_, ⟨rfl, rfl, rfl, Nat.le_refl _, fun _ _ _ => ⟨rfl, rfl⟩⟩, hhi⟩
    · simp only [env0M] at hl
      rw [lkp_app] at hl
      split at hl
      · rename_i y hy
        cases hl
        obtain ⟨_, h2⟩ := lkp_numL as 0 t sv hy
        simp only [Nat.sub_zero] at h2
        have ht : t < as.length := (List.getElem?_eq_some_iff.1 h2).1
        have h3 : vals[t]? = some vals[t] := List.getElem?_eq_getElem (by omega)
        have h4 := hargs.get t sv _ h2 h3
        have h5 : Act.eval { tmps := vals.toArray ++ Array.replicate (fn.ntmps - vals.toArray.size) undef, defers := [] } (.tmp t) = vals[t] := by
          simp only [Act.eval, Array.getD_eq_getD_getElem?]
          rw [Array.getElem?_append_left (by simp; omega)]
          simp [h3]
        rw [h5]
        exact h4
      · obtain ⟨j, rfl⟩ := lkp_pinM hl
        exact rfl
    · obtain ⟨i, y, h1, rfl, rfl⟩ := lkp_rtM hl
      exact hms i y h1
  refine ew_ok hT hm vs c _ _ hok hs (h _) (fun e E' tag' hv' a' w' hs' hk => ?_)
  have key : ((resOk ti E' fn.results.toList [(false, [(.s, .sc (.int .i64 n))])] ∧ ((nmsR ti E' fn.results.toList [(false, [(.s, .sc (.int .i64 n))])]).filterMap id).Nodup) ∧ mEnd E' (fun k => hv [k]) 900 ms) →
      a'.defers = [] ∧ ∃ v, (results fn a'.tmps).run P w' = .ok v w' ∧ ∃ tag' hv', Ending.returned v = .returned (.int .i64 n) ∧ Fr w tag tag' w' ∧ (∀ b, w'.heap.size ≤ b → tag' b = .off) ∧
      ∀ i x, ms[i]? = some x → hv' [900 + i] = hv [900 + i] ∧ VR tag' hv' w' [900 + i] x.1 x.2.2 (hv [900 + i]) := by
    rintro ⟨⟨h1, h2⟩, h9⟩
    refine ⟨hs'.df, ?_⟩
    obtain ⟨vs', h3, h4, h5⟩ := resAll_ok hT (nm := nmsR ti E' fn.results.toList [(false, [(.s, .sc (.int .i64 n))])]) h2 hs' (b := 0) h1 (fun j x hj => by simpa using hj)
    have hmap : (fn.results.mapM (resV a'.tmps)).run P w' = .ok vs'.toArray w' := by
      rw [Array.mapM_eq_mapM_toList, Sem.run_map, h3]
      rfl
    have h1' : vs'.length = 1 := by rw [h5, hl]
    match vs', h1', h4, hmap with
    | [u], _, h4, hmap =>
      have hu : u = .int .i64 n := by
        obtain ⟨⟨cs, q1, q2, _⟩, _⟩ := h4
        match cs, q2 with
        | [c0], q2 =>
          have := q2.1
          cases this
          rw [q1]
          rfl
        | [], q2 => exact q2.elim
        | _ :: _ :: _, q2 => exact q2.2.elim
      subst hu
      refine ⟨_, ?_, tag', hv', rfl, hs'.fr, hs'.hi, fun i x hx => ?_⟩
      · rw [results_eq]
        simp only [Sem.run_bind, hmap, Result.andThen_ok]
        simp
      · obtain ⟨q1, q2⟩ := mEnd_get h9 hx
        have e : hv' [900 + i] = hv [900 + i] := hs'.sl _ _ q2
        exact ⟨e, by rw [← e]; exact hs'.rt _ _ q1⟩
  cases e with
  | normal => exact key hk
  | ret => exact key hk
  | _ => exact hk.elim

/-! ### the same where what is handed over is used up -/
def rtX : Nat → List (Md × Lf) → List (Nat × Md × Lf)
  | _, [] => []
  | k, (m, l) :: r => (k, m, l) :: rtX (k + 1) r
def env0X (nt : Nat) (as : List SV) (ms : List (Md × Lf)) : Env := { nt, sl := numL 0 as, bx := [], rt := rtX 900 ms }
/-- The end: the results are what is said, of an environment that says no more. -/
def EndX (ti : TT) (res : List ResultVar) (rs : List (Bool × ML)) (E : Env) : Prop := ∃ E', Gh E E' ∧ resOk ti E' res rs ∧ ((nmsR ti E' res rs).filterMap id).Nodup
theorem EndX.of {res : List ResultVar} {rs : List (Bool × ML)} (E' : Env) (hg : Gh E E') (h : resOk ti E' res rs ∧ ((nmsR ti E' res rs).filterMap id).Nodup) : EndX ti res rs E := ⟨E', hg, h⟩
def kEndX (ti : TT) (res : List ResultVar) (rs : List (Bool × ML)) : Exit → Env → Prop := fun e E => match e with
  | .normal | .ret => EndX ti res rs E
  | _ => False
theorem lkp_rtX : ∀ {ms : List (Md × Lf)} {k r : Nat} {x : Md × Lf}, lkp (rtX k ms) r = some x → ∃ i, ms[i]? = some x ∧ r = k + i
  | [], _, _, _, h => by simp [rtX, lkp] at h
  | (m, l) :: ms, k, r, x, h => by
    simp only [rtX, lkp] at h
    split at h
    · rename_i e
      subst e
      cases h
      exact ⟨0, rfl, rfl⟩
    · obtain ⟨i, h1, h2⟩ := lkp_rtX h
      exact ⟨i + 1, by simpa using h1, by omega⟩
theorem vx_of_ew (hT : TGood P ti) (hm : P.follows .mixedOrders = true) (vs : List Nat) {f : FuncId} {fn : Func} {c : Code} (hf : P.funcs[f]? = some fn) (hb : fn.body = some c) (hn : (fn.name == "runtime.NumGoroutine") = false) (hok : codeOk c = true)
    {as : List SV} {ms : List (Md × Lf)} {rs : List (Bool × ML)} (hl : fn.results.toList.length = rs.length)
    (h : ew P ti vs c (kEndX ti fn.results.toList rs) (env0X (as.length + (fn.ntmps - as.length)) as ms)) : VX P f as ms rs := by
  refine ⟨⟨fn, c, hf, hb, hn⟩, fun w tag hv vals htag hhi hargs hms => calls_of_wp hf hb ?_⟩
  have hlen : vals.length = as.length := hargs.len.symm
  have hs : St w tag (env0X (as.length + (fn.ntmps - as.length)) as ms) tag hv { tmps := vals.toArray ++ Array.replicate (fn.ntmps - vals.toArray.size) undef, defers := [] } w := by
    refine ⟨by simp [env0X, hlen], rfl, fun t sv hl => ?_, fun b ls hl => by simp [env0X, lkp] at hl, fun r x hl => ?_, ⟨rfl, rfl, rfl, Nat.le_refl _, fun _ _ _ => ⟨rfl, rfl⟩⟩, hhi⟩
    · obtain ⟨_, h2⟩ := lkp_numL as 0 t sv hl
      simp only [Nat.sub_zero] at h2
      have ht : t < as.length := (List.getElem?_eq_some_iff.1 h2).1
      have h3 : vals[t]? = some vals[t] := List.getElem?_eq_getElem (by omega)
      have h4 := hargs.get t sv _ h2 h3
      have h5 : Act.eval { tmps := vals.toArray ++ Array.replicate (fn.ntmps - vals.toArray.size) undef, defers := [] } (.tmp t) = vals[t] := by
        simp only [Act.eval, Array.getD_eq_getD_getElem?]
        rw [Array.getElem?_append_left (by simp; omega)]
        simp [h3]
      rw [h5]
      exact h4
    · obtain ⟨i, h1, rfl⟩ := lkp_rtX hl
      exact hms i x h1
  refine ew_ok hT hm vs c _ _ hok hs h (fun e E1 tag1 hv1 a' w' hs1 hk => ?_)
  have key : EndX ti fn.results.toList rs E1 → a'.defers = [] ∧ ∃ v, (results fn a'.tmps).run P w' = .ok v w' ∧ ∃ tag' hv' rv, Ending.returned v = .returned rv ∧ Fr w tag tag' w' ∧ (∀ b, w'.heap.size ≤ b → tag' b = .off) ∧ RV tag' hv' w' rs rv := by
    rintro ⟨E', hg, h1, h2⟩
    obtain ⟨tag', hv', hs'⟩ := hg _ _ _ _ _ _ hs1
    refine ⟨hs'.df, ?_⟩
    obtain ⟨vs', h3, h4, h5⟩ := resAll_ok hT (nm := nmsR ti E' fn.results.toList rs) h2 hs' (b := 0) h1 (fun j x hj => by simpa using hj)
    have hmap : (fn.results.mapM (resV a'.tmps)).run P w' = .ok vs'.toArray w' := by
      rw [Array.mapM_eq_mapM_toList, Sem.run_map, h3]
      rfl
    have hF : Fr w tag (tagR (nmsR ti E' fn.results.toList rs) tag') w' := by
      refine ⟨hs'.fr.os, hs'.fr.tape, hs'.fr.output, hs'.fr.size, fun b hb hq => ?_⟩
      obtain ⟨q1, q2⟩ := hs'.fr.heap b hb hq
      refine ⟨q1, ?_⟩
      rcases hq with hq | hq <;> simp [tagR, q2, hq]
    have hI : ∀ b, w'.heap.size ≤ b → tagR (nmsR ti E' fn.results.toList rs) tag' b = .off := fun b hb => by simp [tagR, hs'.hi b hb]
    by_cases h1' : vs'.length = 1
    · match vs', h1', h4, hmap with
      | [u], _, h4, hmap =>
        refine ⟨u, ?_, _, hvR (nmsR ti E' fn.results.toList rs) hv', u, rfl, hF, hI, ?_⟩
        · rw [results_eq]
          simp only [Sem.run_bind, hmap, Result.andThen_ok]
          simp
        · have : rs.length = 1 := by rw [← hl, ← h5]; rfl
          match rs, this, h4 with
          | [p], _, h4 => exact h4
    · refine ⟨.tuple vs'.toArray, ?_, _, hvR (nmsR ti E' fn.results.toList rs) hv', _, rfl, hF, hI, ?_⟩
      · rw [results_eq]
        simp only [Sem.run_bind, hmap, Result.andThen_ok]
        simp [h1']
      · unfold RV
        split
        · rename_i p
          exfalso
          apply h1'
          rw [h5, hl]
          rfl
        · exact ⟨vs', rfl, h4⟩
  cases e with
  | normal => exact key hk
  | ret => exact key hk
  | _ => exact hk.elim

/-- A part from the first row on becomes the slice itself. -/
theorem Gh.trunc {E : Env} {r n t sz e : Nat} {cols : Nat → List Md} {z : List Lf} {rows : List (List Lf)} (h : lkp E.sl t = some (.p (.vw [r] sz 0 n))) (hr : lkp E.rt r = some (.o e cols, .ls z rows)) (hn : n ≤ rows.length) :
    Gh E { nt := E.nt, sl := [(t, .v false [.r [r]])], bx := [], rt := [(r, .o e cols, .ls z (rows.take n))] } := by
  intro w0 tag0 tag hv a w hs
  have hx : PR tag hv w (.vw [r] sz 0 n) (a.eval (.tmp t)) := hs.sl t _ h
  have hroot := hs.rt r _ hr
  refine ⟨tag, fun q => if q = [r] then a.eval (.tmp t) else hv q, hs.nt, hs.df, fun t' sv hl => ?_, fun b ls hl => by simp [lkp] at hl, fun r' x hl => ?_, hs.fr, hs.hi⟩
  · simp only [lkp] at hl
    split at hl
    · rename_i e2
      subst e2
      cases hl
      refine VV_one ⟨by simp, ?_⟩
      rcases hx with ⟨b, N, c, o, _, h1, _⟩ | ⟨_, h1, _⟩ <;> exact ⟨_, _, _, h1⟩
    · cases hl
  · simp only [lkp] at hl
    split at hl
    · rename_i e2
      subst e2
      cases hl
      simp only [if_true]
      obtain ⟨hh1, ⟨h0, h00⟩ | ⟨b, c, cur, hv1, hc, hm, htb, hbl, hcs, hl, hrr⟩⟩ := hroot.open_own
      · have hn0 : n = 0 := by rw [h00] at hn; simpa using hn
        subst hn0
        have hxe : a.eval (.tmp t) = .slice none 0 0 := by
          rcases hx with ⟨b, N, c, o', h3, _⟩ | ⟨_, h3, _⟩
          · rw [h0] at h3; cases h3
          · exact h3
        rw [hxe, List.take_zero]
        exact .own0 (by simp)
      · have hxe : a.eval (.tmp t) = .slice (some ⟨b, 0, none⟩) n c := by
          rcases hx with ⟨b2, N, c2, o2, h3, h4, h5, h6⟩ | ⟨h3, _⟩
          · rw [hv1] at h3
            cases h3
            rw [h4, h5 (.inr rfl)]
            simp
          · rw [hv1] at h3; cases h3
        rw [hxe]
        refine .own cur (by simp; omega) (by omega) hm htb (by simp) hbl hcs (fun i hi => ?_) (fun i j hi hj => ?_)
        · rw [List.getD_eq_getElem?_getD, List.getElem?_take, if_pos hi, ← List.getD_eq_getElem?_getD]
          exact hl i (by omega)
        · have hlf : lf z (rows.take n) i j = lf z rows i j := by
            have hg : (rows.take n).getD i z = rows.getD i z := by
              rw [List.getD_eq_getElem?_getD, List.getElem?_take, if_pos hi, ← List.getD_eq_getElem?_getD]
            simp only [lf]
            rw [hg]
          rw [hlf]
          refine (hrr i j (by omega) hj).move _ (fun b hb => ⟨hb, rfl⟩) (fun rest _ => ⟨?_, fun b hb => ⟨hb, rfl⟩⟩)
          simp
    · cases hl
end Go.Sm
