import Derived.Test.YtkciklpdhhcblaaGreatSmP
import Derived.Lib.AppendZerosOnto
import Derived.Laws.IdiomCopy
import Derived.Lib.JoinLaws
/-
  slices.Insert and slices.Delete: what their code does with cells ('RawIns', 'RawDel'), and what that makes of trees ('vx_ins', 'vx_del').
-/
namespace Go
open Go.RowKit
set_option linter.unusedVariables false
set_option linter.unusedSimpArgs false
variable {P : Program}
/-- copy, of elements of sz cells: all is read before anything is written. -/
theorem run_copy_rows (w : World) (dT sT ty elem sz : Nat) (b o dLen dCap : Nat) (a : Addr) (sLen sCap k : Nat) (cs : List Value)
    (hu : P.underlying dT = some (.slice elem)) (hs : (P.info? elem).map (·.size) = some sz) (hk : Nat.min sLen dLen = k) (hn : cs.length = k * sz)
    (hsrc : ∀ j v, cs[j]? = some v → w.cell? (a.add j) = some v) (hc : ∀ j, j < cs.length → (w.cell? ⟨b, o + j, none⟩).isSome = true) (hf : ∀ j, j < cs.length → w.frozen? ⟨b, o + j, none⟩ = false) (h1 : ∀ v ∈ cs, v.oneCell' = true) :
    (Builtin.copy_ #[dT, sT] ty #[.slice (some ⟨b, o, none⟩) dLen dCap, .slice (some a) sLen sCap]).run P w = .ok (goInt k) (w.setCells b o cs) := by
  have hl := run_firstCells_some (P := P) w sz k a sLen sCap cs hn hsrc
  have hst := run_storeCells_cells (P := P) b o cs 0 w (by simpa using hc) (by simpa using hf) h1
  cases hq : P.info? elem with
  | none => simp [hq] at hs
  | some i =>
    have hi : i.size = sz := by simpa [hq] using hs
    simp [Builtin.copy_, run_underlying hu, Builtin.lenOf, sizeOf, typeInfo, hq, hi, hk, hl, hst]
end Go
namespace Go.Sm
open Go.RowKit
variable {P : Program}

/-- What the code of slices.Insert(s, i, x) does: f the function, e the element's type (sz cells, by_ bytes). -/
def RawIns (P : Program) (f e sz by_ : Nat) : Prop := ∀ (w : World) (base : Option Nat) (n c i vb vc : Nat) (cur vcur : Array Value), i ≤ n → n ≤ c → c ≤ maxLen → (n + 1) * by_ ≤ 140737488355328 →
  (∀ b, base = some b → w.heap[b]? = some (.cells cur e (0, 0)) ∧ cur.size = c * sz ∧ b ≠ vb) → (base = none → n = 0 ∧ c = 0) → w.heap[vb]? = some (.cells vcur e (0, 0)) → vcur.size = vc * sz → 1 ≤ vc →
  (∀ k, k < n * sz → (cur.getD k default).oneCell' = true) → (∀ k, k < sz → (vcur.getD k default).oneCell' = true) →
  Calls P f #[.slice (base.map fun b => ⟨b, 0, none⟩) n c, .int .i64 i, .slice (some ⟨vb, 0, none⟩) 1 vc] w fun ed w' => ∃ b' c' cur', ed = .returned (.slice (some ⟨b', 0, none⟩) (n + 1) c') ∧ w'.heap[b']? = some (.cells cur' e (0, 0)) ∧ cur'.size = c' * sz ∧
    n + 1 ≤ c' ∧ c' ≤ maxLen ∧ (b' = w.heap.size ∨ base = some b') ∧ (∀ k, k < w.heap.size → base ≠ some k → w'.heap[k]? = w.heap[k]?) ∧ w'.os = w.os ∧ w'.tape = w.tape ∧ w'.output = w.output ∧ w.heap.size ≤ w'.heap.size ∧ b' < w'.heap.size ∧
    ∀ x j, x < n + 1 → j < sz → cur'.getD (x * sz + j) default = if x < i then cur.getD (x * sz + j) default else if x = i then vcur.getD j default else cur.getD ((x - 1) * sz + j) default
/-- What the code of slices.Delete(s, i, i + 1) does. -/
def RawDel (P : Program) (f e sz : Nat) : Prop := ∀ (w : World) (b n c i : Nat) (cur : Array Value), i < n → n ≤ c → c ≤ maxLen →
  w.heap[b]? = some (.cells cur e (0, 0)) → cur.size = c * sz → (∀ k, k < n * sz → (cur.getD k default).oneCell' = true) →
  Calls P f #[.slice (some ⟨b, 0, none⟩) n c, .int .i64 i, .int .i64 ((i + 1 : Nat) : Int)] w fun ed w' => ∃ cur', ed = .returned (.slice (some ⟨b, 0, none⟩) (n - 1) c) ∧ w'.heap[b]? = some (.cells cur' e (0, 0)) ∧ cur'.size = c * sz ∧
    (∀ k, k < w.heap.size → k ≠ b → w'.heap[k]? = w.heap[k]?) ∧ w'.os = w.os ∧ w'.tape = w.tape ∧ w'.output = w.output ∧ w.heap.size ≤ w'.heap.size ∧
    ∀ x j, x < n - 1 → j < sz → cur'.getD (x * sz + j) default = if x < i then cur.getD (x * sz + j) default else cur.getD ((x + 1) * sz + j) default

def insT (i : Nat) : List Nat → Option (List Nat)
  | k :: x :: rest => if k = 900 then some (0 :: (if x < i then x else x + 1) :: rest) else if k = 901 then (if x = 0 then some (0 :: i :: rest) else none) else none
  | _ => none
def insH (i : Nat) : List Nat → Option (List Nat)
  | k :: x :: rest => if k = 0 then some (if x < i then 900 :: x :: rest else if x = i then 901 :: 0 :: rest else 900 :: (x - 1) :: rest) else none
  | _ => none
def delT (i : Nat) : List Nat → Option (List Nat)
  | k :: x :: rest => if k = 900 then (if x < i then some (0 :: x :: rest) else if x = i then none else some (0 :: (x - 1) :: rest)) else none
  | _ => none
def delH (i : Nat) : List Nat → Option (List Nat)
  | k :: x :: rest => if k = 0 then some (if x < i then 900 :: x :: rest else 900 :: (x + 1) :: rest) else none
  | _ => none
def colsI (i : Nat) (c1 c2 : Nat → List Md) : Nat → List Md := fun k => if k < i then c1 k else if k = i then c2 0 else c1 (k - 1)
def colsD (i : Nat) (c1 : Nat → List Md) : Nat → List Md := fun k => if k < i then c1 k else c1 (k + 1)

section
variable {tag : Nat → Tag} {hv : Hv} {w : World}
theorem row_lt {n sz x j : Nat} (hx : x < n) (hj : j < sz) : x * sz + j < n * sz := by
  have h1 : (x + 1) * sz ≤ n * sz := Nat.mul_le_mul_right _ (by omega)
  rw [Nat.add_mul] at h1
  omega
theorem cell_row {n sz k : Nat} (hsz : 0 < sz) (h : k < n * sz) : ∃ x j, x < n ∧ j < sz ∧ k = x * sz + j :=
  ⟨k / sz, k % sz, (Nat.div_lt_iff_lt_mul hsz).2 h, Nat.mod_lt _ hsz, by rw [Nat.mul_comm]; exact (Nat.div_add_mod k sz).symm⟩
theorem own_lt {b : Nat} {q : List Nat} (hhi : ∀ b, w.heap.size ≤ b → tag b = .off) (h : tag b = .own q) : b < w.heap.size := by
  rcases Nat.lt_or_ge b w.heap.size with h1 | h1
  · exact h1
  · rw [hhi b h1] at h; cases h

theorem insRow {z row : List Lf} {rows : List (List Lf)} {i : Nat} (hi : i ≤ rows.length) (x : Nat) : (rows.take i ++ row :: rows.drop i).getD x z = if x < i then rows.getD x z else if x = i then row else rows.getD (x - 1) z := by
  rw [List.getD_eq_getElem?_getD]
  by_cases h1 : x < i
  · rw [List.getElem?_append_left (by simp; omega), List.getElem?_take, if_pos h1, if_pos h1, ← List.getD_eq_getElem?_getD]
  · rw [List.getElem?_append_right (by simp; omega), List.length_take, Nat.min_eq_left hi, if_neg h1]
    by_cases h2 : x = i
    · subst h2
      simp
    · rw [show x - i = (x - i - 1) + 1 by omega, List.getElem?_cons_succ, List.getElem?_drop, show i + (x - i - 1) = x - 1 by omega, ← List.getD_eq_getElem?_getD, if_neg h2]
theorem delRow {z : List Lf} {rows : List (List Lf)} {i : Nat} (hi : i < rows.length) (x : Nat) : (rows.take i ++ rows.drop (i + 1)).getD x z = if x < i then rows.getD x z else rows.getD (x + 1) z := by
  rw [List.getD_eq_getElem?_getD]
  by_cases h1 : x < i
  · rw [List.getElem?_append_left (by simp; omega), List.getElem?_take, if_pos h1, if_pos h1, ← List.getD_eq_getElem?_getD]
  · rw [List.getElem?_append_right (by simp; omega), List.length_take, Nat.min_eq_left (by omega), List.getElem?_drop, show i + 1 + (x - i) = x + 1 by omega, ← List.getD_eq_getElem?_getD, if_neg h1]
theorem vx_ins {f e sz by_ : Nat} (hf : ∃ fn c, P.funcs[f]? = some fn ∧ fn.body = some c ∧ (fn.name == "runtime.NumGoroutine") = false) (hraw : RawIns P f e sz by_) (hsz : 0 < sz) (_hby0 : 0 < by_)
    {cols cols' : Nat → List Md} {z row : List Lf} {rows : List (List Lf)} {i : Nat} (hz : z.length = sz) (hi : i ≤ rows.length) (hby : (rows.length + 1) * by_ ≤ 140737488355328) :
    VX P f [.v false [.r [900]], .v false [.s (.sc (.int .i64 i))], .v false [.r [901]]] [(.o e cols, .ls z rows), (.o e cols', .ls z [row])] [(false, [(.o e (colsI i cols cols'), .ls z (rows.take i ++ row :: rows.drop i))])] := by
  refine ⟨hf, fun w tag0 hv vs htag hhi0 hargs hms => ?_⟩
  have hV0 := (hms 0 _ rfl).norm
  have hV1 := (hms 1 _ rfl).norm
  simp only [Nat.add_zero] at hV0 hV1
  have hhi : ∀ b, w.heap.size ≤ b → normT tag0 hv b = .off := fun b hb => by simp [normT, hhi0 b hb]
  obtain ⟨v0, v1, v2, rfl, e0, e1, e2⟩ : ∃ v0 v1 v2, vs = [v0, v1, v2] ∧ v0 = hv [900] ∧ v1 = .int .i64 i ∧ v2 = hv [901] := by
    cases hargs with
    | cons h0 hr => cases hr with
      | cons h1 hr => cases hr with
        | cons h2 hr =>
          cases hr
          exact ⟨_, _, _, rfl, (VV_open h0).1, SR_int h1, (VV_open h2).1⟩
  subst e0 e1 e2
  have hfr0 : ∀ b, tag0 b = .sh ∨ tag0 b = .off → normT tag0 hv b = tag0 b := fun b hb => by
    rcases hb with hb | hb <;> simp [normT, hb]
  generalize hnt : normT tag0 hv = tag at hV0 hV1 hhi hfr0
  obtain ⟨hh1, h1 | ⟨vb, vc, vcur, hv1, hvc, hvm, hvt, hvbl, hvs, hvl, hvr⟩⟩ := hV1.open_own
  · exact absurd h1.2 (by simp)
  obtain ⟨base, c, cur, hv0, hnc, hcm, hbase, hnone, hbt, hlr, hcellr⟩ : ∃ (base : Option Nat) (c : Nat) (cur : Array Value), hv [900] = .slice (base.map fun b => ⟨b, 0, none⟩) rows.length c ∧ rows.length ≤ c ∧ c ≤ maxLen ∧
      (∀ b, base = some b → w.heap[b]? = some (.cells cur e (0, 0)) ∧ cur.size = c * sz) ∧ (base = none → rows.length = 0 ∧ c = 0) ∧ (∀ b, base = some b → tag b = .own [900]) ∧
      (∀ x, x < rows.length → (rows.getD x z).length = z.length) ∧ (∀ x j, x < rows.length → j < z.length → VR tag hv w ([900] ++ [x, j]) (md cols x j) (lf z rows x j) (cur.getD (x * z.length + j) default)) := by
    obtain ⟨hh0, ⟨h0, rfl⟩ | ⟨b, c, cur, h0, hc, hm, ht, hbl, hs, hl, hr⟩⟩ := hV0.open_own
    · exact ⟨none, 0, #[], by rw [h0]; rfl, Nat.le_refl _, Nat.zero_le _, by simp, by simp, by simp, by simp, by simp⟩
    · exact ⟨some b, c, cur, by rw [h0]; rfl, hc, hm, fun b' e => by cases e; exact ⟨hbl, by rw [hs, hz]⟩, by simp, fun b' e => by cases e; exact ht, hl, hr⟩
  have hbv : ∀ b, base = some b → b ≠ vb := fun b hb he => by
    have := hbt b hb
    rw [he, hvt] at this
    cases this
  rw [hv0, hv1]
  refine (hraw w base rows.length c i vb vc cur vcur hi hnc hcm hby (fun b hb => ⟨(hbase b hb).1, (hbase b hb).2, hbv b hb⟩) hnone hvbl (by rw [hvs, hz]) (by simpa using hvc) (fun k hk => ?_) (fun k hk => ?_)).mono ?_
  · obtain ⟨x, j, hx, hj, rfl⟩ := cell_row hsz hk
    rw [← hz] at hj ⊢
    exact (hcellr x j hx hj).one
  · have := (hvr 0 k (by simp) (by omega)).one
    simpa using this
  rintro ed w' ⟨b', c', cur', rfl, hb', hs', hn', hm', hbb, hheap, hos, htape, hout, hsize, hlt', hcells⟩
  have hb'own : ∀ k, k < w.heap.size → tag k ≠ .own [900] → k ≠ b' := fun k hk ht he => by
    rcases hbb with h | h
    · omega
    · exact ht (he ▸ hbt b' h)
  have hkeep : ∀ k, k < w.heap.size → tag k ≠ .own [900] → w'.heap[k]? = w.heap[k]? := fun k hk ht => hheap k hk (fun he => ht (hbt k he))
  let tg : Nat → Tag := fun k => if k = b' then .own [0] else mvT (insT i) (insH i) tag k
  let hh : Hv := fun q => if q = [0] then .slice (some ⟨b', 0, none⟩) (rows.length + 1) c' else mvH (insH i) hv q
  have hh0 : hh [0] = .slice (some ⟨b', 0, none⟩) (rows.length + 1) c' := by simp [hh]
  have hsh : ∀ k, tag k = .sh → tg k = .sh ∧ w'.heap[k]? = w.heap[k]? := fun k hk => by
    have hlt : k < w.heap.size := by
      rcases Nat.lt_or_ge k w.heap.size with h | h
      · exact h
      · rw [hhi k h] at hk; cases hk
    exact ⟨by simp only [tg, if_neg (hb'own k hlt (by rw [hk]; simp))]; exact mvT_sh hk, hkeep k hlt (by rw [hk]; simp)⟩
  refine ⟨tg, hh, _, rfl, ⟨hos, htape, hout, hsize, fun k hk hq => ?_⟩, fun k hk => ?_, ?_⟩
  · have e := hfr0 k hq
    have hne : tag k ≠ .own [900] := by rw [e]; rcases hq with h | h <;> rw [h] <;> simp
    refine ⟨hkeep k hk hne, ?_⟩
    simp only [tg, if_neg (hb'own k hk hne)]
    rcases hq with h | h
    · rw [h]; exact mvT_sh (e.trans h)
    · rw [h]; exact mvT_off (e.trans h)
  · have : k ≠ b' := by omega
    simp only [tg, if_neg this]
    exact mvT_off (hhi k (by omega))
  · refine ⟨⟨[.slice (some ⟨b', 0, none⟩) (rows.length + 1) c'], rfl, ⟨?_, trivial⟩, fun _ => rfl⟩, trivial⟩
    have hmov : ∀ (k x x' j : Nat) (m : Md) (l : Lf) (v : Value), VR tag hv w [k, x, j] m l v → (∀ rest, insH i (0 :: x' :: j :: rest) = some (k :: x :: j :: rest)) → (∀ rest, insT i (k :: x :: j :: rest) = some (0 :: x' :: j :: rest)) → VR tg hh w' [0, x', j] m l v := by
      intro k x x' j m l v h hH hT
      refine h.move _ hsh (fun rest _ => ⟨?_, fun b hb => ?_⟩)
      · simp only [hh, List.cons_append, List.nil_append]
        rw [if_neg (by simp)]
        exact mvH_some (hH rest)
      · have hlt := own_lt hhi hb
        have hne : tag b ≠ .own [900] := by rw [hb]; simp
        refine ⟨?_, hkeep b hlt hne⟩
        simp only [tg, if_neg (hb'own b hlt hne)]
        exact mvT_mv hb (hT rest)
    refine .own cur' (by simp; omega) hn' hm' (by simp [tg]) hh0 hb' (by rw [hs', hz]) (fun x hx => ?_) (fun x j hx hj => ?_)
    · rw [insRow hi]
      split
      · exact hlr x (by omega)
      · split
        · simpa using hvl 0 (by simp)
        · exact hlr (x - 1) (by omega)
    · have hcx := hcells x j hx (by omega)
      rw [hz, hcx]
      by_cases h1 : x < i
      · rw [if_pos h1]
        have hlf : lf z (rows.take i ++ row :: rows.drop i) x j = lf z rows x j := by
          simp only [lf]
          rw [insRow hi, if_pos h1]
        have hmd : md (colsI i cols cols') x j = md cols x j := by simp [md, colsI, h1]
        rw [hlf, hmd]
        have := hcellr x j (by omega) hj
        rw [hz] at this
        exact hmov 900 x x j _ _ _ this (fun rest => by simp [insH, h1]) (fun rest => by simp [insT, h1])
      · rw [if_neg h1]
        by_cases h2 : x = i
        · subst h2
          rw [if_pos rfl]
          have hlf : lf z (rows.take x ++ row :: rows.drop x) x j = lf z [row] 0 j := by
            simp only [lf]
            rw [insRow hi, if_neg h1, if_pos rfl]
            rfl
          have hmd : md (colsI x cols cols') x j = md cols' 0 j := by simp [md, colsI]
          rw [hlf, hmd]
          have := hvr 0 j (by simp) hj
          simp only [Nat.zero_mul, Nat.zero_add] at this
          exact hmov 901 0 x j _ _ _ this (fun rest => by simp [insH]) (fun rest => by simp [insT])
        · rw [if_neg h2]
          have hlf : lf z (rows.take i ++ row :: rows.drop i) x j = lf z rows (x - 1) j := by
            simp only [lf]
            rw [insRow hi, if_neg h1, if_neg h2]
          have hmd : md (colsI i cols cols') x j = md cols (x - 1) j := by simp [md, colsI, h1, h2]
          rw [hlf, hmd]
          have := hcellr (x - 1) j (by omega) hj
          rw [hz] at this
          exact hmov 900 (x - 1) x j _ _ _ this (fun rest => by simp [insH, h1, h2]) (fun rest => by simp [insT, show ¬ (x - 1 < i) by omega, show x - 1 + 1 = x by omega])

theorem vx_del {f e sz : Nat} (hf : ∃ fn c, P.funcs[f]? = some fn ∧ fn.body = some c ∧ (fn.name == "runtime.NumGoroutine") = false) (hraw : RawDel P f e sz) (hsz : 0 < sz)
    {cols : Nat → List Md} {z : List Lf} {rows : List (List Lf)} {i : Nat} (hz : z.length = sz) (hi : i < rows.length) :
    VX P f [.v false [.r [900]], .v false [.s (.sc (.int .i64 i))], .v false [.s (.sc (.int .i64 ((i + 1 : Nat) : Int)))]] [(.o e cols, .ls z rows)] [(false, [(.o e (colsD i cols), .ls z (rows.take i ++ rows.drop (i + 1)))])] := by
  refine ⟨hf, fun w tag0 hv vs htag hhi0 hargs hms => ?_⟩
  have hV0 := (hms 0 _ rfl).norm
  simp only [Nat.add_zero] at hV0
  have hhi : ∀ b, w.heap.size ≤ b → normT tag0 hv b = .off := fun b hb => by simp [normT, hhi0 b hb]
  obtain ⟨v0, v1, v2, rfl, e0, e1, e2⟩ : ∃ v0 v1 v2, vs = [v0, v1, v2] ∧ v0 = hv [900] ∧ v1 = .int .i64 i ∧ v2 = .int .i64 ((i + 1 : Nat) : Int) := by
    cases hargs with
    | cons h0 hr => cases hr with
      | cons h1 hr => cases hr with
        | cons h2 hr =>
          cases hr
          exact ⟨_, _, _, rfl, (VV_open h0).1, SR_int h1, SR_int h2⟩
  subst e0 e1 e2
  have hfr0 : ∀ b, tag0 b = .sh ∨ tag0 b = .off → normT tag0 hv b = tag0 b := fun b hb => by
    rcases hb with hb | hb <;> simp [normT, hb]
  generalize hnt : normT tag0 hv = tag at hV0 hhi hfr0
  obtain ⟨hh0, ⟨h0, h00⟩ | ⟨b, c, cur, hv0, hnc, hcm, hbt, hbl, hs, hlr, hcellr⟩⟩ := hV0.open_own
  · rw [h00] at hi; simp at hi
  rw [hv0]
  refine (hraw w b rows.length c i cur hi hnc hcm hbl (by rw [hs, hz]) (fun k hk => ?_)).mono ?_
  · obtain ⟨x, j, hx, hj, rfl⟩ := cell_row hsz hk
    rw [← hz] at hj ⊢
    exact (hcellr x j hx hj).one
  rintro ed w' ⟨cur', rfl, hb', hs', hheap, hos, htape, hout, hsize, hcells⟩
  have hblt := own_lt hhi hbt
  have hb'own : ∀ k, tag k ≠ .own [900] → k ≠ b := fun k ht he => ht (he ▸ hbt)
  have hkeep : ∀ k, k < w.heap.size → tag k ≠ .own [900] → w'.heap[k]? = w.heap[k]? := fun k hk ht => hheap k hk (hb'own k ht)
  let tg : Nat → Tag := fun k => if k = b then .own [0] else mvT (delT i) (delH i) tag k
  let hh : Hv := fun q => if q = [0] then .slice (some ⟨b, 0, none⟩) (rows.length - 1) c else mvH (delH i) hv q
  have hsh : ∀ k, tag k = .sh → tg k = .sh ∧ w'.heap[k]? = w.heap[k]? := fun k hk => by
    have hlt : k < w.heap.size := by
      rcases Nat.lt_or_ge k w.heap.size with h | h
      · exact h
      · rw [hhi k h] at hk; cases hk
    exact ⟨by simp only [tg, if_neg (hb'own k (by rw [hk]; simp))]; exact mvT_sh hk, hkeep k hlt (by rw [hk]; simp)⟩
  refine ⟨tg, hh, _, rfl, ⟨hos, htape, hout, hsize, fun k hk hq => ?_⟩, fun k hk => ?_, ?_⟩
  · have e := hfr0 k hq
    have hne : tag k ≠ .own [900] := by rw [e]; rcases hq with h | h <;> rw [h] <;> simp
    refine ⟨hkeep k hk hne, ?_⟩
    simp only [tg, if_neg (hb'own k hne)]
    rcases hq with h | h
    · rw [h]; exact mvT_sh (e.trans h)
    · rw [h]; exact mvT_off (e.trans h)
  · have : k ≠ b := by omega
    simp only [tg, if_neg this]
    exact mvT_off (hhi k (by omega))
  · refine ⟨⟨[.slice (some ⟨b, 0, none⟩) (rows.length - 1) c], rfl, ⟨?_, trivial⟩, fun _ => rfl⟩, trivial⟩
    have hmov : ∀ (x x' j : Nat) (m : Md) (l : Lf) (v : Value), VR tag hv w [900, x, j] m l v → (∀ rest, delH i (0 :: x' :: j :: rest) = some (900 :: x :: j :: rest)) → (∀ rest, delT i (900 :: x :: j :: rest) = some (0 :: x' :: j :: rest)) → VR tg hh w' [0, x', j] m l v := by
      intro x x' j m l v h hH hT
      refine h.move _ hsh (fun rest _ => ⟨?_, fun b' hb => ?_⟩)
      · simp only [hh, List.cons_append, List.nil_append]
        rw [if_neg (by simp)]
        exact mvH_some (hH rest)
      · have hlt := own_lt hhi hb
        have hne : tag b' ≠ .own [900] := by rw [hb]; simp
        refine ⟨?_, hkeep b' hlt hne⟩
        simp only [tg, if_neg (hb'own b' hne)]
        exact mvT_mv hb (hT rest)
    refine .own cur' (by simp; omega) (by omega) hcm (by simp [tg]) (by simp [hh]) hb' (by rw [hs', hz]) (fun x hx => ?_) (fun x j hx hj => ?_)
    · rw [delRow hi]
      split
      · exact hlr x (by omega)
      · exact hlr (x + 1) (by omega)
    · have hcx := hcells x j hx (by omega)
      rw [hz, hcx]
      by_cases h1 : x < i
      · rw [if_pos h1]
        have hlf : lf z (rows.take i ++ rows.drop (i + 1)) x j = lf z rows x j := by
          simp only [lf]
          rw [delRow hi, if_pos h1]
        have hmd : md (colsD i cols) x j = md cols x j := by simp [md, colsD, h1]
        rw [hlf, hmd]
        have := hcellr x j (by omega) hj
        rw [hz] at this
        exact hmov x x j _ _ _ this (fun rest => by simp [delH, h1]) (fun rest => by simp [delT, h1])
      · rw [if_neg h1]
        have hlf : lf z (rows.take i ++ rows.drop (i + 1)) x j = lf z rows (x + 1) j := by
          simp only [lf]
          rw [delRow hi, if_neg h1]
        have hmd : md (colsD i cols) x j = md cols (x + 1) j := by simp [md, colsD, h1]
        rw [hlf, hmd]
        have := hcellr (x + 1) j (by omega) hj
        rw [hz] at this
        exact hmov (x + 1) x j _ _ _ this (fun rest => by simp [delH, h1]) (fun rest => by simp [delT, show ¬ (x + 1 < i) by omega, show ¬ (x + 1 = i) by omega])
end
end Go.Sm
