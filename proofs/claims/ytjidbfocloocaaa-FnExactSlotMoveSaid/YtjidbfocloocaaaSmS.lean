import Derived.Test.YtjidbfocloocaaaSmQ
/-
  slices.Insert: what its four roads (laws of calls, one cell behind the other) make of a row: 'RawIns'.
-/
namespace Go.Sm
open Go.RowKit
set_option linter.unusedVariables false
set_option linter.unusedSimpArgs false
variable {P : Program}
theorem gD (A : List Value) (k : Nat) : A.toArray.getD k default = (A[k]?).getD default := by
  simp [Array.getD_eq_getD_getElem?]
theorem gDa (A : Array Value) (k : Nat) : A.getD k default = (A.toList[k]?).getD default := by
  simp [Array.getD_eq_getD_getElem?]
theorem mulLt {x n sz j : Nat} (h : x < n) (hj : j < sz) : x * sz + j < n * sz := by
  have : (x + 1) * sz ≤ n * sz := Nat.mul_le_mul_right _ h
  rw [Nat.add_mul, Nat.one_mul] at this
  omega
theorem cellAt {w : World} {g : Nat} {cur : Array Value} {e : TypeId} (h : w.heap[g]? = some (.cells cur e (0, 0))) (j : Nat) : w.cell? ⟨g, j, none⟩ = cur[j]? := by
  simp [World.cell?, h]
theorem frozenAt {w : World} {g : Nat} {cur : Array Value} {e : TypeId} (h : w.heap[g]? = some (.cells cur e (0, 0))) (j : Nat) : w.frozen? ⟨g, j, none⟩ = false := by
  simp [World.frozen?, h]
theorem shapeAt {w : World} {g : Nat} {cur : Array Value} {e : TypeId} (h : w.heap[g]? = some (.cells cur e (0, 0))) : w.shape? g = some (e, cur.size) := by
  simp [World.shape?, h]
def InsA (P : Program) (f sz : Nat) : Prop := ∀ (b n c vb vc : Nat) (vs : List Value) (w : World), n + 1 ≤ c → c ≤ 9223372036854775807 → vs.length = sz →
  (∀ j, j < sz → (w.cell? ⟨b, n * sz + j, none⟩).isSome = true) → (∀ j, j < sz → w.frozen? ⟨b, n * sz + j, none⟩ = false) →
  (∀ j v, vs[j]? = some v → w.cell? ⟨vb, j, none⟩ = some v) → (∀ v ∈ vs, v.oneCell' = true) →
  Calls P f #[.slice (some ⟨b, 0, none⟩) n c, .int .i64 n, .slice (some ⟨vb, 0, none⟩) 1 vc] w fun e w' => e = .returned (.slice (some ⟨b, 0, none⟩) (n + 1) c) ∧ w' = w.setCells b (n * sz) vs
def InsB (P : Program) (f e sz by_ : Nat) (z : Value) : Prop := ∀ (base : Option Addr) (n c vb vc : Nat) (cs vs : List Value) (w : World), n ≤ c → c < n + 1 → (n + 1) * by_ ≤ 140737488355328 →
  cs.length = n * sz → vs.length = sz → (base = none → n = 0) → (∀ a, base = some a → ∀ j v, cs[j]? = some v → w.cell? (a.add j) = some v) →
  (∀ j v, vs[j]? = some v → w.cell? ⟨vb, j, none⟩ = some v) → (∀ v ∈ vs, v.oneCell' = true) →
  Calls P f #[.slice base n c, .int .i64 n, .slice (some ⟨vb, 0, none⟩) 1 vc] w fun ed w' =>
    ed = .returned (.slice (some ⟨w.heap.size, 0, none⟩) (n + 1) (grownCap w (n + 1) c e)) ∧
    w' = w.drew.alloc (.cells ((cs ++ vs).toArray ++ Builtin.zeroCells z.cells (grownCap w (n + 1) c e - (n + 1))) e)
def InsC (P : Program) (f sz : Nat) : Prop := ∀ (b n c i vb vc : Nat) (cs vs : List Value) (w : World), i < n → n + 1 ≤ c → c ≤ 9223372036854775807 → vb ≠ b → cs.length = n * sz → vs.length = sz →
  (∀ j v, cs[j]? = some v → w.cell? ⟨b, j, none⟩ = some v) → (∀ j, j < (n + 1) * sz → (w.cell? ⟨b, j, none⟩).isSome = true) → (∀ j, j < (n + 1) * sz → w.frozen? ⟨b, j, none⟩ = false) →
  (∀ j v, vs[j]? = some v → w.cell? ⟨vb, j, none⟩ = some v) → (∀ v ∈ cs, v.oneCell' = true) → (∀ v ∈ vs, v.oneCell' = true) →
  ∀ (tA tB : TypeId) (kA kB : Nat), w.shape? vb = some (tA, kA) → w.shape? b = some (tB, kB) → kB ≠ 0 → w.frozen? ⟨vb, 0, none⟩ = false → w.frozen? ⟨vb, kA, none⟩ = false →
  Calls P f #[.slice (some ⟨b, 0, none⟩) n c, .int .i64 i, .slice (some ⟨vb, 0, none⟩) 1 vc] w fun e w' =>
    e = .returned (.slice (some ⟨b, 0, none⟩) (n + 1) c) ∧ w' = (w.drew.setCells b ((i + 1) * sz) (cs.drop (i * sz))).setCells b (i * sz) vs
def InsD (P : Program) (f e sz by_ : Nat) (z : Value) : Prop := ∀ (b n c i vb vc : Nat) (cs vs : List Value) (w : World), i < n → n ≤ c → c < n + 1 → (n + 1) * by_ ≤ 140737488355328 → cs.length = n * sz → vs.length = sz →
  (∀ j v, cs[j]? = some v → w.cell? ⟨b, j, none⟩ = some v) → (∀ j v, vs[j]? = some v → w.cell? ⟨vb, j, none⟩ = some v) → (∀ v ∈ cs, v.oneCell' = true) → (∀ v ∈ vs, v.oneCell' = true) →
  Calls P f #[.slice (some ⟨b, 0, none⟩) n c, .int .i64 i, .slice (some ⟨vb, 0, none⟩) 1 vc] w fun ed w' =>
    ed = .returned (.slice (some ⟨w.heap.size, 0, none⟩) (n + 1) (grownCap w (n + 1) c e)) ∧
    w' = (((w.alloc (.cells ((cs.take (i * sz)).toArray ++ Builtin.zeroCells z.cells (n + 1 - i) ++ Builtin.zeroCells z.cells (grownCap w (n + 1) c e - (n + 1))) e)).drew.setCells w.heap.size (i * sz) vs).drew).setCells w.heap.size ((i + 1) * sz) (cs.drop (i * sz))
set_option maxHeartbeats 1000000 in
theorem rawIns_of {f e sz by_ : Nat} (z : Value) (hsz : 0 < sz) (hby : 0 < by_) (hz : z.cells.size = sz) (hA : InsA P f sz) (hB : InsB P f e sz by_ z) (hC : InsC P f sz) (hD : InsD P f e sz by_ z) : RawIns P f e sz by_ := by
  intro w base n c i vb vc cur vcur hin hnc hcm hbig hb hnil hvb hvs hvc h1c h1v
  have hc63 : c ≤ 9223372036854775807 := by unfold maxLen at hcm; omega
  have hn1 : n + 1 ≤ 140737488355328 := Nat.le_trans (Nat.le_mul_of_pos_right _ hby) hbig
  have hvsz : sz ≤ vcur.size := by rw [hvs]; exact Nat.le_mul_of_pos_left _ hvc
  obtain ⟨vs, evs⟩ : ∃ vs, vs = vcur.toList.take sz := ⟨_, rfl⟩
  have hvl : vs.length = sz := by rw [evs, List.length_take, Array.length_toList]; omega
  have hvg : ∀ j, j < sz → (vs[j]?).getD default = vcur.getD j default := fun j hj => by
    rw [evs, gDa, List.getElem?_take, if_pos hj]
  have hvc' : ∀ j v, vs[j]? = some v → w.cell? ⟨vb, j, none⟩ = some v := fun j v hj => by
    rw [cellAt hvb]
    rw [evs, List.getElem?_take] at hj
    split at hj
    · rw [← Array.getElem?_toList]; exact hj
    · cases hj
  have h1v' : ∀ v ∈ vs, v.oneCell' = true := fun v hv => by
    obtain ⟨j, hj, rfl⟩ := List.getElem_of_mem hv
    have := h1v j (by omega)
    rw [← hvg j (by omega), List.getElem?_eq_getElem hj] at this
    exact this
  obtain ⟨cs, ecs⟩ : ∃ cs, cs = cur.toList.take (n * sz) := ⟨_, rfl⟩
  have hcur : ∀ b, base = some b → n * sz ≤ cur.size := fun b e => by rw [(hb b e).2.1]; exact Nat.mul_le_mul_right _ hnc
  have hcl : cs.length = n * sz := by
    rw [ecs, List.length_take, Array.length_toList]
    cases hbase : base with
    | none => rw [(hnil hbase).1]; omega
    | some b => have := hcur b hbase; omega
  have hcg : ∀ k, k < n * sz → (cs[k]?).getD default = cur.getD k default := fun k hk => by
    rw [ecs, gDa, List.getElem?_take, if_pos hk]
  have h1c' : ∀ v ∈ cs, v.oneCell' = true := fun v hv => by
    obtain ⟨j, hj, rfl⟩ := List.getElem_of_mem hv
    have := h1c j (by omega)
    rw [← hcg j (by omega), List.getElem?_eq_getElem hj] at this
    exact this
  have hcc : ∀ b, base = some b → ∀ j v, cs[j]? = some v → w.cell? ⟨b, j, none⟩ = some v := fun b e j v hj => by
    rw [cellAt (hb b e).1]
    rw [ecs, List.getElem?_take] at hj
    split at hj
    · rw [← Array.getElem?_toList]; exact hj
    · cases hj
  have hnsz : (n + 1) * sz = n * sz + sz := by rw [Nat.add_mul, Nat.one_mul]
  have hisz : (i + 1) * sz = i * sz + sz := by rw [Nat.add_mul, Nat.one_mul]
  have hile : i * sz ≤ n * sz := Nat.mul_le_mul_right _ hin
  by_cases hroom : n + 1 ≤ c
  · -- there is room: there is a block
    obtain ⟨b, rfl⟩ : ∃ b, base = some b := by
      cases hbase : base with
      | none => have := (hnil hbase).2; omega
      | some b => exact ⟨b, rfl⟩
    obtain ⟨hbh, hbs, hbv⟩ := hb b rfl
    have hfit : (n + 1) * sz ≤ cur.size := by rw [hbs]; exact Nat.mul_le_mul_right _ hroom
    have hsp : ∀ j, j < (n + 1) * sz → (w.cell? ⟨b, j, none⟩).isSome = true := fun j hj => by
      rw [cellAt hbh, Array.getElem?_eq_getElem (by omega)]; rfl
    have hbl : b < w.heap.size := (Array.getElem?_eq_some_iff.1 hbh).1
    by_cases hin' : i = n
    · subst hin'
      refine (hA b i c vb vc vs w hroom hc63 hvl (fun j hj => hsp _ (by omega)) (fun j hj => frozenAt hbh _) hvc' h1v').mono ?_
      rintro ed w' ⟨rfl, rfl⟩
      obtain ⟨s1, s2, s3, s4, s5, s6⟩ := setCells_blk b e vs cur (i * sz) w hbh (by omega)
      refine ⟨b, c, _, rfl, s1, ?_, hroom, hcm, .inr rfl, fun k hk hne => s2 k (fun e => hne (by rw [e])), s4, s5, s6, by rw [s3]; exact Nat.le_refl _, by rw [s3]; exact hbl, fun x j hx hj => ?_⟩
      · simp only [List.size_toArray, List.length_append, List.length_take, List.length_drop, Array.length_toList]; omega
      · rw [gD]
        by_cases e1 : x < i
        · have := mulLt e1 hj
          rw [if_pos e1, gDa, List.getElem?_append_left (by rw [List.length_take, Array.length_toList]; omega), List.getElem?_take, if_pos this]
        · have e2 : x = i := by omega
          subst e2
          have hl1 : (cur.toList.take (x * sz)).length = x * sz := by rw [List.length_take, Array.length_toList]; omega
          rw [if_neg e1, if_pos rfl, List.getElem?_append_right (by omega), hl1, List.getElem?_append_left (by omega), show x * sz + j - x * sz = j by omega]
          exact hvg j hj
    · have hlt : i < n := by omega
      refine (hC b n c i vb vc cs vs w hlt hroom hc63 (fun e => hbv e.symm) hcl hvl (hcc b rfl) hsp (fun j _ => frozenAt hbh _) hvc' h1c' h1v' _ _ _ _ (shapeAt hvb) (shapeAt hbh) (by have := mulLt (show n < n + 1 by omega) hsz; omega) (frozenAt hvb _) (frozenAt hvb _)).mono ?_
      rintro ed w' ⟨rfl, rfl⟩
      have hdl : (cs.drop (i * sz)).length = n * sz - i * sz := by rw [List.length_drop, hcl]
      obtain ⟨s1, s2, s3, s4, s5, s6⟩ := setCells_blk b e (cs.drop (i * sz)) cur ((i + 1) * sz) w.drew hbh (by omega)
      obtain ⟨t1, t2, t3, t4, t5, t6⟩ := setCells_blk b e vs _ (i * sz) _ s1 (by simp only [List.size_toArray, List.length_append, List.length_take, List.length_drop, Array.length_toList]; omega)
      refine ⟨b, c, _, rfl, t1, ?_, hroom, hcm, .inr rfl, fun k hk hne => (t2 k (fun e => hne (by rw [e]))).trans (s2 k (fun e => hne (by rw [e]))), t4.trans s4, t5.trans s5, t6.trans s6, by rw [t3, s3]; exact Nat.le_refl _, by rw [t3, s3]; exact hbl, fun x j hx hj => ?_⟩
      · simp only [List.size_toArray, List.length_append, List.length_take, List.length_drop, Array.length_toList]; omega
      · rw [gD]
        by_cases e1 : x < i
        · have := mulLt e1 hj
          rw [if_pos e1, gDa, List.getElem?_append_left (by simp only [List.length_append, List.length_take, List.length_drop, Array.length_toList]; omega), List.getElem?_take, if_pos this,
            List.getElem?_append_left (by simp only [List.length_take, Array.length_toList]; omega), List.getElem?_take, if_pos (by omega)]
        · rw [if_neg e1]
          have hl1 : ((cur.toList.take ((i + 1) * sz) ++ (cs.drop (i * sz) ++ cur.toList.drop ((i + 1) * sz + (cs.drop (i * sz)).length))).take (i * sz)).length = i * sz := by
            simp only [List.length_append, List.length_take, List.length_drop, Array.length_toList]; omega
          by_cases e2 : x = i
          · subst e2
            rw [if_pos rfl, List.getElem?_append_right (by rw [hl1]; omega), hl1, List.getElem?_append_left (by omega), show x * sz + j - x * sz = j by omega]
            exact hvg j hj
          · have hgt : (i + 1) * sz ≤ x * sz := Nat.mul_le_mul_right _ (by omega)
            have hx1 : (x - 1) * sz + sz = x * sz := by rw [← Nat.succ_mul]; congr 1; omega
            have hxl : (x - 1) * sz + j < n * sz := mulLt (by omega) hj
            have hl2 : (cur.toList.take ((i + 1) * sz)).length = (i + 1) * sz := by rw [List.length_take, Array.length_toList]; omega
            rw [if_neg e2, List.getElem?_append_right (by rw [hl1]; omega), hl1, List.getElem?_append_right (by omega), List.getElem?_drop,
              show i * sz + vs.length + (x * sz + j - i * sz - vs.length) = x * sz + j by omega,
              List.getElem?_append_right (by omega), hl2, List.getElem?_append_left (by omega), List.getElem?_drop, show i * sz + (x * sz + j - (i + 1) * sz) = (x - 1) * sz + j by omega]
            exact hcg _ hxl
  · -- a new row
    have hcn : c < n + 1 := by omega
    obtain ⟨G, hG⟩ : ∃ G, G = grownCap w (n + 1) c e := ⟨_, rfl⟩
    have hGn : n + 1 ≤ G := by rw [hG]; exact grownCap_ge w _ _ _
    have hGm : G ≤ maxLen := by rw [hG]; exact grownCap_le_maxLen w (n + 1) c e (by unfold maxLen; omega)
    have hGs : n * sz + sz + (G - (n + 1)) * sz = G * sz := by rw [← hnsz, ← Nat.add_mul]; congr 1; omega
    by_cases hin' : i = n
    · subst hin'
      refine (hB (base.map fun b => ⟨b, 0, none⟩) i c vb vc cs vs w hnc hcn hbig hcl hvl (fun h => by cases hbase : base with | none => exact (hnil hbase).1 | some b => rw [hbase] at h; cases h)
        (fun a h j v hj => by
          cases hbase : base with
          | none => rw [hbase] at h; cases h
          | some b =>
            rw [hbase] at h
            simp only [Option.map_some, Option.some.injEq] at h
            subst h
            have := hcc b hbase j v hj
            rw [Addr.add_lit, Nat.zero_add]
            exact this) hvc' h1v').mono ?_
      rw [← hG]
      rintro ed w' ⟨rfl, rfl⟩
      refine ⟨w.heap.size, G, _, rfl, heap_alloc_new w.drew _, ?_, hGn, hGm, .inl rfl, fun k hk _ => RowKit.Below.heap_alloc w.drew _ k hk, rfl, rfl, rfl, by simp, by simp, fun x j hx hj => ?_⟩
      · simp only [Array.size_append, List.size_toArray, List.length_append, size_zeroCells, hz, hcl, hvl]; exact hGs
      · rw [gDa, Array.toList_append, List.getElem?_append_left (by
          have := mulLt hx hj
          simp only [List.length_append]; omega)]
        by_cases e1 : x < i
        · have := mulLt e1 hj
          rw [if_pos e1, List.getElem?_append_left (by omega)]
          exact hcg _ this
        · have e2 : x = i := by omega
          subst e2
          rw [if_neg e1, if_pos rfl, List.getElem?_append_right (by omega), show x * sz + j - cs.length = j by omega]
          exact hvg j hj
    · have hlt : i < n := by omega
      obtain ⟨b, rfl⟩ : ∃ b, base = some b := by
        cases hbase : base with
        | none => have := (hnil hbase).1; omega
        | some b => exact ⟨b, rfl⟩
      refine (hD b n c i vb vc cs vs w hlt hnc hcn hbig hcl hvl (hcc b rfl) hvc' h1c' h1v').mono ?_
      rw [← hG]
      rintro ed w' ⟨rfl, rfl⟩
      have hni : (n + 1 - i) * sz = n * sz + sz - i * sz := by rw [Nat.sub_mul, hnsz]
      have hdl : (cs.drop (i * sz)).length = n * sz - i * sz := by rw [List.length_drop, hcl]
      obtain ⟨ROW, hROW⟩ : ∃ ROW : Array Value, ROW = (cs.take (i * sz)).toArray ++ Builtin.zeroCells z.cells (n + 1 - i) ++ Builtin.zeroCells z.cells (G - (n + 1)) := ⟨_, rfl⟩
      have hRs : ROW.size = G * sz := by
        rw [hROW]
        simp only [Array.size_append, List.size_toArray, List.length_take, size_zeroCells, hz, hcl]
        omega
      have hRg : ∀ k, k < i * sz → (ROW.toList[k]?).getD default = cur.getD k default := fun k hk => by
        rw [hROW, Array.toList_append, Array.toList_append, List.append_assoc, List.getElem?_append_left (by simp only [List.length_take, hcl]; omega), List.getElem?_take, if_pos hk]
        exact hcg k (by omega)
      rw [← hROW]
      have hh : ((w.alloc (.cells ROW e)).drew).heap[w.heap.size]? = some (.cells ROW e (0, 0)) := heap_alloc_new w _
      obtain ⟨s1, s2, s3, s4, s5, s6⟩ := setCells_blk w.heap.size e vs ROW (i * sz) _ hh (by omega)
      obtain ⟨t1, t2, t3, t4, t5, t6⟩ := setCells_blk w.heap.size e (cs.drop (i * sz)) _ ((i + 1) * sz) (((w.alloc (.cells ROW e)).drew.setCells w.heap.size (i * sz) vs).drew) s1 (by simp only [List.size_toArray, List.length_append, List.length_take, List.length_drop, Array.length_toList]; omega)
      have hsz2 : (((w.alloc (.cells ROW e)).drew.setCells w.heap.size (i * sz) vs).drew).heap.size = w.heap.size + 1 := by
        show ((w.alloc (.cells ROW e)).drew.setCells w.heap.size (i * sz) vs).heap.size = _
        rw [s3]; simp
      refine ⟨w.heap.size, G, _, rfl, t1, ?_, hGn, hGm, .inl rfl, fun k hk _ => (t2 k (by omega)).trans ((s2 k (by omega)).trans (RowKit.Below.heap_alloc w _ k hk)), t4.trans s4, t5.trans s5, t6.trans s6, by rw [t3, hsz2]; omega, by rw [t3, hsz2]; omega, fun x j hx hj => ?_⟩
      · simp only [List.size_toArray, List.length_append, List.length_take, List.length_drop, Array.length_toList]; omega
      · rw [gD]
        have hl1 : (ROW.toList.take (i * sz)).length = i * sz := by rw [List.length_take, Array.length_toList]; omega
        by_cases e1 : x < i
        · have := mulLt e1 hj
          rw [if_pos e1, List.getElem?_append_left (by simp only [List.length_append, List.length_take, List.length_drop, Array.length_toList]; omega), List.getElem?_take, if_pos (by omega),
            List.getElem?_append_left (by omega), List.getElem?_take, if_pos this]
          exact hRg _ this
        · rw [if_neg e1]
          by_cases e2 : x = i
          · subst e2
            rw [if_pos rfl, List.getElem?_append_left (by simp only [List.length_append, List.length_take, List.length_drop, Array.length_toList]; omega), List.getElem?_take, if_pos (by omega),
              List.getElem?_append_right (by omega), hl1, List.getElem?_append_left (by omega), show x * sz + j - x * sz = j by omega]
            exact hvg j hj
          · have hgt : (i + 1) * sz ≤ x * sz := Nat.mul_le_mul_right _ (by omega)
            have hx1 : (x - 1) * sz + sz = x * sz := by rw [← Nat.succ_mul]; congr 1; omega
            have hxl : (x - 1) * sz + j < n * sz := mulLt (by omega) hj
            have hl2 : ((ROW.toList.take (i * sz) ++ (vs ++ ROW.toList.drop (i * sz + vs.length))).take ((i + 1) * sz)).length = (i + 1) * sz := by
              simp only [List.length_append, List.length_take, List.length_drop, Array.length_toList]; omega
            rw [if_neg e2, List.getElem?_append_right (by rw [hl2]; omega), hl2, List.getElem?_append_left (by omega), List.getElem?_drop, show i * sz + (x * sz + j - (i + 1) * sz) = (x - 1) * sz + j by omega]
            exact hcg _ hxl
end Go.Sm
