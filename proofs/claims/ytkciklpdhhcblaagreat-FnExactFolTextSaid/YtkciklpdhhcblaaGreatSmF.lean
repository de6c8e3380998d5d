import Derived.Test.YtkciklpdhhcblaaGreatSmE
/-
  Composite values: structs and slices out of parts.
-/
namespace Go.Sm
open Go.RowKit

variable {P : Program} {ti : TT} {E : Env} {tag tag' tag0 : Nat → Tag} {hv hv' : Hv} {a : Act} {w w' w0 : World} {t d : Nat}

/-! ### slices out of parts -/
def chunks {α : Type} (sz : Nat) : Nat → List α → List (List α)
  | 0, _ => []
  | n + 1, F => F.take sz :: chunks sz n (F.drop sz)
theorem chunks_len {α : Type} {sz : Nat} : ∀ {n : Nat} {F : List α}, (chunks sz n F).length = n
  | 0, _ => rfl
  | n + 1, F => by simp [chunks, chunks_len]
theorem chunks_get {α : Type} {sz : Nat} : ∀ {n i : Nat} {F : List α}, i < n → (chunks sz n F)[i]? = some ((F.drop (i * sz)).take sz)
  | 0, _, _, h => by omega
  | n + 1, 0, F, _ => by simp [chunks]
  | n + 1, i + 1, F, h => by
    simp only [chunks, List.getElem?_cons_succ]
    rw [chunks_get (by omega), List.drop_drop, Nat.add_mul, Nat.one_mul, Nat.add_comm]
def Env.yvsR (E : Env) (ms : List Md) : List (List LV) → Option (List (List (Md × Lf)))
  | [] => some []
  | r :: rs => match E.yvsM r ms, E.yvsR ms rs with
    | some y, some ys => some (y :: ys)
    | _, _ => none
theorem yvsR_get {ms : List Md} : ∀ {rs : List (List LV)} {ys : List (List (Md × Lf))} {i : Nat} {r : List LV}, E.yvsR ms rs = some ys → rs[i]? = some r → ∃ y, ys[i]? = some y ∧ E.yvsM r ms = some y
  | [], ys, i, r, h, hi => by simp at hi
  | x :: rs, ys, i, r, h, hi => by
    simp only [Env.yvsR] at h
    split at h
    · rename_i y ys' h1 h2
      cases h
      cases i with
      | zero =>
        simp only [List.getElem?_cons_zero, Option.some.injEq] at hi
        subst hi
        exact ⟨y, rfl, h1⟩
      | succ i =>
        simp only [List.getElem?_cons_succ] at hi
        obtain ⟨y', h3, h4⟩ := yvsR_get h2 hi
        exact ⟨y', by simpa using h3, h4⟩
    · cases h
theorem yvsR_len {ms : List Md} : ∀ {rs : List (List LV)} {ys : List (List (Md × Lf))}, E.yvsR ms rs = some ys → ys.length = rs.length
  | [], ys, h => by simp only [Env.yvsR, Option.some.injEq] at h; subst h; rfl
  | x :: rs, ys, h => by
    simp only [Env.yvsR] at h
    split at h
    · rename_i y ys' h1 h2
      cases h
      simp [yvsR_len h2]
    · cases h
def colsOf : List (List Md) → Nat → List Md
  | [], _ => []
  | [m], _ => m
  | m :: r, k => if k = 0 then m else colsOf r (k - 1)
theorem colsOf_get : ∀ {ms : List (List Md)} {k : Nat} {m : List Md}, ms[k]? = some m → colsOf ms k = m
  | [], k, m, h => by simp at h
  | [m], k, m', h => by
    cases k with
    | zero => simpa [colsOf] using h
    | succ k => simp at h
  | m :: m2 :: r, k, m', h => by
    cases k with
    | zero => simpa [colsOf] using h
    | succ k =>
      simp only [List.getElem?_cons_succ] at h
      simp only [colsOf, Nat.add_sub_cancel, Nat.add_one_ne_zero, if_false]
      exact colsOf_get h
def padM : List Md → List Lf → List Md
  | _, [] => []
  | ms, _ :: z => hdM ms :: padM ms.tail z
/-- The same, where there may be none: modes of what would stand there. -/
def colsE (ms : List Md) (z : List Lf) (l : List (List Md)) : Nat → List Md := match l with
  | [] => fun _ => padM ms z
  | m :: r => colsOf (m :: r)
theorem colsE_get {ms0 : List Md} {z : List Lf} {ms : List (List Md)} {k : Nat} {m : List Md} (h : ms[k]? = some m) : colsE ms0 z ms k = m := by
  cases ms with
  | nil => simp at h
  | cons x r => exact colsOf_get h
def mvsR (d : Nat) : Nat → List (List LV) → MvL
  | _, [] => []
  | i, r :: rs => mvs [d] i 0 r ++ mvsR d (i + 1) rs
theorem mvsR_mem {d : Nat} {x : Nat × List Nat} : ∀ {rs : List (List LV)} {i : Nat}, x ∈ mvsR d i rs → ∃ m j r, rs[m]? = some r ∧ r[j]? = some (.r [x.1]) ∧ x.2 = [d, i + m, j]
  | [], i, h => by simp [mvsR] at h
  | r :: rs, i, h => by
    simp only [mvsR, List.mem_append] at h
    rcases h with h | h
    · obtain ⟨j, h1, h2⟩ := mvs_mem h
      exact ⟨0, j, r, rfl, h1, by rw [h2]; simp⟩
    · obtain ⟨m, j, r', h1, h2, h3⟩ := mvsR_mem h
      exact ⟨m + 1, j, r', by simpa using h1, h2, by rw [h3, show i + 1 + m = i + (m + 1) by omega]⟩
theorem mvsR_of {d k : Nat} : ∀ {rs : List (List LV)} {i m j : Nat} {r : List LV}, rs[m]? = some r → r[j]? = some (.r [k]) → (k, [d, i + m, j]) ∈ mvsR d i rs
  | [], i, m, j, r, h, _ => by simp at h
  | x :: rs, i, 0, j, r, h, hj => by
    simp only [List.getElem?_cons_zero, Option.some.injEq] at h
    subst h
    have := mvs_of (p := [d]) (i := i) (j := 0) hj
    simp only [mvsR, List.mem_append]
    left
    simpa using this
  | x :: rs, i, m + 1, j, r, h, hj => by
    simp only [List.getElem?_cons_succ] at h
    have := mvsR_of (d := d) (i := i + 1) h hj
    rw [show i + 1 + m = i + (m + 1) by omega] at this
    simp only [mvsR, List.mem_append]
    exact .inr this

def iotaO (n : Nat) (parts : List (Nat × Operand)) : Bool := parts.length == n
/-- A slice of the call's own, out of its cells. -/
def Env.bs (E : Env) (d e n : Nat) (ms : List Md) (z : List Lf) (F : List LV) : Option (Prop × Env) :=
  match E.yvsR ms (chunks z.length n F) with
  | some ys => some (((mvsR d 0 (chunks z.length n F)).map (·.1)).Nodup ∧ F.length = n * z.length, E.re (rootR (mvsR d 0 (chunks z.length n F)) d) [] [] [(d, .o e (colsE ms z (ys.map fun r => r.map (·.1))), .ls z (ys.map fun r => r.map (·.2)))])
  | none => none

theorem St.bs (hs : St w0 tag0 E tag hv a w) (hd : d < 1000) {e n : Nat} {ms : List Md} {z : List Lf} {F : List LV} {C : Prop} {E' : Env} {cur : Array Value} (hn : n ≤ maxLen) (h : E.bs d e n ms z F = some (C, E')) (hC : C) (hall : All2 (LR tag hv w) F cur.toList) :
    ∃ tg hh, St w0 tag0 E' tg hh a (w.alloc (.cells cur e)) ∧ SR tg hh (w.alloc (.cells cur e)) (.v false [.r [d]]) (.slice (some ⟨w.heap.size, 0, none⟩) n n) := by
  unfold Env.bs at h
  split at h
  · rename_i ys hys
    cases h
    obtain ⟨hnd, hF⟩ := hC
    have hlen := yvsR_len hys
    rw [chunks_len] at hlen
    have hsz : cur.size = n * z.length := by rw [← hF, hall.len]; simp
    have hrow : ∀ i j, i < n → j < z.length → ∃ r, (chunks z.length n F)[i]? = some r ∧ r[j]? = F[i * z.length + j]? ∧ i * z.length + j < F.length := fun i j hi hj => by
      refine ⟨_, chunks_get hi, ?_, ?_⟩
      · rw [List.getElem?_take, if_pos hj, List.getElem?_drop]
      · rw [hF]
        have h1 : (i + 1) * z.length ≤ n * z.length := Nat.mul_le_mul_right _ (by omega)
        rw [Nat.add_mul] at h1
        omega
    refine ⟨_, _, hs.newRoot hd (L := mvsR d 0 (chunks z.length n F)) (fun x hx => ?_) (fun x hx y hy he => ?_) hnd (by simpa using hlen) (Nat.le_refl n) hn hsz (fun i hi => ?_) (fun i j hi hj => ?_), VV_one ⟨by simp [rootH], _, _, _, rfl⟩⟩
    · obtain ⟨m, j, r, _, _, h3⟩ := mvsR_mem hx
      exact ⟨_, _, h3⟩
    · obtain ⟨m, j, r, h1, h2, h3⟩ := mvsR_mem hx
      obtain ⟨m', j', r', h1', h2', h3'⟩ := mvsR_mem hy
      rw [h3, h3'] at he
      simp only [List.cons.injEq, Nat.zero_add, and_true, true_and] at he
      obtain ⟨rfl, rfl⟩ := he
      rw [h1] at h1'
      cases h1'
      rw [h2] at h2'
      simp only [Option.some.injEq, LV.r.injEq, List.cons.injEq, and_true] at h2'
      exact Prod.ext h2' (by rw [h3, h3'])
    · obtain ⟨y, h1, h2⟩ := yvsR_get hys (chunks_get hi)
      have h3 := yvsM_len h2
      rw [List.getD_eq_getElem?_getD, List.getElem?_map, h1]
      simp only [Option.map_some, Option.getD_some, List.length_map, h3, List.length_take, List.length_drop, hF]
      have h1 : (i + 1) * z.length ≤ n * z.length := Nat.mul_le_mul_right _ (by omega)
      rw [Nat.add_mul] at h1
      omega
    · obtain ⟨r, h1, h2, h3⟩ := hrow i j hi hj
      obtain ⟨yr, h4, h5⟩ := yvsR_get hys h1
      rw [List.getElem?_eq_getElem h3] at h2
      obtain ⟨y, m, h6, h7⟩ := yvsM_get h5 h2
      refine ⟨_, y, m, hall.get _ _ _ (List.getElem?_eq_getElem h3) ?_, h7, ?_, ?_, fun k hk => ?_, fun z' hz' k hk => ?_⟩
      · have : i * z.length + j < cur.size := by rw [hsz, ← hF]; exact h3
        rw [Array.getElem?_toList, Array.getD_eq_getD_getElem?, Array.getElem?_eq_getElem this]
        rfl
      · simp only [md]
        rw [colsE_get (m := yr.map (·.1)) (by rw [List.getElem?_map, h4]; rfl), List.getD_eq_getElem?_getD, List.getElem?_map, h6]
        rfl
      · simp only [lf]
        rw [List.getD_eq_getElem?_getD (l := ys.map _), List.getElem?_map, h4]
        simp only [Option.map_some, Option.getD_some]
        rw [List.getD_eq_getElem?_getD, List.getElem?_map, h6]
        rfl
      · rw [hk] at h2
        have := mvsR_of (d := d) (i := 0) h1 h2
        simpa using this
      · obtain ⟨m', j', r', q1, q2, q3⟩ := mvsR_mem hk
        simp only [List.cons.injEq, Nat.zero_add, and_true, true_and] at q3
        obtain ⟨rfl, rfl⟩ := q3
        rw [h1] at q1
        cases q1
        rw [h2, hz'] at q2
        cases q2
  · cases h
end Go.Sm
