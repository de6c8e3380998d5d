import Derived.Test.YtkciklpdhhcblaaSm18
/-
  Helps for loops over rows.
-/
namespace Go.Sm
theorem wrapI {i : Int} (h0 : -9223372036854775808 ≤ i) (h : i ≤ 9223372036854775807) : IntKind.i64.wrap i = i := by
  show (if (true && decide (i % 18446744073709551616 ≥ 9223372036854775808)) = true then i % 18446744073709551616 - 18446744073709551616 else i % 18446744073709551616) = i
  simp only [Bool.true_and, decide_eq_true_eq, ge_iff_le]
  split <;> omega
theorem wrapN {n : Nat} (h : n ≤ 9223372036854775807) : IntKind.i64.wrap (n : Int) = n := wrapI (by omega) (by omega)
theorem wrapS {n : Nat} (h : n < 9223372036854775807) : IntKind.i64.wrap ((n : Int) + 1) = ((n + 1 : Nat) : Int) := by
  rw [wrapI] <;> omega
@[simp] theorem Ow_sc {v : Value} : Ow .s (.sc v) = True := eq_true .sc
@[simp] theorem Full_s {l : Lf} : Full .s l = True := eq_true .s
theorem full_flat {e : Nat} {ms : List Md} {z : List Lf} {rows : List (List Lf)} (h : allS z.length ms) : Full (.o e (fun _ => ms)) (.ls z rows) := by
  refine .o fun i j _ hj => ?_
  rw [show md (fun _ => ms) i j = .s from allS_get h hj]
  exact .s
attribute [simp] full_flat OwRs OwML
/-- Rows that are filled one by one. -/
def fillR (z : List Lf) (L : List (List Lf)) (i : Nat) : List (List Lf) := L.take i ++ List.replicate (L.length - i) z
theorem fillR_zero (z : List Lf) (L : List (List Lf)) : fillR z L 0 = List.replicate L.length z := by simp [fillR]
theorem fillR_all (z : List Lf) (L : List (List Lf)) {i : Nat} (h : L.length ≤ i) : fillR z L i = L := by
  simp [fillR, List.take_of_length_le h, show L.length - i = 0 by omega]
theorem fillR_len (z : List Lf) (L : List (List Lf)) {i : Nat} (h : i ≤ L.length) : (fillR z L i).length = L.length := by simp [fillR]; omega
theorem fillR_set (z : List Lf) (L : List (List Lf)) {i : Nat} (h : i < L.length) : (fillR z L i).set i (L.getD i z) = fillR z L (i + 1) := by
  apply List.ext_getElem?
  intro j
  unfold fillR
  rw [List.getElem?_set]
  by_cases hj : i = j
  · subst hj
    rw [if_pos rfl, if_pos (by simp; omega), List.getElem?_append_left (by simp; omega), List.getElem?_take, if_pos (by omega)]
    rw [List.getD_eq_getElem?_getD, List.getElem?_eq_getElem h]
    rfl
  · rw [if_neg hj]
    by_cases hlt : j < i
    · rw [List.getElem?_append_left (by simp; omega), List.getElem?_append_left (by simp; omega), List.getElem?_take, List.getElem?_take, if_pos hlt, if_pos (by omega)]
    · rw [List.getElem?_append_right (by simp; omega), List.getElem?_append_right (by simp; omega)]
      simp only [List.length_take, List.getElem?_replicate]
      rw [show j - min i L.length = (j - min (i + 1) L.length) + 1 by omega]
      by_cases h2 : j < L.length
      · rw [if_pos (by omega), if_pos (by omega)]
      · rw [if_neg (by omega), if_neg (by omega)]
/-- What a loop's head keeps: slots, boxes, slices of the call's own. -/
def Env.kb (E : Env) (vs bs rs : List Nat) : Env := { E with sl := keepL E.sl vs, bx := keepL E.bx bs, rt := keepL E.rt rs }
theorem Gh.kb (E : Env) (vs bs rs : List Nat) : Gh E (E.kb vs bs rs) := fun _ _ tag hv _ _ h =>
  ⟨tag, hv, h.weak rfl (fun t sv h => lkp_keepL _ t sv vs h) (fun b ls h => lkp_keepL _ b ls bs h) (fun r x h => lkp_keepL _ r x rs h)⟩
attribute [simp] Env.kb
end Go.Sm
