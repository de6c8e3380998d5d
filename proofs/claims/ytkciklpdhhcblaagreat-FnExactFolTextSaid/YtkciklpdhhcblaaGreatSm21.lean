import Derived.Test.YtkciklpdhhcblaaGreatSm20
import Derived.OpenShut
import Derived.ShutString
import Derived.ChangeOld
import Derived.Below
import Derived.Carry
import Derived.WideShapes
import Derived.JoinedOf
import Derived.KernelRfl
/-
  The statement's frame, generic: what an argument reads as ('arg_of_trod'), what a contract that answers true says of the call ('calls_of_vc').
-/
namespace Go.Sm
open Go.RowKit Go.WideShapes

variable {P : Program} {ti : TT} {ck : CT}

theorem FitK.list {α : Type} {e : Nat} {l : Lf} (enc : α → List Lf) (p : α → Prop) (hd : ∀ row, Fit ti ck e row → ∃ a, row = enc a ∧ p a) (h : FitK ti ck (.sl e) l) :
    ∃ xs : List α, l = .ls (ti e).z (xs.map enc) ∧ xs.length ≤ 9223372036854775807 ∧ ∀ x ∈ xs, p x := by
  cases h with
  | @sl _ rows hn hl h =>
  have hm : maxLen = 9223372036854775807 := by decide
  rw [hm] at hn
  have key : ∀ rows' : List (List Lf), (∀ r ∈ rows', Fit ti ck e r) → ∃ xs : List α, rows' = xs.map enc ∧ ∀ x ∈ xs, p x := by
    intro rows'
    induction rows' with
    | nil => exact fun _ => ⟨[], rfl, fun x hx => by cases hx⟩
    | cons r rs ih =>
      intro hr
      obtain ⟨a, rfl, ha⟩ := hd r (hr r (by simp))
      obtain ⟨xs, rfl, hx⟩ := ih (fun r hr' => hr r (by simp [hr']))
      refine ⟨a :: xs, rfl, fun x hx' => ?_⟩
      rcases List.mem_cons.1 hx' with rfl | h1
      · exact ha
      · exact hx x h1
  have hfit : ∀ r ∈ rows, Fit ti ck e r := by
    intro r hr
    obtain ⟨i, hi⟩ := List.getElem?_of_mem hr
    have hlt := (List.getElem?_eq_some_iff.1 hi).1
    have hrow : rows.getD i (ti e).z = r := by rw [List.getD_eq_getElem?_getD, hi]; rfl
    refine All2.of_get (by rw [← hl i hlt, hrow]) (fun j a b ha hb => ?_)
    have hj := (List.getElem?_eq_some_iff.1 ha).1
    have h1 := h i j hlt hj
    simp only [lf, hrow] at h1
    rwa [List.getD_eq_getElem?_getD, ha, List.getD_eq_getElem?_getD, hb] at h1
  obtain ⟨xs, rfl, hx⟩ := key rows hfit
  exact ⟨xs, rfl, by simpa using hn, hx⟩

theorem FitK.str_inv {l : Lf} (h : FitK ti ck .str l) : ∃ s : ByteArray, l = .sc (.string s) ∧ s.size ≤ 9223372036854775807 := by
  cases h with
  | str h => exact ⟨_, rfl, h⟩
theorem FitK.int_inv {k : IntKind} {l : Lf} (h : FitK ti ck (.int k) l) : ∃ n : Int, l = .sc (.int k n) ∧ (Lit.int k n).wf = true := by
  cases h with
  | int h => exact ⟨_, rfl, h⟩
theorem FitK.bool_inv {l : Lf} (h : FitK ti ck .bool l) : ∃ b : Bool, l = .sc (.bool b) := by
  cases h with
  | bool => exact ⟨_, rfl⟩
theorem All2.nil_inv {α β : Type} {R : α → β → Prop} {l : List β} (h : All2 R [] l) : l = [] := by cases h; rfl
theorem All2.cons_inv {α β : Type} {R : α → β → Prop} {a : α} {as : List α} {l : List β} (h : All2 R (a :: as) l) : ∃ b bs, l = b :: bs ∧ R a b ∧ All2 R as bs := by
  cases h with
  | cons h hs => exact ⟨_, _, rfl, h, hs⟩

/-- What is known of an argument: its tree. -/
theorem arg_of_trod {H : Type} {enc : TypeId × Value → H} {W : World} {base : Nat} {spare : Nat → Bool} {held : Bool} {t : Nat} {v : Value} {d : DataW H} {p : List MemPlace} {r : Reach} (hT : TGood P ti) (hC : CGood ti ck) (ht : (ti t).ok = true)
    (hval : Value.okWide P W r base t v) (h : DataW.Trod enc P W 0 spare held t v d p) : ∃ ls, Fit ti ck t ls ∧ ∀ hv, SR (shT W.heap.size) hv W (.v (ti t).agg (ls.map .s)) v := by
  obtain ⟨n, hn⟩ := h
  have key : ∃ ls, Fit ti ck t ls ∧ All2 (VR (shT W.heap.size) (fun _ => .tuple #[]) W [] .s) ls v.cells.toList := fit_of_trod hT hC n t _ _ ht hn
  obtain ⟨ls, hf, hall⟩ := key
  refine ⟨ls, hf, fun hv => ?_⟩
  have hmv : All2 (VR (shT W.heap.size) hv W [] .s) ls v.cells.toList := by
    refine hall.imp fun a b hab => ?_
    exact hab.move [] (fun b hb => ⟨hb, rfl⟩) (fun rest hr => by cases hr)
  have hu := (hT t ht).und
  have hc := (hC t ht).2
  have hlen : (ti t).agg = false → v = mkV false v.cells.toList ∧ ls.length = 1 := fun ha => by
    have hl : (ck t).length = 1 := by rw [(hC t ht).1]; exact ((hT t ht).na ha).1
    refine ⟨?_, by rw [← All2.len hf, hl]⟩
    split at hc
    · rename_i k hd
      rw [hd] at hu
      obtain ⟨n, rfl⟩ := okWide_int hu hval
      rfl
    · rename_i hd
      rw [hd] at hu
      obtain ⟨n, rfl⟩ := okWide_bool hu hval
      rfl
    · rename_i hd
      rw [hd] at hu
      obtain ⟨n, rfl⟩ := okWide_string hu hval
      rfl
    · rename_i e hd
      rw [hd] at hu
      obtain ⟨a, b, c, rfl⟩ := okWide_slice hu hval
      rfl
    · rename_i fs hd
      simp [TI.agg, hd] at ha
    · exact hc.elim
  refine ⟨v.cells.toList, ?_, All2.map_left (hmv.imp fun a b hab => hab), fun ha => by rw [List.length_map]; exact (hlen ha).2⟩
  cases ha : (ti t).agg with
  | false => exact (hlen ha).1
  | true =>
    unfold TI.agg at ha
    split at ha
    · rename_i fs hd
      rw [hd] at hu
      obtain ⟨cs, rfl, _⟩ := okWide_struct hu hval
      simp [Value.cells, mkV]
    · cases ha

theorem calls_of_vc {f : FuncId} {as : List SV} {vs : Array Value} {W : World} {b : Bool} (hvc : VC P f as [(false, [(.s, .sc (.bool b))])]) (ha : ∀ hv, All2 (SR (shT W.heap.size) hv W) as vs.toList) :
    Calls P f vs W fun e W' => e = .returned (.bool b) ∧ Below W.heap.size W W' := by
  have h := hvc.2 W (shT W.heap.size) (fun _ => .tuple #[]) vs.toList (fun b => by unfold shT; split <;> simp) (fun b hb => by simp [shT]; omega) (ha _)
  simp only [Array.toArray_toList] at h
  refine h.mono fun e W' ⟨tag', hv', rv, he, hfr, _, hrv⟩ => ⟨?_, hfr.os, hfr.tape, hfr.output, hfr.size, fun k hk => (hfr.heap k hk (by simp [shT, hk])).1⟩
  subst he
  obtain ⟨⟨cs, h1, h2, _⟩, _⟩ := hrv
  cases cs with
  | nil => exact h2.elim
  | cons c cs =>
    obtain ⟨h3, h4⟩ := h2
    cases cs with
    | cons _ _ => exact h4.elim
    | nil =>
      cases h3 with
      | sc h5 => rw [h1]; rfl
end Go.Sm
