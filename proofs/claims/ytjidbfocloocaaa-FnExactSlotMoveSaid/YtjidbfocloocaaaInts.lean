import Derived.Test.YtjidbfocloocaaaBase
import Derived.Test.YtjidbfocloocaaaSmR
import Derived.Test.YtjidbfocloocaaaSlices
namespace Go.Proofs.Ytjidbfocloocaaa
open Go Go.Proofs Go.Sm
attribute [local simp] ti eStr eInt eByte eByteS vByteS ePack cPack vPack eStrS vStrS ePub cPub vPub eSlot cSlot vSlot eSlotS vSlotS
set_option linter.unusedVariables false
set_option linter.unusedSimpArgs false


def vInts (l : List Int) : SV := list [.sc (.int .i64 0)] (l.map eInt)
def mInts (l : List Int) : ML := [(.o 3 (fun _ => [.s]), .ls [.sc (.int .i64 0)] (l.map eInt))]
@[simp] theorem row_Ints (l : List Int) (i : Nat) : (Option.map eInt l[i]?).getD [.sc (.int .i64 0)] = eInt (l[i]?.getD 0) := by cases l[i]? <;> rfl
attribute [local simp] vInts
theorem idxF_spec {α : Type} (p : α → Bool) (d : α) (l : List α) (h : l.any p = true) : ∃ i : Nat, idxF p l = i ∧ i < l.length ∧ p (l[i]?.getD d) = true ∧ (l.take i).filter (fun x => !p x) = l.take i := by
  have hi : l.findIdx p < l.length := List.findIdx_lt_length.2 (List.any_eq_true.1 h)
  refine ⟨l.findIdx p, by simp [idxF, h], hi, ?_, ?_⟩
  · rw [List.getElem?_eq_getElem hi, Option.getD_some]
    exact List.findIdx_getElem
  · rw [List.filter_eq_self]
    intro x hx
    obtain ⟨j, hj, rfl⟩ := List.getElem_of_mem hx
    rw [List.length_take] at hj
    rw [List.getElem_take]
    have := List.not_of_lt_findIdx (p := p) (xs := l) (i := j) (by omega)
    simpa using this
end Go.Proofs.Ytjidbfocloocaaa
