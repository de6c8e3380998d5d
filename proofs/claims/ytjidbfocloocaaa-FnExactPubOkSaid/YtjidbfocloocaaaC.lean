/-
  The program's PubOk returns what the reference's returns, for all arguments, and leaves its argument as it was: no condition.
-/
import Derived.Test.YtjidbfocloocaaaRows
import Derived.Test.YtjidbfocloocaaaB
import Derived.Test.YtjidbfocloocaaaSm21
namespace Go.Proofs.Ytjidbfocloocaaa
open Go Go.Proofs Go.Sm
open Go.ChangeShapes Go.WideShapes Go.ChangeAt Go.RowKit
set_option linter.unusedVariables false

theorem own : ownKnob Try.prog.godebug = none := by kernel_rfl
theorem laidOut : laidOutB Try.prog = true := by kernel_rfl

theorem fit_str (row : List Lf) (h : Fit ti ck 9 row) : ∃ s : ByteArray, row = [.sc (.string s)] ∧ s.size ≤ 9223372036854775807 := by
  obtain ⟨x, r, rfl, h1, h2⟩ := All2.cons_inv h
  obtain rfl := All2.nil_inv h2
  obtain ⟨s, rfl, hs⟩ := h1.str_inv
  exact ⟨s, rfl, hs⟩
theorem fit_pub (ls : List Lf) (h : Fit ti ck 24 ls) : ∃ l : List ByteArray, ls = [.ls zs (strs l)] ∧ l.length ≤ 9223372036854775807 ∧ ∀ s ∈ l, s.size ≤ 9223372036854775807 := by
  obtain ⟨x, r, rfl, h1, h2⟩ := All2.cons_inv h
  obtain rfl := All2.nil_inv h2
  obtain ⟨l, rfl, hl, hs⟩ := h1.list (fun s : ByteArray => [.sc (.string s)]) (fun s => s.size ≤ 9223372036854775807) fit_str
  exact ⟨l, rfl, hl, hs⟩

set_option maxRecDepth 100000 in
theorem lifted (os : Os) (started : os.Started) (H : Type) (enc : TypeId × Value → H) :
    ReturnsInHanded {} Try.checked os 3 .any (Rows.fnExactPubOkSpec.pre6 enc Try.prog Try.f3 Rows.fnExactPubOkRow.domain false) (Rows.fnExactPubOkSpec.post enc Try.prog Try.f3 false true false false) := by
  refine returnsInHanded_of_change (C := Try.checked) own started (by kernel_rfl) Try.func3
    (ChangeSpec.witness6 (enc := enc) (C := Try.checked) false ⟨#[], #[.agg #[.slice none 0 0]], []⟩ 8 (by kernel_rfl) (by kernel_rfl) (by kernel_rfl) (by kernel_rfl)) ?_
  intro W base args ds gs before hval0 hW hcnd _
  have hval : ∀ (j : Nat) t v, Try.f3.params[j]? = some t → args[j]? = some v → Value.okWide Try.prog W .any base t v := hval0
  have hW' := hW
  obtain ⟨p, q, hA0, hV, rfl, hfz, hnd⟩ := hW
  have hA : DataW.TrodAll enc Try.prog W 0 (fun _ => true) true [24] args.toList ds p := hA0
  obtain ⟨v0, vs0, d0, ds0, p0, q0, hargs, rfl, rfl, h0, r0⟩ := trodAll_cons hA
  obtain ⟨rfl, rfl, rfl⟩ := trodAll_nil r0
  obtain rfl : args = #[v0] := by cases args; simp_all
  obtain ⟨rfl, rfl⟩ := trodVars_none hV
  have lt0 : ∀ x ∈ p0, x.block < W.heap.size := by obtain ⟨m, hm⟩ := h0; exact DataW.trod_lt m _ _ _ hm
  obtain ⟨ls0, f0, s0⟩ := arg_of_trod good cgood (t := 24) rfl (hval 0 24 v0 rfl rfl) h0
  obtain ⟨l0, rfl, b0, c0⟩ := fit_pub ls0 f0
  refine (calls_of_vc (law_ok l0 b0 c0) (fun hv => .cons (s0 hv) .nil)).mono fun e W' ⟨he, bel⟩ => ?_
  subst he
  exact ⟨_, rfl, _, _, _, [], _, [], hW', trodAll_mk1 (shut_bool Try.underlying4 _), (trodAll_cons_mk (Below.trod laidOut (by kernel_rfl) (of_decide_eq_true (by kernel_rfl)) h0 bel lt0) trodAll_mk0), rfl, bel.frame _, fun h => by cases h⟩

theorem over : Rows.fnExactPubOkRow.holds Try.pinned (OpenSpec.ofChange Rows.fnExactPubOkSpec) :=
  OpenClaim.holds_of_wide 3 Try.f3 rfl rfl rfl rfl rfl rfl rfl ⟨rfl, rfl, rfl, rfl, rfl⟩ rfl rfl rfl rfl rfl (by kernel_rfl) Try.func3 (by kernel_rfl)
    (of_decide_eq_true (by kernel_rfl)) (by unfold Func.isWrapper; first | (rw [if_pos (by decide +kernel)]; kernel_rfl) | (rw [if_neg (by decide +kernel)]; exact ⟨rfl, rfl⟩))
    (fun os started H enc _ => lifted os started H enc)

theorem fnExactPubOk : Rows.FnExactPubOkSaid := over
#print axioms fnExactPubOk
end Go.Proofs.Ytjidbfocloocaaa
