/-
  No cell of these rows narrows 'for every input' (looked for: loops, veiled, ifaces, maps, wideKeys, modest, calm, conditions, laid).
  DERIVED. THE GIVEN ROWS OF THIS SEAT. 6 by the template 'for every input the law returns true; each argument reads behind the call as it read before'; 0 by the template 'total and deterministic' (their statements: YtjidbfocloocaaaTotals.lean).
  GIVEN WITH THE SEED: the statements are not yours to turn. If you find one false, say at which input.
  Laid BY PROGRAM, IN A SANDBOX (cutbox-rows.mjs): the forced cells as the released guide's own fill.sh prints them over the translation 08543060c99b311f… (all of the seat's roots in one cut). By AI agents, Wed Nov 11 2026. No macro, syntax, notation, axiom, sorry.
-/
import Derived.Test.YtjidbfocloocaaaChecked
import GoSem.Claim
import GoSem.ClaimJoined
import GoSem.ClaimMapViews
import Derived.JoinedTies
import Derived.KernelRfl
namespace Go.Proofs.Ytjidbfocloocaaa
/- THE CELL 'sum', in the pinned program and in every row, IS THE sha256 OF THE DUMP (.gsa) THAT YtjidbfocloocaaaProg.lean LOADS. Nothing in Lean hashes anything: it is a label: what it is worth is what the hold of that sum in a sandbox is worth. -/
noncomputable def Try.pinned : Pinned := { name := "ytjidbfocloocaaa", sum := "08543060c99b311fadd1547f9c7daac51f9255661ba43bca2b84e0f5f1632347", checked := Try.checked }
namespace Rows
def none {H : Type} : Left H := { results := [], args := [] }

/-- 'laws.FnExactPubOk': WHATEVER THE INPUT: true; the input reads as it did. -/
def fnExactPubOkSpec : ChangeSpec := { name := "fnExactPubOk", fn := fun _ => fun
  | [d] => { results := [.lit (.bool true)], args := [d] }
  | _ => none }
def fnExactPubOkRow : OpenClaim := { program := "ytjidbfocloocaaa", sum := "08543060c99b311fadd1547f9c7daac51f9255661ba43bca2b84e0f5f1632347", func := "loop.example/g00462/laws.FnExactPubOk", spec := "fnExactPubOk", apart := false }
def FnExactPubOkSaid : Prop := fnExactPubOkRow.holds Try.pinned (OpenSpec.ofChange fnExactPubOkSpec)

/-- ITS FALSE NEIGHBOUR: 'it returns false'. Refute it at one input. -/
def fnExactPubOkWrong : ChangeSpec := { name := "fnExactPubOk", fn := fun _ => fun
  | [d] => { results := [.lit (.bool false)], args := [d] }
  | _ => none }
def FnExactPubOkWrongFalsely : Prop := fnExactPubOkRow.holds Try.pinned (OpenSpec.ofChange fnExactPubOkWrong)

/-- 'laws.FnExactPackCut': WHATEVER THE INPUT: true; the input reads as it did. -/
def fnExactPackCutSpec : ChangeSpec := { name := "fnExactPackCut", fn := fun _ => fun
  | [d1, d2] => { results := [.lit (.bool true)], args := [d1, d2] }
  | _ => none }
def fnExactPackCutRow : OpenClaim := { program := "ytjidbfocloocaaa", sum := "08543060c99b311fadd1547f9c7daac51f9255661ba43bca2b84e0f5f1632347", func := "loop.example/g00462/laws.FnExactPackCut", spec := "fnExactPackCut", apart := false }
def FnExactPackCutSaid : Prop := fnExactPackCutRow.holds Try.pinned (OpenSpec.ofChange fnExactPackCutSpec)

/-- ITS FALSE NEIGHBOUR: 'it returns false'. Refute it at one input. -/
def fnExactPackCutWrong : ChangeSpec := { name := "fnExactPackCut", fn := fun _ => fun
  | [d1, d2] => { results := [.lit (.bool false)], args := [d1, d2] }
  | _ => none }
def FnExactPackCutWrongFalsely : Prop := fnExactPackCutRow.holds Try.pinned (OpenSpec.ofChange fnExactPackCutWrong)

/-- 'laws.FnExactSlotsOk': WHATEVER THE INPUT: true; the input reads as it did. -/
def fnExactSlotsOkSpec : ChangeSpec := { name := "fnExactSlotsOk", fn := fun _ => fun
  | [d] => { results := [.lit (.bool true)], args := [d] }
  | _ => none }
def fnExactSlotsOkRow : OpenClaim := { program := "ytjidbfocloocaaa", sum := "08543060c99b311fadd1547f9c7daac51f9255661ba43bca2b84e0f5f1632347", func := "loop.example/g00462/laws.FnExactSlotsOk", spec := "fnExactSlotsOk", apart := false }
def FnExactSlotsOkSaid : Prop := fnExactSlotsOkRow.holds Try.pinned (OpenSpec.ofChange fnExactSlotsOkSpec)

/-- ITS FALSE NEIGHBOUR: 'it returns false'. Refute it at one input. -/
def fnExactSlotsOkWrong : ChangeSpec := { name := "fnExactSlotsOk", fn := fun _ => fun
  | [d] => { results := [.lit (.bool false)], args := [d] }
  | _ => none }
def FnExactSlotsOkWrongFalsely : Prop := fnExactSlotsOkRow.holds Try.pinned (OpenSpec.ofChange fnExactSlotsOkWrong)

/-- 'laws.FnExactSlotLeast': WHATEVER THE INPUT: true; the input reads as it did. -/
def fnExactSlotLeastSpec : ChangeSpec := { name := "fnExactSlotLeast", fn := fun _ => fun
  | [d] => { results := [.lit (.bool true)], args := [d] }
  | _ => none }
def fnExactSlotLeastRow : OpenClaim := { program := "ytjidbfocloocaaa", sum := "08543060c99b311fadd1547f9c7daac51f9255661ba43bca2b84e0f5f1632347", func := "loop.example/g00462/laws.FnExactSlotLeast", spec := "fnExactSlotLeast", apart := false }
def FnExactSlotLeastSaid : Prop := fnExactSlotLeastRow.holds Try.pinned (OpenSpec.ofChange fnExactSlotLeastSpec)

/-- ITS FALSE NEIGHBOUR: 'it returns false'. Refute it at one input. -/
def fnExactSlotLeastWrong : ChangeSpec := { name := "fnExactSlotLeast", fn := fun _ => fun
  | [d] => { results := [.lit (.bool false)], args := [d] }
  | _ => none }
def FnExactSlotLeastWrongFalsely : Prop := fnExactSlotLeastRow.holds Try.pinned (OpenSpec.ofChange fnExactSlotLeastWrong)

/-- 'laws.FnExactSlotMove': WHATEVER THE INPUT: true; the input reads as it did. -/
def fnExactSlotMoveSpec : ChangeSpec := { name := "fnExactSlotMove", fn := fun _ => fun
  | [d1, d2, d3] => { results := [.lit (.bool true)], args := [d1, d2, d3] }
  | _ => none }
def fnExactSlotMoveRow : OpenClaim := { program := "ytjidbfocloocaaa", sum := "08543060c99b311fadd1547f9c7daac51f9255661ba43bca2b84e0f5f1632347", func := "loop.example/g00462/laws.FnExactSlotMove", spec := "fnExactSlotMove", inPlace := ["slices.overlaps[loop.example/g00462/impl.Slot]"], unfollowed := true, recurses := true, apart := false }
def FnExactSlotMoveSaid : Prop := fnExactSlotMoveRow.holds Try.pinned (OpenSpec.ofChange fnExactSlotMoveSpec)

/-- ITS FALSE NEIGHBOUR: 'it returns false'. Refute it at one input. -/
def fnExactSlotMoveWrong : ChangeSpec := { name := "fnExactSlotMove", fn := fun _ => fun
  | [d1, d2, d3] => { results := [.lit (.bool false)], args := [d1, d2, d3] }
  | _ => none }
def FnExactSlotMoveWrongFalsely : Prop := fnExactSlotMoveRow.holds Try.pinned (OpenSpec.ofChange fnExactSlotMoveWrong)

/-- 'laws.FnSlots': WHATEVER THE INPUT: true; the input reads as it did. -/
def fnSlotsSpec : ChangeSpec := { name := "fnSlots", fn := fun _ => fun
  | [d] => { results := [.lit (.bool true)], args := [d] }
  | _ => none }
def fnSlotsRow : OpenClaim := { program := "ytjidbfocloocaaa", sum := "08543060c99b311fadd1547f9c7daac51f9255661ba43bca2b84e0f5f1632347", func := "loop.example/g00462/laws.FnSlots", spec := "fnSlots", inPlace := ["slices.overlaps[loop.example/g00462/impl.Slot]"], unfollowed := true, recurses := true, apart := false }
def FnSlotsSaid : Prop := fnSlotsRow.holds Try.pinned (OpenSpec.ofChange fnSlotsSpec)

/-- ITS FALSE NEIGHBOUR: 'it returns false'. Refute it at one input. -/
def fnSlotsWrong : ChangeSpec := { name := "fnSlots", fn := fun _ => fun
  | [d] => { results := [.lit (.bool false)], args := [d] }
  | _ => none }
def FnSlotsWrongFalsely : Prop := fnSlotsRow.holds Try.pinned (OpenSpec.ofChange fnSlotsWrong)

/- THE SECOND FORM. 'bulk': how many values and letters a reading holds, each counted each time it is reached (what is shared counts as often as it is met; a slice's spare places count too). A statement '..UptoSaid' is the law's where the arguments, and the package variables that the reading takes, are together of bulk at most 1048576: NARROWER than '..Said'. Prove '..Said' where nothing that the law and all that it calls make is longer than what came in: it says more and counts as full. Else prove '..UptoSaid'. A law counts once. -/
mutual
def uptoBulk {H : Type} : DataW H → Nat
  | .lit (.string bytes) => bytes.length + 1
  | .lit _ => 1
  | .nil => 1
  | .ptr d => uptoBulk d + 1
  | .slice elems spare => uptoBulkAll elems + uptoBulkAll spare + 1
  | .agg parts => uptoBulkAll parts + 1
  | .iface _ d => uptoBulk d + 1
  | .map entries => uptoBulkEntries entries + 1
  | .held _ => 1
def uptoBulkAll {H : Type} : List (DataW H) → Nat
  | [] => 0
  | d :: r => uptoBulk d + uptoBulkAll r
def uptoBulkEntries {H : Type} : List (Lit × DataW H) → Nat
  | [] => 0
  | x :: r => uptoBulkEntry x + uptoBulkEntries r
def uptoBulkEntry {H : Type} : Lit × DataW H → Nat
  | (.string bytes, d) => bytes.length + uptoBulk d + 1
  | (_, d) => uptoBulk d + 1
 end
def uptoSmall : (H : Type) → List (DataW H) → Bool := fun _ ds => decide (uptoBulkAll ds ≤ 1048576)
def OpenSpec.upto (s : _root_.Go.ChangeSpec) : _root_.Go.OpenSpec := { _root_.Go.OpenSpec.ofChange s with cond := some uptoSmall }

/-- 'laws.FnExactPubOk', WHERE WHAT IT READS IS OF BULK AT MOST 1048576: true; the input reads as it did. -/
def fnExactPubOkUptoRow : OpenClaim := { program := "ytjidbfocloocaaa", sum := "08543060c99b311fadd1547f9c7daac51f9255661ba43bca2b84e0f5f1632347", func := "loop.example/g00462/laws.FnExactPubOk", spec := "fnExactPubOk", apart := false, narrowed := true }
def FnExactPubOkUptoSaid : Prop := fnExactPubOkUptoRow.holds Try.pinned (OpenSpec.upto fnExactPubOkSpec)

/-- 'laws.FnExactPackCut', WHERE WHAT IT READS IS OF BULK AT MOST 1048576: true; the input reads as it did. -/
def fnExactPackCutUptoRow : OpenClaim := { program := "ytjidbfocloocaaa", sum := "08543060c99b311fadd1547f9c7daac51f9255661ba43bca2b84e0f5f1632347", func := "loop.example/g00462/laws.FnExactPackCut", spec := "fnExactPackCut", apart := false, narrowed := true }
def FnExactPackCutUptoSaid : Prop := fnExactPackCutUptoRow.holds Try.pinned (OpenSpec.upto fnExactPackCutSpec)

/-- 'laws.FnExactSlotsOk', WHERE WHAT IT READS IS OF BULK AT MOST 1048576: true; the input reads as it did. -/
def fnExactSlotsOkUptoRow : OpenClaim := { program := "ytjidbfocloocaaa", sum := "08543060c99b311fadd1547f9c7daac51f9255661ba43bca2b84e0f5f1632347", func := "loop.example/g00462/laws.FnExactSlotsOk", spec := "fnExactSlotsOk", apart := false, narrowed := true }
def FnExactSlotsOkUptoSaid : Prop := fnExactSlotsOkUptoRow.holds Try.pinned (OpenSpec.upto fnExactSlotsOkSpec)

/-- 'laws.FnExactSlotLeast', WHERE WHAT IT READS IS OF BULK AT MOST 1048576: true; the input reads as it did. -/
def fnExactSlotLeastUptoRow : OpenClaim := { program := "ytjidbfocloocaaa", sum := "08543060c99b311fadd1547f9c7daac51f9255661ba43bca2b84e0f5f1632347", func := "loop.example/g00462/laws.FnExactSlotLeast", spec := "fnExactSlotLeast", apart := false, narrowed := true }
def FnExactSlotLeastUptoSaid : Prop := fnExactSlotLeastUptoRow.holds Try.pinned (OpenSpec.upto fnExactSlotLeastSpec)

/-- 'laws.FnExactSlotMove', WHERE WHAT IT READS IS OF BULK AT MOST 1048576: true; the input reads as it did. -/
def fnExactSlotMoveUptoRow : OpenClaim := { program := "ytjidbfocloocaaa", sum := "08543060c99b311fadd1547f9c7daac51f9255661ba43bca2b84e0f5f1632347", func := "loop.example/g00462/laws.FnExactSlotMove", spec := "fnExactSlotMove", inPlace := ["slices.overlaps[loop.example/g00462/impl.Slot]"], unfollowed := true, recurses := true, apart := false, narrowed := true }
def FnExactSlotMoveUptoSaid : Prop := fnExactSlotMoveUptoRow.holds Try.pinned (OpenSpec.upto fnExactSlotMoveSpec)

/-- 'laws.FnSlots', WHERE WHAT IT READS IS OF BULK AT MOST 1048576: true; the input reads as it did. -/
def fnSlotsUptoRow : OpenClaim := { program := "ytjidbfocloocaaa", sum := "08543060c99b311fadd1547f9c7daac51f9255661ba43bca2b84e0f5f1632347", func := "loop.example/g00462/laws.FnSlots", spec := "fnSlots", inPlace := ["slices.overlaps[loop.example/g00462/impl.Slot]"], unfollowed := true, recurses := true, apart := false, narrowed := true }
def FnSlotsUptoSaid : Prop := fnSlotsUptoRow.holds Try.pinned (OpenSpec.upto fnSlotsSpec)

end Rows
end Go.Proofs.Ytjidbfocloocaaa
