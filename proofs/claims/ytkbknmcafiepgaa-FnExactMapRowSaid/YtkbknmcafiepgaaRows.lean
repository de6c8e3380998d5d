/-
  No cell of these rows narrows 'for every input' (looked for: loops, veiled, ifaces, maps, wideKeys, modest, calm, conditions, laid).
  DERIVED. THE GIVEN ROWS OF THIS SEAT. 5 by the template 'for every input the law returns true; each argument reads behind the call as it read before'; 0 by the template 'total and deterministic' (their statements: YtkbknmcafiepgaaTotals.lean).
  GIVEN WITH THE SEED: the statements are not yours to turn. If you find one false, say at which input.
  Laid BY PROGRAM, IN A SANDBOX (cutbox-rows.mjs): the forced cells as the released guide's own fill.sh prints them over the translation 56673c12e8d36655… (all of the seat's roots in one cut). By AI agents, Wed Nov 11 2026. No macro, syntax, notation, axiom, sorry.
-/
import Derived.Test.YtkbknmcafiepgaaChecked
import GoSem.Claim
import GoSem.ClaimJoined
import GoSem.ClaimMapViews
import Derived.JoinedTies
import Derived.KernelRfl
namespace Go.Proofs.Ytkbknmcafiepgaa
/- THE CELL 'sum', in the pinned program and in every row, IS THE sha256 OF THE DUMP (.gsa) THAT YtkbknmcafiepgaaProg.lean LOADS. Nothing in Lean hashes anything: it is a label: what it is worth is what the hold of that sum in a sandbox is worth. -/
noncomputable def Try.pinned : Pinned := { name := "ytkbknmcafiepgaa", sum := "56673c12e8d36655d1392b518dedfa2898ad6fecbf3a58598004ca6bdb2b726b", checked := Try.checked }
namespace Rows
def none {H : Type} : Left H := { results := [], args := [] }

/-- 'laws.FnExactMapKey': WHATEVER THE INPUT: true; the input reads as it did. -/
def fnExactMapKeySpec : ChangeSpec := { name := "fnExactMapKey", fn := fun _ => fun
  | [d1, d2, d3] => { results := [.lit (.bool true)], args := [d1, d2, d3] }
  | _ => none }
def fnExactMapKeyRow : OpenClaim := { program := "ytkbknmcafiepgaa", sum := "56673c12e8d36655d1392b518dedfa2898ad6fecbf3a58598004ca6bdb2b726b", func := "loop.example/g00462/laws.FnExactMapKey", spec := "fnExactMapKey", unfollowed := true, recurses := true, apart := false }
def FnExactMapKeySaid : Prop := fnExactMapKeyRow.holds Try.pinned (OpenSpec.ofChange fnExactMapKeySpec)

/-- ITS FALSE NEIGHBOUR: 'it returns false'. Refute it at one input. -/
def fnExactMapKeyWrong : ChangeSpec := { name := "fnExactMapKey", fn := fun _ => fun
  | [d1, d2, d3] => { results := [.lit (.bool false)], args := [d1, d2, d3] }
  | _ => none }
def FnExactMapKeyWrongFalsely : Prop := fnExactMapKeyRow.holds Try.pinned (OpenSpec.ofChange fnExactMapKeyWrong)

/-- 'laws.FnExactMapRow': WHATEVER THE INPUT: true; the input reads as it did. -/
def fnExactMapRowSpec : ChangeSpec := { name := "fnExactMapRow", fn := fun _ => fun
  | [d1, d2, d3] => { results := [.lit (.bool true)], args := [d1, d2, d3] }
  | _ => none }
def fnExactMapRowRow : OpenClaim := { program := "ytkbknmcafiepgaa", sum := "56673c12e8d36655d1392b518dedfa2898ad6fecbf3a58598004ca6bdb2b726b", func := "loop.example/g00462/laws.FnExactMapRow", spec := "fnExactMapRow", unfollowed := true, recurses := true, apart := false }
def FnExactMapRowSaid : Prop := fnExactMapRowRow.holds Try.pinned (OpenSpec.ofChange fnExactMapRowSpec)

/-- ITS FALSE NEIGHBOUR: 'it returns false'. Refute it at one input. -/
def fnExactMapRowWrong : ChangeSpec := { name := "fnExactMapRow", fn := fun _ => fun
  | [d1, d2, d3] => { results := [.lit (.bool false)], args := [d1, d2, d3] }
  | _ => none }
def FnExactMapRowWrongFalsely : Prop := fnExactMapRowRow.holds Try.pinned (OpenSpec.ofChange fnExactMapRowWrong)

/-- 'laws.FnExactStmtsOf': WHATEVER THE INPUT: true; the input reads as it did. -/
def fnExactStmtsOfSpec : ChangeSpec := { name := "fnExactStmtsOf", fn := fun _ => fun
  | [d1, d2] => { results := [.lit (.bool true)], args := [d1, d2] }
  | _ => none }
def fnExactStmtsOfRow : OpenClaim := { program := "ytkbknmcafiepgaa", sum := "56673c12e8d36655d1392b518dedfa2898ad6fecbf3a58598004ca6bdb2b726b", func := "loop.example/g00462/laws.FnExactStmtsOf", spec := "fnExactStmtsOf", apart := false }
def FnExactStmtsOfSaid : Prop := fnExactStmtsOfRow.holds Try.pinned (OpenSpec.ofChange fnExactStmtsOfSpec)

/-- ITS FALSE NEIGHBOUR: 'it returns false'. Refute it at one input. -/
def fnExactStmtsOfWrong : ChangeSpec := { name := "fnExactStmtsOf", fn := fun _ => fun
  | [d1, d2] => { results := [.lit (.bool false)], args := [d1, d2] }
  | _ => none }
def FnExactStmtsOfWrongFalsely : Prop := fnExactStmtsOfRow.holds Try.pinned (OpenSpec.ofChange fnExactStmtsOfWrong)

/-- 'laws.FnExactStmtsIn': WHATEVER THE INPUT: true; the input reads as it did. -/
def fnExactStmtsInSpec : ChangeSpec := { name := "fnExactStmtsIn", fn := fun _ => fun
  | [d] => { results := [.lit (.bool true)], args := [d] }
  | _ => none }
def fnExactStmtsInRow : OpenClaim := { program := "ytkbknmcafiepgaa", sum := "56673c12e8d36655d1392b518dedfa2898ad6fecbf3a58598004ca6bdb2b726b", func := "loop.example/g00462/laws.FnExactStmtsIn", spec := "fnExactStmtsIn", apart := false }
def FnExactStmtsInSaid : Prop := fnExactStmtsInRow.holds Try.pinned (OpenSpec.ofChange fnExactStmtsInSpec)

/-- ITS FALSE NEIGHBOUR: 'it returns false'. Refute it at one input. -/
def fnExactStmtsInWrong : ChangeSpec := { name := "fnExactStmtsIn", fn := fun _ => fun
  | [d] => { results := [.lit (.bool false)], args := [d] }
  | _ => none }
def FnExactStmtsInWrongFalsely : Prop := fnExactStmtsInRow.holds Try.pinned (OpenSpec.ofChange fnExactStmtsInWrong)

/-- 'laws.FnExactNamesOf': WHATEVER THE INPUT: true; the input reads as it did. -/
def fnExactNamesOfSpec : ChangeSpec := { name := "fnExactNamesOf", fn := fun _ => fun
  | [d1, d2] => { results := [.lit (.bool true)], args := [d1, d2] }
  | _ => none }
def fnExactNamesOfRow : OpenClaim := { program := "ytkbknmcafiepgaa", sum := "56673c12e8d36655d1392b518dedfa2898ad6fecbf3a58598004ca6bdb2b726b", func := "loop.example/g00462/laws.FnExactNamesOf", spec := "fnExactNamesOf", unfollowed := true, recurses := true, apart := false }
def FnExactNamesOfSaid : Prop := fnExactNamesOfRow.holds Try.pinned (OpenSpec.ofChange fnExactNamesOfSpec)

/-- ITS FALSE NEIGHBOUR: 'it returns false'. Refute it at one input. -/
def fnExactNamesOfWrong : ChangeSpec := { name := "fnExactNamesOf", fn := fun _ => fun
  | [d1, d2] => { results := [.lit (.bool false)], args := [d1, d2] }
  | _ => none }
def FnExactNamesOfWrongFalsely : Prop := fnExactNamesOfRow.holds Try.pinned (OpenSpec.ofChange fnExactNamesOfWrong)

/- THE SECOND FORM. 'bulk': how many values and letters a reading holds, each counted each time it is reached (what is shared counts as often as it is met; a slice's spare places count too). A statement '..UptoSaid' is the law's where the arguments, and the package variables that the reading takes, are together of bulk at most 1048576: NARROWER than '..Said'. Prove '..Said' where nothing that the law and all that it calls make is longer than what came in: it says more and counts as full. Else prove '..UptoSaid'. A law counts once. -/
mutual
def uptoBulk {H : Type} : DataW H → Nat
  | .lit (.string bytes) => bytes.length + 1
  | .lit _ => 1
  | .nil => 1
  | .ptr d => uptoBulk d + 1
  | .slice elems spare => uptoBulkAll elems + uptoBulkAll spare + 1
  | .agg parts => uptoBulkAll parts + 1
  | .iface _ d => uptoBulk d + 1
  | .map entries => uptoBulkEntries entries + 1
  | .held _ => 1
def uptoBulkAll {H : Type} : List (DataW H) → Nat
  | [] => 0
  | d :: r => uptoBulk d + uptoBulkAll r
def uptoBulkEntries {H : Type} : List (Lit × DataW H) → Nat
  | [] => 0
  | x :: r => uptoBulkEntry x + uptoBulkEntries r
def uptoBulkEntry {H : Type} : Lit × DataW H → Nat
  | (.string bytes, d) => bytes.length + uptoBulk d + 1
  | (_, d) => uptoBulk d + 1
 end
def uptoSmall : (H : Type) → List (DataW H) → Bool := fun _ ds => decide (uptoBulkAll ds ≤ 1048576)
def OpenSpec.upto (s : _root_.Go.ChangeSpec) : _root_.Go.OpenSpec := { _root_.Go.OpenSpec.ofChange s with cond := some uptoSmall }

/-- 'laws.FnExactMapKey', WHERE WHAT IT READS IS OF BULK AT MOST 1048576: true; the input reads as it did. -/
def fnExactMapKeyUptoRow : OpenClaim := { program := "ytkbknmcafiepgaa", sum := "56673c12e8d36655d1392b518dedfa2898ad6fecbf3a58598004ca6bdb2b726b", func := "loop.example/g00462/laws.FnExactMapKey", spec := "fnExactMapKey", unfollowed := true, recurses := true, apart := false, narrowed := true }
def FnExactMapKeyUptoSaid : Prop := fnExactMapKeyUptoRow.holds Try.pinned (OpenSpec.upto fnExactMapKeySpec)

/-- 'laws.FnExactMapRow', WHERE WHAT IT READS IS OF BULK AT MOST 1048576: true; the input reads as it did. -/
def fnExactMapRowUptoRow : OpenClaim := { program := "ytkbknmcafiepgaa", sum := "56673c12e8d36655d1392b518dedfa2898ad6fecbf3a58598004ca6bdb2b726b", func := "loop.example/g00462/laws.FnExactMapRow", spec := "fnExactMapRow", unfollowed := true, recurses := true, apart := false, narrowed := true }
def FnExactMapRowUptoSaid : Prop := fnExactMapRowUptoRow.holds Try.pinned (OpenSpec.upto fnExactMapRowSpec)

/-- 'laws.FnExactStmtsOf', WHERE WHAT IT READS IS OF BULK AT MOST 1048576: true; the input reads as it did. -/
def fnExactStmtsOfUptoRow : OpenClaim := { program := "ytkbknmcafiepgaa", sum := "56673c12e8d36655d1392b518dedfa2898ad6fecbf3a58598004ca6bdb2b726b", func := "loop.example/g00462/laws.FnExactStmtsOf", spec := "fnExactStmtsOf", apart := false, narrowed := true }
def FnExactStmtsOfUptoSaid : Prop := fnExactStmtsOfUptoRow.holds Try.pinned (OpenSpec.upto fnExactStmtsOfSpec)

/-- 'laws.FnExactStmtsIn', WHERE WHAT IT READS IS OF BULK AT MOST 1048576: true; the input reads as it did. -/
def fnExactStmtsInUptoRow : OpenClaim := { program := "ytkbknmcafiepgaa", sum := "56673c12e8d36655d1392b518dedfa2898ad6fecbf3a58598004ca6bdb2b726b", func := "loop.example/g00462/laws.FnExactStmtsIn", spec := "fnExactStmtsIn", apart := false, narrowed := true }
def FnExactStmtsInUptoSaid : Prop := fnExactStmtsInUptoRow.holds Try.pinned (OpenSpec.upto fnExactStmtsInSpec)

/-- 'laws.FnExactNamesOf', WHERE WHAT IT READS IS OF BULK AT MOST 1048576: true; the input reads as it did. -/
def fnExactNamesOfUptoRow : OpenClaim := { program := "ytkbknmcafiepgaa", sum := "56673c12e8d36655d1392b518dedfa2898ad6fecbf3a58598004ca6bdb2b726b", func := "loop.example/g00462/laws.FnExactNamesOf", spec := "fnExactNamesOf", unfollowed := true, recurses := true, apart := false, narrowed := true }
def FnExactNamesOfUptoSaid : Prop := fnExactNamesOfUptoRow.holds Try.pinned (OpenSpec.upto fnExactNamesOfSpec)

end Rows
end Go.Proofs.Ytkbknmcafiepgaa
