/-
  No cell of these rows narrows 'for every input' (looked for: loops, veiled, ifaces, maps, wideKeys, modest, calm, conditions, laid).
  DERIVED. THE GIVEN ROWS OF THIS SEAT. 7 by the template 'for every input the law returns true; each argument reads behind the call as it read before'; 0 by the template 'total and deterministic' (their statements: YtkciklpdhhcblaaTotals.lean).
  GIVEN WITH THE SEED: the statements are not yours to turn. If you find one false, say at which input.
  Laid BY PROGRAM, IN A SANDBOX (cutbox-rows.mjs): the forced cells as the released guide's own fill.sh prints them over the translation c28111ceb161bf26… (all of the seat's roots in one cut). By AI agents, Wed Nov 11 2026. No macro, syntax, notation, axiom, sorry.
-/
import Derived.Test.YtkciklpdhhcblaaChecked
import GoSem.Claim
import GoSem.ClaimJoined
import GoSem.ClaimMapViews
import Derived.JoinedTies
import Derived.KernelRfl
namespace Go.Proofs.Ytkciklpdhhcblaa
/- THE CELL 'sum', in the pinned program and in every row, IS THE sha256 OF THE DUMP (.gsa) THAT YtkciklpdhhcblaaProg.lean LOADS. Nothing in Lean hashes anything: it is a label: what it is worth is what the hold of that sum in a sandbox is worth. -/
noncomputable def Try.pinned : Pinned := { name := "ytkciklpdhhcblaa", sum := "c28111ceb161bf26301b9a897f67c962394146bfc5a52aaeed447fb9505c19ec", checked := Try.checked }
namespace Rows
def none {H : Type} : Left H := { results := [], args := [] }

/-- 'laws.FnExactDrift': WHATEVER THE INPUT: true; the input reads as it did. -/
def fnExactDriftSpec : ChangeSpec := { name := "fnExactDrift", fn := fun _ => fun
  | [d1, d2, d3] => { results := [.lit (.bool true)], args := [d1, d2, d3] }
  | _ => none }
def fnExactDriftRow : OpenClaim := { program := "ytkciklpdhhcblaa", sum := "c28111ceb161bf26301b9a897f67c962394146bfc5a52aaeed447fb9505c19ec", func := "loop.example/g00462/laws.FnExactDrift", spec := "fnExactDrift", unfollowed := true, recurses := true, apart := false }
def FnExactDriftSaid : Prop := fnExactDriftRow.holds Try.pinned (OpenSpec.ofChange fnExactDriftSpec)

/-- ITS FALSE NEIGHBOUR: 'it returns false'. Refute it at one input. -/
def fnExactDriftWrong : ChangeSpec := { name := "fnExactDrift", fn := fun _ => fun
  | [d1, d2, d3] => { results := [.lit (.bool false)], args := [d1, d2, d3] }
  | _ => none }
def FnExactDriftWrongFalsely : Prop := fnExactDriftRow.holds Try.pinned (OpenSpec.ofChange fnExactDriftWrong)

/-- 'laws.FnExactRecOk': WHATEVER THE INPUT: true; the input reads as it did. -/
def fnExactRecOkSpec : ChangeSpec := { name := "fnExactRecOk", fn := fun _ => fun
  | [d] => { results := [.lit (.bool true)], args := [d] }
  | _ => none }
def fnExactRecOkRow : OpenClaim := { program := "ytkciklpdhhcblaa", sum := "c28111ceb161bf26301b9a897f67c962394146bfc5a52aaeed447fb9505c19ec", func := "loop.example/g00462/laws.FnExactRecOk", spec := "fnExactRecOk", unfollowed := true, recurses := true, apart := false }
def FnExactRecOkSaid : Prop := fnExactRecOkRow.holds Try.pinned (OpenSpec.ofChange fnExactRecOkSpec)

/-- ITS FALSE NEIGHBOUR: 'it returns false'. Refute it at one input. -/
def fnExactRecOkWrong : ChangeSpec := { name := "fnExactRecOk", fn := fun _ => fun
  | [d] => { results := [.lit (.bool false)], args := [d] }
  | _ => none }
def FnExactRecOkWrongFalsely : Prop := fnExactRecOkRow.holds Try.pinned (OpenSpec.ofChange fnExactRecOkWrong)

/-- 'laws.FnExactBatchOk': WHATEVER THE INPUT: true; the input reads as it did. -/
def fnExactBatchOkSpec : ChangeSpec := { name := "fnExactBatchOk", fn := fun _ => fun
  | [d] => { results := [.lit (.bool true)], args := [d] }
  | _ => none }
def fnExactBatchOkRow : OpenClaim := { program := "ytkciklpdhhcblaa", sum := "c28111ceb161bf26301b9a897f67c962394146bfc5a52aaeed447fb9505c19ec", func := "loop.example/g00462/laws.FnExactBatchOk", spec := "fnExactBatchOk", unfollowed := true, recurses := true, apart := false }
def FnExactBatchOkSaid : Prop := fnExactBatchOkRow.holds Try.pinned (OpenSpec.ofChange fnExactBatchOkSpec)

/-- ITS FALSE NEIGHBOUR: 'it returns false'. Refute it at one input. -/
def fnExactBatchOkWrong : ChangeSpec := { name := "fnExactBatchOk", fn := fun _ => fun
  | [d] => { results := [.lit (.bool false)], args := [d] }
  | _ => none }
def FnExactBatchOkWrongFalsely : Prop := fnExactBatchOkRow.holds Try.pinned (OpenSpec.ofChange fnExactBatchOkWrong)

/-- 'laws.FnExactFolOk': WHATEVER THE INPUT: true; the input reads as it did. -/
def fnExactFolOkSpec : ChangeSpec := { name := "fnExactFolOk", fn := fun _ => fun
  | [d] => { results := [.lit (.bool true)], args := [d] }
  | _ => none }
def fnExactFolOkRow : OpenClaim := { program := "ytkciklpdhhcblaa", sum := "c28111ceb161bf26301b9a897f67c962394146bfc5a52aaeed447fb9505c19ec", func := "loop.example/g00462/laws.FnExactFolOk", spec := "fnExactFolOk", unfollowed := true, recurses := true, apart := false }
def FnExactFolOkSaid : Prop := fnExactFolOkRow.holds Try.pinned (OpenSpec.ofChange fnExactFolOkSpec)

/-- ITS FALSE NEIGHBOUR: 'it returns false'. Refute it at one input. -/
def fnExactFolOkWrong : ChangeSpec := { name := "fnExactFolOk", fn := fun _ => fun
  | [d] => { results := [.lit (.bool false)], args := [d] }
  | _ => none }
def FnExactFolOkWrongFalsely : Prop := fnExactFolOkRow.holds Try.pinned (OpenSpec.ofChange fnExactFolOkWrong)

/-- 'laws.FnExactSameBatch': WHATEVER THE INPUT: true; the input reads as it did. -/
def fnExactSameBatchSpec : ChangeSpec := { name := "fnExactSameBatch", fn := fun _ => fun
  | [d1, d2] => { results := [.lit (.bool true)], args := [d1, d2] }
  | _ => none }
def fnExactSameBatchRow : OpenClaim := { program := "ytkciklpdhhcblaa", sum := "c28111ceb161bf26301b9a897f67c962394146bfc5a52aaeed447fb9505c19ec", func := "loop.example/g00462/laws.FnExactSameBatch", spec := "fnExactSameBatch", unfollowed := true, recurses := true, apart := false }
def FnExactSameBatchSaid : Prop := fnExactSameBatchRow.holds Try.pinned (OpenSpec.ofChange fnExactSameBatchSpec)

/-- ITS FALSE NEIGHBOUR: 'it returns false'. Refute it at one input. -/
def fnExactSameBatchWrong : ChangeSpec := { name := "fnExactSameBatch", fn := fun _ => fun
  | [d1, d2] => { results := [.lit (.bool false)], args := [d1, d2] }
  | _ => none }
def FnExactSameBatchWrongFalsely : Prop := fnExactSameBatchRow.holds Try.pinned (OpenSpec.ofChange fnExactSameBatchWrong)

/-- 'laws.FnExactRecText': WHATEVER THE INPUT: true; the input reads as it did. -/
def fnExactRecTextSpec : ChangeSpec := { name := "fnExactRecText", fn := fun _ => fun
  | [d] => { results := [.lit (.bool true)], args := [d] }
  | _ => none }
def fnExactRecTextRow : OpenClaim := { program := "ytkciklpdhhcblaa", sum := "c28111ceb161bf26301b9a897f67c962394146bfc5a52aaeed447fb9505c19ec", func := "loop.example/g00462/laws.FnExactRecText", spec := "fnExactRecText", unfollowed := true, recurses := true, apart := false }
def FnExactRecTextSaid : Prop := fnExactRecTextRow.holds Try.pinned (OpenSpec.ofChange fnExactRecTextSpec)

/-- ITS FALSE NEIGHBOUR: 'it returns false'. Refute it at one input. -/
def fnExactRecTextWrong : ChangeSpec := { name := "fnExactRecText", fn := fun _ => fun
  | [d] => { results := [.lit (.bool false)], args := [d] }
  | _ => none }
def FnExactRecTextWrongFalsely : Prop := fnExactRecTextRow.holds Try.pinned (OpenSpec.ofChange fnExactRecTextWrong)

/-- 'laws.FnExactBatchText': WHATEVER THE INPUT: true; the input reads as it did. -/
def fnExactBatchTextSpec : ChangeSpec := { name := "fnExactBatchText", fn := fun _ => fun
  | [d] => { results := [.lit (.bool true)], args := [d] }
  | _ => none }
def fnExactBatchTextRow : OpenClaim := { program := "ytkciklpdhhcblaa", sum := "c28111ceb161bf26301b9a897f67c962394146bfc5a52aaeed447fb9505c19ec", func := "loop.example/g00462/laws.FnExactBatchText", spec := "fnExactBatchText", unfollowed := true, recurses := true, apart := false }
def FnExactBatchTextSaid : Prop := fnExactBatchTextRow.holds Try.pinned (OpenSpec.ofChange fnExactBatchTextSpec)

/-- ITS FALSE NEIGHBOUR: 'it returns false'. Refute it at one input. -/
def fnExactBatchTextWrong : ChangeSpec := { name := "fnExactBatchText", fn := fun _ => fun
  | [d] => { results := [.lit (.bool false)], args := [d] }
  | _ => none }
def FnExactBatchTextWrongFalsely : Prop := fnExactBatchTextRow.holds Try.pinned (OpenSpec.ofChange fnExactBatchTextWrong)

/- THE SECOND FORM. 'bulk': how many values and letters a reading holds, each counted each time it is reached (what is shared counts as often as it is met; a slice's spare places count too). A statement '..UptoSaid' is the law's where the arguments, and the package variables that the reading takes, are together of bulk at most 1048576: NARROWER than '..Said'. Prove '..Said' where nothing that the law and all that it calls make is longer than what came in: it says more and counts as full. Else prove '..UptoSaid'. A law counts once. -/
mutual
def uptoBulk {H : Type} : DataW H → Nat
  | .lit (.string bytes) => bytes.length + 1
  | .lit _ => 1
  | .nil => 1
  | .ptr d => uptoBulk d + 1
  | .slice elems spare => uptoBulkAll elems + uptoBulkAll spare + 1
  | .agg parts => uptoBulkAll parts + 1
  | .iface _ d => uptoBulk d + 1
  | .map entries => uptoBulkEntries entries + 1
  | .held _ => 1
def uptoBulkAll {H : Type} : List (DataW H) → Nat
  | [] => 0
  | d :: r => uptoBulk d + uptoBulkAll r
def uptoBulkEntries {H : Type} : List (Lit × DataW H) → Nat
  | [] => 0
  | x :: r => uptoBulkEntry x + uptoBulkEntries r
def uptoBulkEntry {H : Type} : Lit × DataW H → Nat
  | (.string bytes, d) => bytes.length + uptoBulk d + 1
  | (_, d) => uptoBulk d + 1
 end
def uptoSmall : (H : Type) → List (DataW H) → Bool := fun _ ds => decide (uptoBulkAll ds ≤ 1048576)
def OpenSpec.upto (s : _root_.Go.ChangeSpec) : _root_.Go.OpenSpec := { _root_.Go.OpenSpec.ofChange s with cond := some uptoSmall }

/-- 'laws.FnExactDrift', WHERE WHAT IT READS IS OF BULK AT MOST 1048576: true; the input reads as it did. -/
def fnExactDriftUptoRow : OpenClaim := { program := "ytkciklpdhhcblaa", sum := "c28111ceb161bf26301b9a897f67c962394146bfc5a52aaeed447fb9505c19ec", func := "loop.example/g00462/laws.FnExactDrift", spec := "fnExactDrift", unfollowed := true, recurses := true, apart := false, narrowed := true }
def FnExactDriftUptoSaid : Prop := fnExactDriftUptoRow.holds Try.pinned (OpenSpec.upto fnExactDriftSpec)

/-- 'laws.FnExactRecOk', WHERE WHAT IT READS IS OF BULK AT MOST 1048576: true; the input reads as it did. -/
def fnExactRecOkUptoRow : OpenClaim := { program := "ytkciklpdhhcblaa", sum := "c28111ceb161bf26301b9a897f67c962394146bfc5a52aaeed447fb9505c19ec", func := "loop.example/g00462/laws.FnExactRecOk", spec := "fnExactRecOk", unfollowed := true, recurses := true, apart := false, narrowed := true }
def FnExactRecOkUptoSaid : Prop := fnExactRecOkUptoRow.holds Try.pinned (OpenSpec.upto fnExactRecOkSpec)

/-- 'laws.FnExactBatchOk', WHERE WHAT IT READS IS OF BULK AT MOST 1048576: true; the input reads as it did. -/
def fnExactBatchOkUptoRow : OpenClaim := { program := "ytkciklpdhhcblaa", sum := "c28111ceb161bf26301b9a897f67c962394146bfc5a52aaeed447fb9505c19ec", func := "loop.example/g00462/laws.FnExactBatchOk", spec := "fnExactBatchOk", unfollowed := true, recurses := true, apart := false, narrowed := true }
def FnExactBatchOkUptoSaid : Prop := fnExactBatchOkUptoRow.holds Try.pinned (OpenSpec.upto fnExactBatchOkSpec)

/-- 'laws.FnExactFolOk', WHERE WHAT IT READS IS OF BULK AT MOST 1048576: true; the input reads as it did. -/
def fnExactFolOkUptoRow : OpenClaim := { program := "ytkciklpdhhcblaa", sum := "c28111ceb161bf26301b9a897f67c962394146bfc5a52aaeed447fb9505c19ec", func := "loop.example/g00462/laws.FnExactFolOk", spec := "fnExactFolOk", unfollowed := true, recurses := true, apart := false, narrowed := true }
def FnExactFolOkUptoSaid : Prop := fnExactFolOkUptoRow.holds Try.pinned (OpenSpec.upto fnExactFolOkSpec)

/-- 'laws.FnExactSameBatch', WHERE WHAT IT READS IS OF BULK AT MOST 1048576: true; the input reads as it did. -/
def fnExactSameBatchUptoRow : OpenClaim := { program := "ytkciklpdhhcblaa", sum := "c28111ceb161bf26301b9a897f67c962394146bfc5a52aaeed447fb9505c19ec", func := "loop.example/g00462/laws.FnExactSameBatch", spec := "fnExactSameBatch", unfollowed := true, recurses := true, apart := false, narrowed := true }
def FnExactSameBatchUptoSaid : Prop := fnExactSameBatchUptoRow.holds Try.pinned (OpenSpec.upto fnExactSameBatchSpec)

/-- 'laws.FnExactRecText', WHERE WHAT IT READS IS OF BULK AT MOST 1048576: true; the input reads as it did. -/
def fnExactRecTextUptoRow : OpenClaim := { program := "ytkciklpdhhcblaa", sum := "c28111ceb161bf26301b9a897f67c962394146bfc5a52aaeed447fb9505c19ec", func := "loop.example/g00462/laws.FnExactRecText", spec := "fnExactRecText", unfollowed := true, recurses := true, apart := false, narrowed := true }
def FnExactRecTextUptoSaid : Prop := fnExactRecTextUptoRow.holds Try.pinned (OpenSpec.upto fnExactRecTextSpec)

/-- 'laws.FnExactBatchText', WHERE WHAT IT READS IS OF BULK AT MOST 1048576: true; the input reads as it did. -/
def fnExactBatchTextUptoRow : OpenClaim := { program := "ytkciklpdhhcblaa", sum := "c28111ceb161bf26301b9a897f67c962394146bfc5a52aaeed447fb9505c19ec", func := "loop.example/g00462/laws.FnExactBatchText", spec := "fnExactBatchText", unfollowed := true, recurses := true, apart := false, narrowed := true }
def FnExactBatchTextUptoSaid : Prop := fnExactBatchTextUptoRow.holds Try.pinned (OpenSpec.upto fnExactBatchTextSpec)

end Rows
end Go.Proofs.Ytkciklpdhhcblaa
