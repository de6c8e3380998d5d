/-
  No cell of these rows narrows 'for every input' (looked for: loops, veiled, ifaces, maps, wideKeys, modest, calm, conditions, laid).
  DERIVED. THE GIVEN ROWS OF THIS SEAT. 12 by the template 'for every input the law returns true; each argument reads behind the call as it read before'; 0 by the template 'total and deterministic' (their statements: YtanlbohhmoifcaaGreatTotals.lean).
  GIVEN WITH THE SEED: the statements are not yours to turn. If you find one false, say at which input.
  Laid BY PROGRAM, IN A SANDBOX (cutbox-rows.mjs): the forced cells as the released guide's own fill.sh prints them over the translation 3881978d3235d917… (all of the seat's roots in one cut). By AI agents, Wed Nov 11 2026. No macro, syntax, notation, axiom, sorry.
-/
import Derived.Test.YtanlbohhmoifcaaGreatChecked
import GoSem.Claim
import GoSem.ClaimJoined
import GoSem.ClaimMapViews
import Derived.JoinedTies
import Derived.KernelRfl
namespace Go.Proofs.YtanlbohhmoifcaaGreat
/- THE CELL 'sum', in the pinned program and in every row, IS THE sha256 OF THE DUMP (.gsa) THAT YtanlbohhmoifcaaGreatProg.lean LOADS. Nothing in Lean hashes anything: it is a label: what it is worth is what the hold of that sum in a sandbox is worth. -/
noncomputable def Tryz.pinned : Pinned := { name := "ytanlbohhmoifcaagreat", sum := "3881978d3235d917d6dc5be98b9fbf417675dcc2e7a9d16cf9073ad00d1f31f1", checked := Tryz.checked }
namespace Rows
def none {H : Type} : Left H := { results := [], args := [] }

/-- 'laws.FnExactLast': WHATEVER THE INPUT: true; the input reads as it did. -/
def fnExactLastSpec : ChangeSpec := { name := "fnExactLast", fn := fun _ => fun
  | [d] => { results := [.lit (.bool true)], args := [d] }
  | _ => none }
def fnExactLastRow : OpenClaim := { program := "ytanlbohhmoifcaagreat", sum := "3881978d3235d917d6dc5be98b9fbf417675dcc2e7a9d16cf9073ad00d1f31f1", func := "loop.example/g00462/laws.FnExactLast", spec := "fnExactLast", inPlace := ["slices.overlaps[loop.example/g00462/impl.Table]", "slices.overlaps[loop.example/g00462/impl.Rows]", "slices.overlaps[loop.example/g00462/impl.Row]"], unfollowed := true, recurses := true, apart := false }
def FnExactLastSaid : Prop := fnExactLastRow.holds Tryz.pinned (OpenSpec.ofChange fnExactLastSpec)

/-- ITS FALSE NEIGHBOUR: 'it returns false'. Refute it at one input. -/
def fnExactLastWrong : ChangeSpec := { name := "fnExactLast", fn := fun _ => fun
  | [d] => { results := [.lit (.bool false)], args := [d] }
  | _ => none }
def FnExactLastWrongFalsely : Prop := fnExactLastRow.holds Tryz.pinned (OpenSpec.ofChange fnExactLastWrong)

/-- 'laws.FnExactCommits': WHATEVER THE INPUT: true; the input reads as it did. -/
def fnExactCommitsSpec : ChangeSpec := { name := "fnExactCommits", fn := fun _ => fun
  | [d] => { results := [.lit (.bool true)], args := [d] }
  | _ => none }
def fnExactCommitsRow : OpenClaim := { program := "ytanlbohhmoifcaagreat", sum := "3881978d3235d917d6dc5be98b9fbf417675dcc2e7a9d16cf9073ad00d1f31f1", func := "loop.example/g00462/laws.FnExactCommits", spec := "fnExactCommits", inPlace := ["slices.overlaps[loop.example/g00462/impl.Table]", "slices.overlaps[loop.example/g00462/impl.Rows]", "slices.overlaps[loop.example/g00462/impl.Row]"], unfollowed := true, recurses := true, apart := false }
def FnExactCommitsSaid : Prop := fnExactCommitsRow.holds Tryz.pinned (OpenSpec.ofChange fnExactCommitsSpec)

/-- ITS FALSE NEIGHBOUR: 'it returns false'. Refute it at one input. -/
def fnExactCommitsWrong : ChangeSpec := { name := "fnExactCommits", fn := fun _ => fun
  | [d] => { results := [.lit (.bool false)], args := [d] }
  | _ => none }
def FnExactCommitsWrongFalsely : Prop := fnExactCommitsRow.holds Tryz.pinned (OpenSpec.ofChange fnExactCommitsWrong)

/-- 'laws.FnExactMayGo': WHATEVER THE INPUT: true; the input reads as it did. -/
def fnExactMayGoSpec : ChangeSpec := { name := "fnExactMayGo", fn := fun _ => fun
  | [d1, d2] => { results := [.lit (.bool true)], args := [d1, d2] }
  | _ => none }
def fnExactMayGoRow : OpenClaim := { program := "ytanlbohhmoifcaagreat", sum := "3881978d3235d917d6dc5be98b9fbf417675dcc2e7a9d16cf9073ad00d1f31f1", func := "loop.example/g00462/laws.FnExactMayGo", spec := "fnExactMayGo", inPlace := ["slices.overlaps[loop.example/g00462/impl.Table]", "slices.overlaps[loop.example/g00462/impl.Rows]", "slices.overlaps[loop.example/g00462/impl.Row]"], unfollowed := true, recurses := true, apart := false }
def FnExactMayGoSaid : Prop := fnExactMayGoRow.holds Tryz.pinned (OpenSpec.ofChange fnExactMayGoSpec)

/-- ITS FALSE NEIGHBOUR: 'it returns false'. Refute it at one input. -/
def fnExactMayGoWrong : ChangeSpec := { name := "fnExactMayGo", fn := fun _ => fun
  | [d1, d2] => { results := [.lit (.bool false)], args := [d1, d2] }
  | _ => none }
def FnExactMayGoWrongFalsely : Prop := fnExactMayGoRow.holds Tryz.pinned (OpenSpec.ofChange fnExactMayGoWrong)

/-- 'laws.FnExactRestart': WHATEVER THE INPUT: true; the input reads as it did. -/
def fnExactRestartSpec : ChangeSpec := { name := "fnExactRestart", fn := fun _ => fun
  | [d] => { results := [.lit (.bool true)], args := [d] }
  | _ => none }
def fnExactRestartRow : OpenClaim := { program := "ytanlbohhmoifcaagreat", sum := "3881978d3235d917d6dc5be98b9fbf417675dcc2e7a9d16cf9073ad00d1f31f1", func := "loop.example/g00462/laws.FnExactRestart", spec := "fnExactRestart", inPlace := ["slices.overlaps[loop.example/g00462/impl.Table]", "slices.overlaps[loop.example/g00462/impl.Rows]", "slices.overlaps[loop.example/g00462/impl.Row]"], unfollowed := true, recurses := true, apart := false }
def FnExactRestartSaid : Prop := fnExactRestartRow.holds Tryz.pinned (OpenSpec.ofChange fnExactRestartSpec)

/-- ITS FALSE NEIGHBOUR: 'it returns false'. Refute it at one input. -/
def fnExactRestartWrong : ChangeSpec := { name := "fnExactRestart", fn := fun _ => fun
  | [d] => { results := [.lit (.bool false)], args := [d] }
  | _ => none }
def FnExactRestartWrongFalsely : Prop := fnExactRestartRow.holds Tryz.pinned (OpenSpec.ofChange fnExactRestartWrong)

/-- 'laws.FnExactAbort': WHATEVER THE INPUT: true; the input reads as it did. -/
def fnExactAbortSpec : ChangeSpec := { name := "fnExactAbort", fn := fun _ => fun
  | [d1, d2] => { results := [.lit (.bool true)], args := [d1, d2] }
  | _ => none }
def fnExactAbortRow : OpenClaim := { program := "ytanlbohhmoifcaagreat", sum := "3881978d3235d917d6dc5be98b9fbf417675dcc2e7a9d16cf9073ad00d1f31f1", func := "loop.example/g00462/laws.FnExactAbort", spec := "fnExactAbort", inPlace := ["slices.overlaps[loop.example/g00462/impl.Table]", "slices.overlaps[loop.example/g00462/impl.Rows]", "slices.overlaps[loop.example/g00462/impl.Row]"], unfollowed := true, recurses := true, apart := false }
def FnExactAbortSaid : Prop := fnExactAbortRow.holds Tryz.pinned (OpenSpec.ofChange fnExactAbortSpec)

/-- ITS FALSE NEIGHBOUR: 'it returns false'. Refute it at one input. -/
def fnExactAbortWrong : ChangeSpec := { name := "fnExactAbort", fn := fun _ => fun
  | [d1, d2] => { results := [.lit (.bool false)], args := [d1, d2] }
  | _ => none }
def FnExactAbortWrongFalsely : Prop := fnExactAbortRow.holds Tryz.pinned (OpenSpec.ofChange fnExactAbortWrong)

/-- 'laws.FnExactBegin': WHATEVER THE INPUT: true; the input reads as it did. -/
def fnExactBeginSpec : ChangeSpec := { name := "fnExactBegin", fn := fun _ => fun
  | [d1, d2] => { results := [.lit (.bool true)], args := [d1, d2] }
  | _ => none }
def fnExactBeginRow : OpenClaim := { program := "ytanlbohhmoifcaagreat", sum := "3881978d3235d917d6dc5be98b9fbf417675dcc2e7a9d16cf9073ad00d1f31f1", func := "loop.example/g00462/laws.FnExactBegin", spec := "fnExactBegin", inPlace := ["slices.overlaps[loop.example/g00462/impl.Table]", "slices.overlaps[loop.example/g00462/impl.Rows]", "slices.overlaps[loop.example/g00462/impl.Row]"], unfollowed := true, recurses := true, apart := false }
def FnExactBeginSaid : Prop := fnExactBeginRow.holds Tryz.pinned (OpenSpec.ofChange fnExactBeginSpec)

/-- ITS FALSE NEIGHBOUR: 'it returns false'. Refute it at one input. -/
def fnExactBeginWrong : ChangeSpec := { name := "fnExactBegin", fn := fun _ => fun
  | [d1, d2] => { results := [.lit (.bool false)], args := [d1, d2] }
  | _ => none }
def FnExactBeginWrongFalsely : Prop := fnExactBeginRow.holds Tryz.pinned (OpenSpec.ofChange fnExactBeginWrong)

/-- 'laws.FnExactCommit': WHATEVER THE INPUT: true; the input reads as it did. -/
def fnExactCommitSpec : ChangeSpec := { name := "fnExactCommit", fn := fun _ => fun
  | [d1, d2] => { results := [.lit (.bool true)], args := [d1, d2] }
  | _ => none }
def fnExactCommitRow : OpenClaim := { program := "ytanlbohhmoifcaagreat", sum := "3881978d3235d917d6dc5be98b9fbf417675dcc2e7a9d16cf9073ad00d1f31f1", func := "loop.example/g00462/laws.FnExactCommit", spec := "fnExactCommit", inPlace := ["slices.overlaps[loop.example/g00462/impl.Table]", "slices.overlaps[loop.example/g00462/impl.Rows]", "slices.overlaps[loop.example/g00462/impl.Row]"], unfollowed := true, recurses := true, apart := false }
def FnExactCommitSaid : Prop := fnExactCommitRow.holds Tryz.pinned (OpenSpec.ofChange fnExactCommitSpec)

/-- ITS FALSE NEIGHBOUR: 'it returns false'. Refute it at one input. -/
def fnExactCommitWrong : ChangeSpec := { name := "fnExactCommit", fn := fun _ => fun
  | [d1, d2] => { results := [.lit (.bool false)], args := [d1, d2] }
  | _ => none }
def FnExactCommitWrongFalsely : Prop := fnExactCommitRow.holds Tryz.pinned (OpenSpec.ofChange fnExactCommitWrong)

/-- 'laws.FnExactDo': WHATEVER THE INPUT: true; the input reads as it did. -/
def fnExactDoSpec : ChangeSpec := { name := "fnExactDo", fn := fun _ => fun
  | [d1, d2, d3] => { results := [.lit (.bool true)], args := [d1, d2, d3] }
  | _ => none }
def fnExactDoRow : OpenClaim := { program := "ytanlbohhmoifcaagreat", sum := "3881978d3235d917d6dc5be98b9fbf417675dcc2e7a9d16cf9073ad00d1f31f1", func := "loop.example/g00462/laws.FnExactDo", spec := "fnExactDo", inPlace := ["slices.overlaps[loop.example/g00462/impl.Table]", "slices.overlaps[loop.example/g00462/impl.Rows]", "slices.overlaps[loop.example/g00462/impl.Row]"], unfollowed := true, recurses := true, apart := false }
def FnExactDoSaid : Prop := fnExactDoRow.holds Tryz.pinned (OpenSpec.ofChange fnExactDoSpec)

/-- ITS FALSE NEIGHBOUR: 'it returns false'. Refute it at one input. -/
def fnExactDoWrong : ChangeSpec := { name := "fnExactDo", fn := fun _ => fun
  | [d1, d2, d3] => { results := [.lit (.bool false)], args := [d1, d2, d3] }
  | _ => none }
def FnExactDoWrongFalsely : Prop := fnExactDoRow.holds Tryz.pinned (OpenSpec.ofChange fnExactDoWrong)

/-- 'laws.FnExactDbAt': WHATEVER THE INPUT: true; the input reads as it did. -/
def fnExactDbAtSpec : ChangeSpec := { name := "fnExactDbAt", fn := fun _ => fun
  | [d1, d2] => { results := [.lit (.bool true)], args := [d1, d2] }
  | _ => none }
def fnExactDbAtRow : OpenClaim := { program := "ytanlbohhmoifcaagreat", sum := "3881978d3235d917d6dc5be98b9fbf417675dcc2e7a9d16cf9073ad00d1f31f1", func := "loop.example/g00462/laws.FnExactDbAt", spec := "fnExactDbAt", inPlace := ["slices.overlaps[loop.example/g00462/impl.Table]", "slices.overlaps[loop.example/g00462/impl.Rows]", "slices.overlaps[loop.example/g00462/impl.Row]"], unfollowed := true, recurses := true, apart := false }
def FnExactDbAtSaid : Prop := fnExactDbAtRow.holds Tryz.pinned (OpenSpec.ofChange fnExactDbAtSpec)

/-- ITS FALSE NEIGHBOUR: 'it returns false'. Refute it at one input. -/
def fnExactDbAtWrong : ChangeSpec := { name := "fnExactDbAt", fn := fun _ => fun
  | [d1, d2] => { results := [.lit (.bool false)], args := [d1, d2] }
  | _ => none }
def FnExactDbAtWrongFalsely : Prop := fnExactDbAtRow.holds Tryz.pinned (OpenSpec.ofChange fnExactDbAtWrong)

/-- 'laws.FnExactSnapOf': WHATEVER THE INPUT: true; the input reads as it did. -/
def fnExactSnapOfSpec : ChangeSpec := { name := "fnExactSnapOf", fn := fun _ => fun
  | [d1, d2] => { results := [.lit (.bool true)], args := [d1, d2] }
  | _ => none }
def fnExactSnapOfRow : OpenClaim := { program := "ytanlbohhmoifcaagreat", sum := "3881978d3235d917d6dc5be98b9fbf417675dcc2e7a9d16cf9073ad00d1f31f1", func := "loop.example/g00462/laws.FnExactSnapOf", spec := "fnExactSnapOf", inPlace := ["slices.overlaps[loop.example/g00462/impl.Table]", "slices.overlaps[loop.example/g00462/impl.Rows]", "slices.overlaps[loop.example/g00462/impl.Row]"], unfollowed := true, recurses := true, apart := false }
def FnExactSnapOfSaid : Prop := fnExactSnapOfRow.holds Tryz.pinned (OpenSpec.ofChange fnExactSnapOfSpec)

/-- ITS FALSE NEIGHBOUR: 'it returns false'. Refute it at one input. -/
def fnExactSnapOfWrong : ChangeSpec := { name := "fnExactSnapOf", fn := fun _ => fun
  | [d1, d2] => { results := [.lit (.bool false)], args := [d1, d2] }
  | _ => none }
def FnExactSnapOfWrongFalsely : Prop := fnExactSnapOfRow.holds Tryz.pinned (OpenSpec.ofChange fnExactSnapOfWrong)

/-- 'laws.FnExactTailOf': WHATEVER THE INPUT: true; the input reads as it did. -/
def fnExactTailOfSpec : ChangeSpec := { name := "fnExactTailOf", fn := fun _ => fun
  | [d1, d2] => { results := [.lit (.bool true)], args := [d1, d2] }
  | _ => none }
def fnExactTailOfRow : OpenClaim := { program := "ytanlbohhmoifcaagreat", sum := "3881978d3235d917d6dc5be98b9fbf417675dcc2e7a9d16cf9073ad00d1f31f1", func := "loop.example/g00462/laws.FnExactTailOf", spec := "fnExactTailOf", inPlace := ["slices.overlaps[loop.example/g00462/impl.Table]", "slices.overlaps[loop.example/g00462/impl.Rows]", "slices.overlaps[loop.example/g00462/impl.Row]"], unfollowed := true, recurses := true, apart := false }
def FnExactTailOfSaid : Prop := fnExactTailOfRow.holds Tryz.pinned (OpenSpec.ofChange fnExactTailOfSpec)

/-- ITS FALSE NEIGHBOUR: 'it returns false'. Refute it at one input. -/
def fnExactTailOfWrong : ChangeSpec := { name := "fnExactTailOf", fn := fun _ => fun
  | [d1, d2] => { results := [.lit (.bool false)], args := [d1, d2] }
  | _ => none }
def FnExactTailOfWrongFalsely : Prop := fnExactTailOfRow.holds Tryz.pinned (OpenSpec.ofChange fnExactTailOfWrong)

/-- 'laws.FnExactTailAt': WHATEVER THE INPUT: true; the input reads as it did. -/
def fnExactTailAtSpec : ChangeSpec := { name := "fnExactTailAt", fn := fun _ => fun
  | [d1, d2] => { results := [.lit (.bool true)], args := [d1, d2] }
  | _ => none }
def fnExactTailAtRow : OpenClaim := { program := "ytanlbohhmoifcaagreat", sum := "3881978d3235d917d6dc5be98b9fbf417675dcc2e7a9d16cf9073ad00d1f31f1", func := "loop.example/g00462/laws.FnExactTailAt", spec := "fnExactTailAt", inPlace := ["slices.overlaps[loop.example/g00462/impl.Table]", "slices.overlaps[loop.example/g00462/impl.Rows]", "slices.overlaps[loop.example/g00462/impl.Row]"], unfollowed := true, recurses := true, apart := false }
def FnExactTailAtSaid : Prop := fnExactTailAtRow.holds Tryz.pinned (OpenSpec.ofChange fnExactTailAtSpec)

/-- ITS FALSE NEIGHBOUR: 'it returns false'. Refute it at one input. -/
def fnExactTailAtWrong : ChangeSpec := { name := "fnExactTailAt", fn := fun _ => fun
  | [d1, d2] => { results := [.lit (.bool false)], args := [d1, d2] }
  | _ => none }
def FnExactTailAtWrongFalsely : Prop := fnExactTailAtRow.holds Tryz.pinned (OpenSpec.ofChange fnExactTailAtWrong)

/- THE SECOND FORM. 'bulk': how many values and letters a reading holds, each counted each time it is reached (what is shared counts as often as it is met; a slice's spare places count too). A statement '..UptoSaid' is the law's where the arguments, and the package variables that the reading takes, are together of bulk at most 1048576: NARROWER than '..Said'. Prove '..Said' where nothing that the law and all that it calls make is longer than what came in: it says more and counts as full. Else prove '..UptoSaid'. A law counts once. -/
mutual
def uptoBulk {H : Type} : DataW H → Nat
  | .lit (.string bytes) => bytes.length + 1
  | .lit _ => 1
  | .nil => 1
  | .ptr d => uptoBulk d + 1
  | .slice elems spare => uptoBulkAll elems + uptoBulkAll spare + 1
  | .agg parts => uptoBulkAll parts + 1
  | .iface _ d => uptoBulk d + 1
  | .map entries => uptoBulkEntries entries + 1
  | .held _ => 1
def uptoBulkAll {H : Type} : List (DataW H) → Nat
  | [] => 0
  | d :: r => uptoBulk d + uptoBulkAll r
def uptoBulkEntries {H : Type} : List (Lit × DataW H) → Nat
  | [] => 0
  | x :: r => uptoBulkEntry x + uptoBulkEntries r
def uptoBulkEntry {H : Type} : Lit × DataW H → Nat
  | (.string bytes, d) => bytes.length + uptoBulk d + 1
  | (_, d) => uptoBulk d + 1
 end
def uptoSmall : (H : Type) → List (DataW H) → Bool := fun _ ds => decide (uptoBulkAll ds ≤ 1048576)
def OpenSpec.upto (s : _root_.Go.ChangeSpec) : _root_.Go.OpenSpec := { _root_.Go.OpenSpec.ofChange s with cond := some uptoSmall }

/-- 'laws.FnExactLast', WHERE WHAT IT READS IS OF BULK AT MOST 1048576: true; the input reads as it did. -/
def fnExactLastUptoRow : OpenClaim := { program := "ytanlbohhmoifcaagreat", sum := "3881978d3235d917d6dc5be98b9fbf417675dcc2e7a9d16cf9073ad00d1f31f1", func := "loop.example/g00462/laws.FnExactLast", spec := "fnExactLast", inPlace := ["slices.overlaps[loop.example/g00462/impl.Table]", "slices.overlaps[loop.example/g00462/impl.Rows]", "slices.overlaps[loop.example/g00462/impl.Row]"], unfollowed := true, recurses := true, apart := false, narrowed := true }
def FnExactLastUptoSaid : Prop := fnExactLastUptoRow.holds Tryz.pinned (OpenSpec.upto fnExactLastSpec)

/-- 'laws.FnExactCommits', WHERE WHAT IT READS IS OF BULK AT MOST 1048576: true; the input reads as it did. -/
def fnExactCommitsUptoRow : OpenClaim := { program := "ytanlbohhmoifcaagreat", sum := "3881978d3235d917d6dc5be98b9fbf417675dcc2e7a9d16cf9073ad00d1f31f1", func := "loop.example/g00462/laws.FnExactCommits", spec := "fnExactCommits", inPlace := ["slices.overlaps[loop.example/g00462/impl.Table]", "slices.overlaps[loop.example/g00462/impl.Rows]", "slices.overlaps[loop.example/g00462/impl.Row]"], unfollowed := true, recurses := true, apart := false, narrowed := true }
def FnExactCommitsUptoSaid : Prop := fnExactCommitsUptoRow.holds Tryz.pinned (OpenSpec.upto fnExactCommitsSpec)

/-- 'laws.FnExactMayGo', WHERE WHAT IT READS IS OF BULK AT MOST 1048576: true; the input reads as it did. -/
def fnExactMayGoUptoRow : OpenClaim := { program := "ytanlbohhmoifcaagreat", sum := "3881978d3235d917d6dc5be98b9fbf417675dcc2e7a9d16cf9073ad00d1f31f1", func := "loop.example/g00462/laws.FnExactMayGo", spec := "fnExactMayGo", inPlace := ["slices.overlaps[loop.example/g00462/impl.Table]", "slices.overlaps[loop.example/g00462/impl.Rows]", "slices.overlaps[loop.example/g00462/impl.Row]"], unfollowed := true, recurses := true, apart := false, narrowed := true }
def FnExactMayGoUptoSaid : Prop := fnExactMayGoUptoRow.holds Tryz.pinned (OpenSpec.upto fnExactMayGoSpec)

/-- 'laws.FnExactRestart', WHERE WHAT IT READS IS OF BULK AT MOST 1048576: true; the input reads as it did. -/
def fnExactRestartUptoRow : OpenClaim := { program := "ytanlbohhmoifcaagreat", sum := "3881978d3235d917d6dc5be98b9fbf417675dcc2e7a9d16cf9073ad00d1f31f1", func := "loop.example/g00462/laws.FnExactRestart", spec := "fnExactRestart", inPlace := ["slices.overlaps[loop.example/g00462/impl.Table]", "slices.overlaps[loop.example/g00462/impl.Rows]", "slices.overlaps[loop.example/g00462/impl.Row]"], unfollowed := true, recurses := true, apart := false, narrowed := true }
def FnExactRestartUptoSaid : Prop := fnExactRestartUptoRow.holds Tryz.pinned (OpenSpec.upto fnExactRestartSpec)

/-- 'laws.FnExactAbort', WHERE WHAT IT READS IS OF BULK AT MOST 1048576: true; the input reads as it did. -/
def fnExactAbortUptoRow : OpenClaim := { program := "ytanlbohhmoifcaagreat", sum := "3881978d3235d917d6dc5be98b9fbf417675dcc2e7a9d16cf9073ad00d1f31f1", func := "loop.example/g00462/laws.FnExactAbort", spec := "fnExactAbort", inPlace := ["slices.overlaps[loop.example/g00462/impl.Table]", "slices.overlaps[loop.example/g00462/impl.Rows]", "slices.overlaps[loop.example/g00462/impl.Row]"], unfollowed := true, recurses := true, apart := false, narrowed := true }
def FnExactAbortUptoSaid : Prop := fnExactAbortUptoRow.holds Tryz.pinned (OpenSpec.upto fnExactAbortSpec)

/-- 'laws.FnExactBegin', WHERE WHAT IT READS IS OF BULK AT MOST 1048576: true; the input reads as it did. -/
def fnExactBeginUptoRow : OpenClaim := { program := "ytanlbohhmoifcaagreat", sum := "3881978d3235d917d6dc5be98b9fbf417675dcc2e7a9d16cf9073ad00d1f31f1", func := "loop.example/g00462/laws.FnExactBegin", spec := "fnExactBegin", inPlace := ["slices.overlaps[loop.example/g00462/impl.Table]", "slices.overlaps[loop.example/g00462/impl.Rows]", "slices.overlaps[loop.example/g00462/impl.Row]"], unfollowed := true, recurses := true, apart := false, narrowed := true }
def FnExactBeginUptoSaid : Prop := fnExactBeginUptoRow.holds Tryz.pinned (OpenSpec.upto fnExactBeginSpec)

/-- 'laws.FnExactCommit', WHERE WHAT IT READS IS OF BULK AT MOST 1048576: true; the input reads as it did. -/
def fnExactCommitUptoRow : OpenClaim := { program := "ytanlbohhmoifcaagreat", sum := "3881978d3235d917d6dc5be98b9fbf417675dcc2e7a9d16cf9073ad00d1f31f1", func := "loop.example/g00462/laws.FnExactCommit", spec := "fnExactCommit", inPlace := ["slices.overlaps[loop.example/g00462/impl.Table]", "slices.overlaps[loop.example/g00462/impl.Rows]", "slices.overlaps[loop.example/g00462/impl.Row]"], unfollowed := true, recurses := true, apart := false, narrowed := true }
def FnExactCommitUptoSaid : Prop := fnExactCommitUptoRow.holds Tryz.pinned (OpenSpec.upto fnExactCommitSpec)

/-- 'laws.FnExactDo', WHERE WHAT IT READS IS OF BULK AT MOST 1048576: true; the input reads as it did. -/
def fnExactDoUptoRow : OpenClaim := { program := "ytanlbohhmoifcaagreat", sum := "3881978d3235d917d6dc5be98b9fbf417675dcc2e7a9d16cf9073ad00d1f31f1", func := "loop.example/g00462/laws.FnExactDo", spec := "fnExactDo", inPlace := ["slices.overlaps[loop.example/g00462/impl.Table]", "slices.overlaps[loop.example/g00462/impl.Rows]", "slices.overlaps[loop.example/g00462/impl.Row]"], unfollowed := true, recurses := true, apart := false, narrowed := true }
def FnExactDoUptoSaid : Prop := fnExactDoUptoRow.holds Tryz.pinned (OpenSpec.upto fnExactDoSpec)

/-- 'laws.FnExactDbAt', WHERE WHAT IT READS IS OF BULK AT MOST 1048576: true; the input reads as it did. -/
def fnExactDbAtUptoRow : OpenClaim := { program := "ytanlbohhmoifcaagreat", sum := "3881978d3235d917d6dc5be98b9fbf417675dcc2e7a9d16cf9073ad00d1f31f1", func := "loop.example/g00462/laws.FnExactDbAt", spec := "fnExactDbAt", inPlace := ["slices.overlaps[loop.example/g00462/impl.Table]", "slices.overlaps[loop.example/g00462/impl.Rows]", "slices.overlaps[loop.example/g00462/impl.Row]"], unfollowed := true, recurses := true, apart := false, narrowed := true }
def FnExactDbAtUptoSaid : Prop := fnExactDbAtUptoRow.holds Tryz.pinned (OpenSpec.upto fnExactDbAtSpec)

/-- 'laws.FnExactSnapOf', WHERE WHAT IT READS IS OF BULK AT MOST 1048576: true; the input reads as it did. -/
def fnExactSnapOfUptoRow : OpenClaim := { program := "ytanlbohhmoifcaagreat", sum := "3881978d3235d917d6dc5be98b9fbf417675dcc2e7a9d16cf9073ad00d1f31f1", func := "loop.example/g00462/laws.FnExactSnapOf", spec := "fnExactSnapOf", inPlace := ["slices.overlaps[loop.example/g00462/impl.Table]", "slices.overlaps[loop.example/g00462/impl.Rows]", "slices.overlaps[loop.example/g00462/impl.Row]"], unfollowed := true, recurses := true, apart := false, narrowed := true }
def FnExactSnapOfUptoSaid : Prop := fnExactSnapOfUptoRow.holds Tryz.pinned (OpenSpec.upto fnExactSnapOfSpec)

/-- 'laws.FnExactTailOf', WHERE WHAT IT READS IS OF BULK AT MOST 1048576: true; the input reads as it did. -/
def fnExactTailOfUptoRow : OpenClaim := { program := "ytanlbohhmoifcaagreat", sum := "3881978d3235d917d6dc5be98b9fbf417675dcc2e7a9d16cf9073ad00d1f31f1", func := "loop.example/g00462/laws.FnExactTailOf", spec := "fnExactTailOf", inPlace := ["slices.overlaps[loop.example/g00462/impl.Table]", "slices.overlaps[loop.example/g00462/impl.Rows]", "slices.overlaps[loop.example/g00462/impl.Row]"], unfollowed := true, recurses := true, apart := false, narrowed := true }
def FnExactTailOfUptoSaid : Prop := fnExactTailOfUptoRow.holds Tryz.pinned (OpenSpec.upto fnExactTailOfSpec)

/-- 'laws.FnExactTailAt', WHERE WHAT IT READS IS OF BULK AT MOST 1048576: true; the input reads as it did. -/
def fnExactTailAtUptoRow : OpenClaim := { program := "ytanlbohhmoifcaagreat", sum := "3881978d3235d917d6dc5be98b9fbf417675dcc2e7a9d16cf9073ad00d1f31f1", func := "loop.example/g00462/laws.FnExactTailAt", spec := "fnExactTailAt", inPlace := ["slices.overlaps[loop.example/g00462/impl.Table]", "slices.overlaps[loop.example/g00462/impl.Rows]", "slices.overlaps[loop.example/g00462/impl.Row]"], unfollowed := true, recurses := true, apart := false, narrowed := true }
def FnExactTailAtUptoSaid : Prop := fnExactTailAtUptoRow.holds Tryz.pinned (OpenSpec.upto fnExactTailAtSpec)

end Rows
end Go.Proofs.YtanlbohhmoifcaaGreat
