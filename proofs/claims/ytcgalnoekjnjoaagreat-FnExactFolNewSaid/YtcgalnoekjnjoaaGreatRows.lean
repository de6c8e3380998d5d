/-
  No cell of these rows narrows 'for every input' (looked for: loops, veiled, ifaces, maps, wideKeys, modest, calm, conditions, laid).
  DERIVED. THE GIVEN ROWS OF THIS SEAT. 12 by the template 'for every input the law returns true; each argument reads behind the call as it read before'; 0 by the template 'total and deterministic' (their statements: YtcgalnoekjnjoaaGreatTotals.lean).
  GIVEN WITH THE SEED: the statements are not yours to turn. If you find one false, say at which input.
  Laid BY PROGRAM, IN A SANDBOX (cutbox-rows.mjs): the forced cells as the released guide's own fill.sh prints them over the translation 88b4b4e076545752… (all of the seat's roots in one cut). By AI agents, Wed Nov 11 2026. No macro, syntax, notation, axiom, sorry.
-/
import Derived.Test.YtcgalnoekjnjoaaGreatChecked
import GoSem.Claim
import GoSem.ClaimJoined
import GoSem.ClaimMapViews
import Derived.JoinedTies
import Derived.KernelRfl
namespace Go.Proofs.YtcgalnoekjnjoaaGreat
/- THE CELL 'sum', in the pinned program and in every row, IS THE sha256 OF THE DUMP (.gsa) THAT YtcgalnoekjnjoaaGreatProg.lean LOADS. Nothing in Lean hashes anything: it is a label: what it is worth is what the hold of that sum in a sandbox is worth. -/
noncomputable def Tryz.pinned : Pinned := { name := "ytcgalnoekjnjoaagreat", sum := "88b4b4e0765457529cc4a06cc2b70a40d3d7d9f4293e82c5365ae7fc805e16d2", checked := Tryz.checked }
namespace Rows
def none {H : Type} : Left H := { results := [], args := [] }

/-- 'laws.FnExactTailOk': WHATEVER THE INPUT: true; the input reads as it did. -/
def fnExactTailOkSpec : ChangeSpec := { name := "fnExactTailOk", fn := fun _ => fun
  | [d] => { results := [.lit (.bool true)], args := [d] }
  | _ => none }
def fnExactTailOkRow : OpenClaim := { program := "ytcgalnoekjnjoaagreat", sum := "88b4b4e0765457529cc4a06cc2b70a40d3d7d9f4293e82c5365ae7fc805e16d2", func := "loop.example/g00462/laws.FnExactTailOk", spec := "fnExactTailOk", inPlace := ["slices.overlaps[loop.example/g00462/impl.Table]", "slices.overlaps[loop.example/g00462/impl.Rows]", "slices.overlaps[loop.example/g00462/impl.Row]"], unfollowed := true, recurses := true, apart := false }
def FnExactTailOkSaid : Prop := fnExactTailOkRow.holds Tryz.pinned (OpenSpec.ofChange fnExactTailOkSpec)

/-- ITS FALSE NEIGHBOUR: 'it returns false'. Refute it at one input. -/
def fnExactTailOkWrong : ChangeSpec := { name := "fnExactTailOk", fn := fun _ => fun
  | [d] => { results := [.lit (.bool false)], args := [d] }
  | _ => none }
def FnExactTailOkWrongFalsely : Prop := fnExactTailOkRow.holds Tryz.pinned (OpenSpec.ofChange fnExactTailOkWrong)

/-- 'laws.FnExactSnapText': WHATEVER THE INPUT: true; the input reads as it did. -/
def fnExactSnapTextSpec : ChangeSpec := { name := "fnExactSnapText", fn := fun _ => fun
  | [d] => { results := [.lit (.bool true)], args := [d] }
  | _ => none }
def fnExactSnapTextRow : OpenClaim := { program := "ytcgalnoekjnjoaagreat", sum := "88b4b4e0765457529cc4a06cc2b70a40d3d7d9f4293e82c5365ae7fc805e16d2", func := "loop.example/g00462/laws.FnExactSnapText", spec := "fnExactSnapText", unfollowed := true, recurses := true, apart := false }
def FnExactSnapTextSaid : Prop := fnExactSnapTextRow.holds Tryz.pinned (OpenSpec.ofChange fnExactSnapTextSpec)

/-- ITS FALSE NEIGHBOUR: 'it returns false'. Refute it at one input. -/
def fnExactSnapTextWrong : ChangeSpec := { name := "fnExactSnapText", fn := fun _ => fun
  | [d] => { results := [.lit (.bool false)], args := [d] }
  | _ => none }
def FnExactSnapTextWrongFalsely : Prop := fnExactSnapTextRow.holds Tryz.pinned (OpenSpec.ofChange fnExactSnapTextWrong)

/-- 'laws.FnExactProject': WHATEVER THE INPUT: true; the input reads as it did. -/
def fnExactProjectSpec : ChangeSpec := { name := "fnExactProject", fn := fun _ => fun
  | [d1, d2] => { results := [.lit (.bool true)], args := [d1, d2] }
  | _ => none }
def fnExactProjectRow : OpenClaim := { program := "ytcgalnoekjnjoaagreat", sum := "88b4b4e0765457529cc4a06cc2b70a40d3d7d9f4293e82c5365ae7fc805e16d2", func := "loop.example/g00462/laws.FnExactProject", spec := "fnExactProject", inPlace := ["slices.overlaps[loop.example/g00462/impl.Row]"], unfollowed := true, recurses := true, apart := false }
def FnExactProjectSaid : Prop := fnExactProjectRow.holds Tryz.pinned (OpenSpec.ofChange fnExactProjectSpec)

/-- ITS FALSE NEIGHBOUR: 'it returns false'. Refute it at one input. -/
def fnExactProjectWrong : ChangeSpec := { name := "fnExactProject", fn := fun _ => fun
  | [d1, d2] => { results := [.lit (.bool false)], args := [d1, d2] }
  | _ => none }
def FnExactProjectWrongFalsely : Prop := fnExactProjectRow.holds Tryz.pinned (OpenSpec.ofChange fnExactProjectWrong)

/-- 'laws.FnExactShows': WHATEVER THE INPUT: true; the input reads as it did. -/
def fnExactShowsSpec : ChangeSpec := { name := "fnExactShows", fn := fun _ => fun
  | [d1, d2] => { results := [.lit (.bool true)], args := [d1, d2] }
  | _ => none }
def fnExactShowsRow : OpenClaim := { program := "ytcgalnoekjnjoaagreat", sum := "88b4b4e0765457529cc4a06cc2b70a40d3d7d9f4293e82c5365ae7fc805e16d2", func := "loop.example/g00462/laws.FnExactShows", spec := "fnExactShows", inPlace := ["slices.overlaps[loop.example/g00462/impl.Row]"], unfollowed := true, recurses := true, apart := false }
def FnExactShowsSaid : Prop := fnExactShowsRow.holds Tryz.pinned (OpenSpec.ofChange fnExactShowsSpec)

/-- ITS FALSE NEIGHBOUR: 'it returns false'. Refute it at one input. -/
def fnExactShowsWrong : ChangeSpec := { name := "fnExactShows", fn := fun _ => fun
  | [d1, d2] => { results := [.lit (.bool false)], args := [d1, d2] }
  | _ => none }
def FnExactShowsWrongFalsely : Prop := fnExactShowsRow.holds Tryz.pinned (OpenSpec.ofChange fnExactShowsWrong)

/-- 'laws.FnExactMapStmt': WHATEVER THE INPUT: true; the input reads as it did. -/
def fnExactMapStmtSpec : ChangeSpec := { name := "fnExactMapStmt", fn := fun _ => fun
  | [d1, d2] => { results := [.lit (.bool true)], args := [d1, d2] }
  | _ => none }
def fnExactMapStmtRow : OpenClaim := { program := "ytcgalnoekjnjoaagreat", sum := "88b4b4e0765457529cc4a06cc2b70a40d3d7d9f4293e82c5365ae7fc805e16d2", func := "loop.example/g00462/laws.FnExactMapStmt", spec := "fnExactMapStmt", unfollowed := true, recurses := true, apart := false }
def FnExactMapStmtSaid : Prop := fnExactMapStmtRow.holds Tryz.pinned (OpenSpec.ofChange fnExactMapStmtSpec)

/-- ITS FALSE NEIGHBOUR: 'it returns false'. Refute it at one input. -/
def fnExactMapStmtWrong : ChangeSpec := { name := "fnExactMapStmt", fn := fun _ => fun
  | [d1, d2] => { results := [.lit (.bool false)], args := [d1, d2] }
  | _ => none }
def FnExactMapStmtWrongFalsely : Prop := fnExactMapStmtRow.holds Tryz.pinned (OpenSpec.ofChange fnExactMapStmtWrong)

/-- 'laws.FnExactFolNew': WHATEVER THE INPUT: true; the input reads as it did. -/
def fnExactFolNewSpec : ChangeSpec := { name := "fnExactFolNew", fn := fun _ => fun
  | [d] => { results := [.lit (.bool true)], args := [d] }
  | _ => none }
def fnExactFolNewRow : OpenClaim := { program := "ytcgalnoekjnjoaagreat", sum := "88b4b4e0765457529cc4a06cc2b70a40d3d7d9f4293e82c5365ae7fc805e16d2", func := "loop.example/g00462/laws.FnExactFolNew", spec := "fnExactFolNew", unfollowed := true, recurses := true, apart := false }
def FnExactFolNewSaid : Prop := fnExactFolNewRow.holds Tryz.pinned (OpenSpec.ofChange fnExactFolNewSpec)

/-- ITS FALSE NEIGHBOUR: 'it returns false'. Refute it at one input. -/
def fnExactFolNewWrong : ChangeSpec := { name := "fnExactFolNew", fn := fun _ => fun
  | [d] => { results := [.lit (.bool false)], args := [d] }
  | _ => none }
def FnExactFolNewWrongFalsely : Prop := fnExactFolNewRow.holds Tryz.pinned (OpenSpec.ofChange fnExactFolNewWrong)

/-- 'laws.FnExactPartsOf': WHATEVER THE INPUT: true; the input reads as it did. -/
def fnExactPartsOfSpec : ChangeSpec := { name := "fnExactPartsOf", fn := fun _ => fun
  | [d1, d2] => { results := [.lit (.bool true)], args := [d1, d2] }
  | _ => none }
def fnExactPartsOfRow : OpenClaim := { program := "ytcgalnoekjnjoaagreat", sum := "88b4b4e0765457529cc4a06cc2b70a40d3d7d9f4293e82c5365ae7fc805e16d2", func := "loop.example/g00462/laws.FnExactPartsOf", spec := "fnExactPartsOf", inPlace := ["slices.overlaps[loop.example/g00462/impl.Table]", "slices.overlaps[loop.example/g00462/impl.Rows]", "slices.overlaps[loop.example/g00462/impl.Row]"], unfollowed := true, recurses := true, apart := false }
def FnExactPartsOfSaid : Prop := fnExactPartsOfRow.holds Tryz.pinned (OpenSpec.ofChange fnExactPartsOfSpec)

/-- ITS FALSE NEIGHBOUR: 'it returns false'. Refute it at one input. -/
def fnExactPartsOfWrong : ChangeSpec := { name := "fnExactPartsOf", fn := fun _ => fun
  | [d1, d2] => { results := [.lit (.bool false)], args := [d1, d2] }
  | _ => none }
def FnExactPartsOfWrongFalsely : Prop := fnExactPartsOfRow.holds Tryz.pinned (OpenSpec.ofChange fnExactPartsOfWrong)

/-- 'laws.FnExactTakePart': WHATEVER THE INPUT: true; the input reads as it did. -/
def fnExactTakePartSpec : ChangeSpec := { name := "fnExactTakePart", fn := fun _ => fun
  | [d1, d2] => { results := [.lit (.bool true)], args := [d1, d2] }
  | _ => none }
def fnExactTakePartRow : OpenClaim := { program := "ytcgalnoekjnjoaagreat", sum := "88b4b4e0765457529cc4a06cc2b70a40d3d7d9f4293e82c5365ae7fc805e16d2", func := "loop.example/g00462/laws.FnExactTakePart", spec := "fnExactTakePart", inPlace := ["slices.overlaps[loop.example/g00462/impl.Table]", "slices.overlaps[loop.example/g00462/impl.Rows]", "slices.overlaps[loop.example/g00462/impl.Row]"], unfollowed := true, recurses := true, apart := false }
def FnExactTakePartSaid : Prop := fnExactTakePartRow.holds Tryz.pinned (OpenSpec.ofChange fnExactTakePartSpec)

/-- ITS FALSE NEIGHBOUR: 'it returns false'. Refute it at one input. -/
def fnExactTakePartWrong : ChangeSpec := { name := "fnExactTakePart", fn := fun _ => fun
  | [d1, d2] => { results := [.lit (.bool false)], args := [d1, d2] }
  | _ => none }
def FnExactTakePartWrongFalsely : Prop := fnExactTakePartRow.holds Tryz.pinned (OpenSpec.ofChange fnExactTakePartWrong)

/-- 'laws.FnExactFolTake': WHATEVER THE INPUT: true; the input reads as it did. -/
def fnExactFolTakeSpec : ChangeSpec := { name := "fnExactFolTake", fn := fun _ => fun
  | [d1, d2] => { results := [.lit (.bool true)], args := [d1, d2] }
  | _ => none }
def fnExactFolTakeRow : OpenClaim := { program := "ytcgalnoekjnjoaagreat", sum := "88b4b4e0765457529cc4a06cc2b70a40d3d7d9f4293e82c5365ae7fc805e16d2", func := "loop.example/g00462/laws.FnExactFolTake", spec := "fnExactFolTake", inPlace := ["slices.overlaps[loop.example/g00462/impl.Table]", "slices.overlaps[loop.example/g00462/impl.Rows]", "slices.overlaps[loop.example/g00462/impl.Row]"], unfollowed := true, recurses := true, apart := false }
def FnExactFolTakeSaid : Prop := fnExactFolTakeRow.holds Tryz.pinned (OpenSpec.ofChange fnExactFolTakeSpec)

/-- ITS FALSE NEIGHBOUR: 'it returns false'. Refute it at one input. -/
def fnExactFolTakeWrong : ChangeSpec := { name := "fnExactFolTake", fn := fun _ => fun
  | [d1, d2] => { results := [.lit (.bool false)], args := [d1, d2] }
  | _ => none }
def FnExactFolTakeWrongFalsely : Prop := fnExactFolTakeRow.holds Tryz.pinned (OpenSpec.ofChange fnExactFolTakeWrong)

/-- 'laws.FnExactFolTakeAll': WHATEVER THE INPUT: true; the input reads as it did. -/
def fnExactFolTakeAllSpec : ChangeSpec := { name := "fnExactFolTakeAll", fn := fun _ => fun
  | [d1, d2] => { results := [.lit (.bool true)], args := [d1, d2] }
  | _ => none }
def fnExactFolTakeAllRow : OpenClaim := { program := "ytcgalnoekjnjoaagreat", sum := "88b4b4e0765457529cc4a06cc2b70a40d3d7d9f4293e82c5365ae7fc805e16d2", func := "loop.example/g00462/laws.FnExactFolTakeAll", spec := "fnExactFolTakeAll", inPlace := ["slices.overlaps[loop.example/g00462/impl.Table]", "slices.overlaps[loop.example/g00462/impl.Rows]", "slices.overlaps[loop.example/g00462/impl.Row]"], unfollowed := true, recurses := true, apart := false }
def FnExactFolTakeAllSaid : Prop := fnExactFolTakeAllRow.holds Tryz.pinned (OpenSpec.ofChange fnExactFolTakeAllSpec)

/-- ITS FALSE NEIGHBOUR: 'it returns false'. Refute it at one input. -/
def fnExactFolTakeAllWrong : ChangeSpec := { name := "fnExactFolTakeAll", fn := fun _ => fun
  | [d1, d2] => { results := [.lit (.bool false)], args := [d1, d2] }
  | _ => none }
def FnExactFolTakeAllWrongFalsely : Prop := fnExactFolTakeAllRow.holds Tryz.pinned (OpenSpec.ofChange fnExactFolTakeAllWrong)

/-- 'laws.FnExactDecode': WHATEVER THE INPUT: true; the input reads as it did. -/
def fnExactDecodeSpec : ChangeSpec := { name := "fnExactDecode", fn := fun _ => fun
  | [d1, d2] => { results := [.lit (.bool true)], args := [d1, d2] }
  | _ => none }
def fnExactDecodeRow : OpenClaim := { program := "ytcgalnoekjnjoaagreat", sum := "88b4b4e0765457529cc4a06cc2b70a40d3d7d9f4293e82c5365ae7fc805e16d2", func := "loop.example/g00462/laws.FnExactDecode", spec := "fnExactDecode", inPlace := ["slices.overlaps[loop.example/g00462/impl.Table]", "slices.overlaps[loop.example/g00462/impl.Rows]", "slices.overlaps[loop.example/g00462/impl.Row]"], unfollowed := true, recurses := true, apart := false }
def FnExactDecodeSaid : Prop := fnExactDecodeRow.holds Tryz.pinned (OpenSpec.ofChange fnExactDecodeSpec)

/-- ITS FALSE NEIGHBOUR: 'it returns false'. Refute it at one input. -/
def fnExactDecodeWrong : ChangeSpec := { name := "fnExactDecode", fn := fun _ => fun
  | [d1, d2] => { results := [.lit (.bool false)], args := [d1, d2] }
  | _ => none }
def FnExactDecodeWrongFalsely : Prop := fnExactDecodeRow.holds Tryz.pinned (OpenSpec.ofChange fnExactDecodeWrong)

/-- 'laws.FnExactBatchAt': WHATEVER THE INPUT: true; the input reads as it did. -/
def fnExactBatchAtSpec : ChangeSpec := { name := "fnExactBatchAt", fn := fun _ => fun
  | [d1, d2] => { results := [.lit (.bool true)], args := [d1, d2] }
  | _ => none }
def fnExactBatchAtRow : OpenClaim := { program := "ytcgalnoekjnjoaagreat", sum := "88b4b4e0765457529cc4a06cc2b70a40d3d7d9f4293e82c5365ae7fc805e16d2", func := "loop.example/g00462/laws.FnExactBatchAt", spec := "fnExactBatchAt", inPlace := ["slices.overlaps[loop.example/g00462/impl.Table]", "slices.overlaps[loop.example/g00462/impl.Rows]", "slices.overlaps[loop.example/g00462/impl.Row]"], unfollowed := true, recurses := true, apart := false }
def FnExactBatchAtSaid : Prop := fnExactBatchAtRow.holds Tryz.pinned (OpenSpec.ofChange fnExactBatchAtSpec)

/-- ITS FALSE NEIGHBOUR: 'it returns false'. Refute it at one input. -/
def fnExactBatchAtWrong : ChangeSpec := { name := "fnExactBatchAt", fn := fun _ => fun
  | [d1, d2] => { results := [.lit (.bool false)], args := [d1, d2] }
  | _ => none }
def FnExactBatchAtWrongFalsely : Prop := fnExactBatchAtRow.holds Tryz.pinned (OpenSpec.ofChange fnExactBatchAtWrong)

/- THE SECOND FORM. 'bulk': how many values and letters a reading holds, each counted each time it is reached (what is shared counts as often as it is met; a slice's spare places count too). A statement '..UptoSaid' is the law's where the arguments, and the package variables that the reading takes, are together of bulk at most 1048576: NARROWER than '..Said'. Prove '..Said' where nothing that the law and all that it calls make is longer than what came in: it says more and counts as full. Else prove '..UptoSaid'. A law counts once. -/
mutual
def uptoBulk {H : Type} : DataW H → Nat
  | .lit (.string bytes) => bytes.length + 1
  | .lit _ => 1
  | .nil => 1
  | .ptr d => uptoBulk d + 1
  | .slice elems spare => uptoBulkAll elems + uptoBulkAll spare + 1
  | .agg parts => uptoBulkAll parts + 1
  | .iface _ d => uptoBulk d + 1
  | .map entries => uptoBulkEntries entries + 1
  | .held _ => 1
def uptoBulkAll {H : Type} : List (DataW H) → Nat
  | [] => 0
  | d :: r => uptoBulk d + uptoBulkAll r
def uptoBulkEntries {H : Type} : List (Lit × DataW H) → Nat
  | [] => 0
  | x :: r => uptoBulkEntry x + uptoBulkEntries r
def uptoBulkEntry {H : Type} : Lit × DataW H → Nat
  | (.string bytes, d) => bytes.length + uptoBulk d + 1
  | (_, d) => uptoBulk d + 1
 end
def uptoSmall : (H : Type) → List (DataW H) → Bool := fun _ ds => decide (uptoBulkAll ds ≤ 1048576)
def OpenSpec.upto (s : _root_.Go.ChangeSpec) : _root_.Go.OpenSpec := { _root_.Go.OpenSpec.ofChange s with cond := some uptoSmall }

/-- 'laws.FnExactTailOk', WHERE WHAT IT READS IS OF BULK AT MOST 1048576: true; the input reads as it did. -/
def fnExactTailOkUptoRow : OpenClaim := { program := "ytcgalnoekjnjoaagreat", sum := "88b4b4e0765457529cc4a06cc2b70a40d3d7d9f4293e82c5365ae7fc805e16d2", func := "loop.example/g00462/laws.FnExactTailOk", spec := "fnExactTailOk", inPlace := ["slices.overlaps[loop.example/g00462/impl.Table]", "slices.overlaps[loop.example/g00462/impl.Rows]", "slices.overlaps[loop.example/g00462/impl.Row]"], unfollowed := true, recurses := true, apart := false, narrowed := true }
def FnExactTailOkUptoSaid : Prop := fnExactTailOkUptoRow.holds Tryz.pinned (OpenSpec.upto fnExactTailOkSpec)

/-- 'laws.FnExactSnapText', WHERE WHAT IT READS IS OF BULK AT MOST 1048576: true; the input reads as it did. -/
def fnExactSnapTextUptoRow : OpenClaim := { program := "ytcgalnoekjnjoaagreat", sum := "88b4b4e0765457529cc4a06cc2b70a40d3d7d9f4293e82c5365ae7fc805e16d2", func := "loop.example/g00462/laws.FnExactSnapText", spec := "fnExactSnapText", unfollowed := true, recurses := true, apart := false, narrowed := true }
def FnExactSnapTextUptoSaid : Prop := fnExactSnapTextUptoRow.holds Tryz.pinned (OpenSpec.upto fnExactSnapTextSpec)

/-- 'laws.FnExactProject', WHERE WHAT IT READS IS OF BULK AT MOST 1048576: true; the input reads as it did. -/
def fnExactProjectUptoRow : OpenClaim := { program := "ytcgalnoekjnjoaagreat", sum := "88b4b4e0765457529cc4a06cc2b70a40d3d7d9f4293e82c5365ae7fc805e16d2", func := "loop.example/g00462/laws.FnExactProject", spec := "fnExactProject", inPlace := ["slices.overlaps[loop.example/g00462/impl.Row]"], unfollowed := true, recurses := true, apart := false, narrowed := true }
def FnExactProjectUptoSaid : Prop := fnExactProjectUptoRow.holds Tryz.pinned (OpenSpec.upto fnExactProjectSpec)

/-- 'laws.FnExactShows', WHERE WHAT IT READS IS OF BULK AT MOST 1048576: true; the input reads as it did. -/
def fnExactShowsUptoRow : OpenClaim := { program := "ytcgalnoekjnjoaagreat", sum := "88b4b4e0765457529cc4a06cc2b70a40d3d7d9f4293e82c5365ae7fc805e16d2", func := "loop.example/g00462/laws.FnExactShows", spec := "fnExactShows", inPlace := ["slices.overlaps[loop.example/g00462/impl.Row]"], unfollowed := true, recurses := true, apart := false, narrowed := true }
def FnExactShowsUptoSaid : Prop := fnExactShowsUptoRow.holds Tryz.pinned (OpenSpec.upto fnExactShowsSpec)

/-- 'laws.FnExactMapStmt', WHERE WHAT IT READS IS OF BULK AT MOST 1048576: true; the input reads as it did. -/
def fnExactMapStmtUptoRow : OpenClaim := { program := "ytcgalnoekjnjoaagreat", sum := "88b4b4e0765457529cc4a06cc2b70a40d3d7d9f4293e82c5365ae7fc805e16d2", func := "loop.example/g00462/laws.FnExactMapStmt", spec := "fnExactMapStmt", unfollowed := true, recurses := true, apart := false, narrowed := true }
def FnExactMapStmtUptoSaid : Prop := fnExactMapStmtUptoRow.holds Tryz.pinned (OpenSpec.upto fnExactMapStmtSpec)

/-- 'laws.FnExactFolNew', WHERE WHAT IT READS IS OF BULK AT MOST 1048576: true; the input reads as it did. -/
def fnExactFolNewUptoRow : OpenClaim := { program := "ytcgalnoekjnjoaagreat", sum := "88b4b4e0765457529cc4a06cc2b70a40d3d7d9f4293e82c5365ae7fc805e16d2", func := "loop.example/g00462/laws.FnExactFolNew", spec := "fnExactFolNew", unfollowed := true, recurses := true, apart := false, narrowed := true }
def FnExactFolNewUptoSaid : Prop := fnExactFolNewUptoRow.holds Tryz.pinned (OpenSpec.upto fnExactFolNewSpec)

/-- 'laws.FnExactPartsOf', WHERE WHAT IT READS IS OF BULK AT MOST 1048576: true; the input reads as it did. -/
def fnExactPartsOfUptoRow : OpenClaim := { program := "ytcgalnoekjnjoaagreat", sum := "88b4b4e0765457529cc4a06cc2b70a40d3d7d9f4293e82c5365ae7fc805e16d2", func := "loop.example/g00462/laws.FnExactPartsOf", spec := "fnExactPartsOf", inPlace := ["slices.overlaps[loop.example/g00462/impl.Table]", "slices.overlaps[loop.example/g00462/impl.Rows]", "slices.overlaps[loop.example/g00462/impl.Row]"], unfollowed := true, recurses := true, apart := false, narrowed := true }
def FnExactPartsOfUptoSaid : Prop := fnExactPartsOfUptoRow.holds Tryz.pinned (OpenSpec.upto fnExactPartsOfSpec)

/-- 'laws.FnExactTakePart', WHERE WHAT IT READS IS OF BULK AT MOST 1048576: true; the input reads as it did. -/
def fnExactTakePartUptoRow : OpenClaim := { program := "ytcgalnoekjnjoaagreat", sum := "88b4b4e0765457529cc4a06cc2b70a40d3d7d9f4293e82c5365ae7fc805e16d2", func := "loop.example/g00462/laws.FnExactTakePart", spec := "fnExactTakePart", inPlace := ["slices.overlaps[loop.example/g00462/impl.Table]", "slices.overlaps[loop.example/g00462/impl.Rows]", "slices.overlaps[loop.example/g00462/impl.Row]"], unfollowed := true, recurses := true, apart := false, narrowed := true }
def FnExactTakePartUptoSaid : Prop := fnExactTakePartUptoRow.holds Tryz.pinned (OpenSpec.upto fnExactTakePartSpec)

/-- 'laws.FnExactFolTake', WHERE WHAT IT READS IS OF BULK AT MOST 1048576: true; the input reads as it did. -/
def fnExactFolTakeUptoRow : OpenClaim := { program := "ytcgalnoekjnjoaagreat", sum := "88b4b4e0765457529cc4a06cc2b70a40d3d7d9f4293e82c5365ae7fc805e16d2", func := "loop.example/g00462/laws.FnExactFolTake", spec := "fnExactFolTake", inPlace := ["slices.overlaps[loop.example/g00462/impl.Table]", "slices.overlaps[loop.example/g00462/impl.Rows]", "slices.overlaps[loop.example/g00462/impl.Row]"], unfollowed := true, recurses := true, apart := false, narrowed := true }
def FnExactFolTakeUptoSaid : Prop := fnExactFolTakeUptoRow.holds Tryz.pinned (OpenSpec.upto fnExactFolTakeSpec)

/-- 'laws.FnExactFolTakeAll', WHERE WHAT IT READS IS OF BULK AT MOST 1048576: true; the input reads as it did. -/
def fnExactFolTakeAllUptoRow : OpenClaim := { program := "ytcgalnoekjnjoaagreat", sum := "88b4b4e0765457529cc4a06cc2b70a40d3d7d9f4293e82c5365ae7fc805e16d2", func := "loop.example/g00462/laws.FnExactFolTakeAll", spec := "fnExactFolTakeAll", inPlace := ["slices.overlaps[loop.example/g00462/impl.Table]", "slices.overlaps[loop.example/g00462/impl.Rows]", "slices.overlaps[loop.example/g00462/impl.Row]"], unfollowed := true, recurses := true, apart := false, narrowed := true }
def FnExactFolTakeAllUptoSaid : Prop := fnExactFolTakeAllUptoRow.holds Tryz.pinned (OpenSpec.upto fnExactFolTakeAllSpec)

/-- 'laws.FnExactDecode', WHERE WHAT IT READS IS OF BULK AT MOST 1048576: true; the input reads as it did. -/
def fnExactDecodeUptoRow : OpenClaim := { program := "ytcgalnoekjnjoaagreat", sum := "88b4b4e0765457529cc4a06cc2b70a40d3d7d9f4293e82c5365ae7fc805e16d2", func := "loop.example/g00462/laws.FnExactDecode", spec := "fnExactDecode", inPlace := ["slices.overlaps[loop.example/g00462/impl.Table]", "slices.overlaps[loop.example/g00462/impl.Rows]", "slices.overlaps[loop.example/g00462/impl.Row]"], unfollowed := true, recurses := true, apart := false, narrowed := true }
def FnExactDecodeUptoSaid : Prop := fnExactDecodeUptoRow.holds Tryz.pinned (OpenSpec.upto fnExactDecodeSpec)

/-- 'laws.FnExactBatchAt', WHERE WHAT IT READS IS OF BULK AT MOST 1048576: true; the input reads as it did. -/
def fnExactBatchAtUptoRow : OpenClaim := { program := "ytcgalnoekjnjoaagreat", sum := "88b4b4e0765457529cc4a06cc2b70a40d3d7d9f4293e82c5365ae7fc805e16d2", func := "loop.example/g00462/laws.FnExactBatchAt", spec := "fnExactBatchAt", inPlace := ["slices.overlaps[loop.example/g00462/impl.Table]", "slices.overlaps[loop.example/g00462/impl.Rows]", "slices.overlaps[loop.example/g00462/impl.Row]"], unfollowed := true, recurses := true, apart := false, narrowed := true }
def FnExactBatchAtUptoSaid : Prop := fnExactBatchAtUptoRow.holds Tryz.pinned (OpenSpec.upto fnExactBatchAtSpec)

end Rows
end Go.Proofs.YtcgalnoekjnjoaaGreat
