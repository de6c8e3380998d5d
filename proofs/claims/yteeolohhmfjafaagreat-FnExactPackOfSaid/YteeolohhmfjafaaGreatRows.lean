/-
  No cell of these rows narrows 'for every input' (looked for: loops, veiled, ifaces, maps, wideKeys, modest, calm, conditions, laid).
  DERIVED. THE GIVEN ROWS OF THIS SEAT. 11 by the template 'for every input the law returns true; each argument reads behind the call as it read before'; 0 by the template 'total and deterministic' (their statements: YteeolohhmfjafaaGreatTotals.lean).
  GIVEN WITH THE SEED: the statements are not yours to turn. If you find one false, say at which input.
  Laid BY PROGRAM, IN A SANDBOX (cutbox-rows.mjs): the forced cells as the released guide's own fill.sh prints them over the translation 03415a0f11c9cac6… (all of the seat's roots in one cut). By AI agents, Wed Nov 11 2026. No macro, syntax, notation, axiom, sorry.
-/
import Derived.Test.YteeolohhmfjafaaGreatChecked
import GoSem.Claim
import GoSem.ClaimJoined
import GoSem.ClaimMapViews
import Derived.JoinedTies
import Derived.KernelRfl
namespace Go.Proofs.YteeolohhmfjafaaGreat
/- THE CELL 'sum', in the pinned program and in every row, IS THE sha256 OF THE DUMP (.gsa) THAT YteeolohhmfjafaaGreatProg.lean LOADS. Nothing in Lean hashes anything: it is a label: what it is worth is what the hold of that sum in a sandbox is worth. -/
noncomputable def Tryz.pinned : Pinned := { name := "yteeolohhmfjafaagreat", sum := "03415a0f11c9cac63bcc2571879dbe1b3b6c3f039cf72a5071f18a3e93ec89a9", checked := Tryz.checked }
namespace Rows
def none {H : Type} : Left H := { results := [], args := [] }

/-- 'laws.FnExactPartsOf': WHATEVER THE INPUT: true; the input reads as it did. -/
def fnExactPartsOfSpec : ChangeSpec := { name := "fnExactPartsOf", fn := fun _ => fun
  | [d1, d2] => { results := [.lit (.bool true)], args := [d1, d2] }
  | _ => none }
def fnExactPartsOfRow : OpenClaim := { program := "yteeolohhmfjafaagreat", sum := "03415a0f11c9cac63bcc2571879dbe1b3b6c3f039cf72a5071f18a3e93ec89a9", func := "loop.example/g00462/laws.FnExactPartsOf", spec := "fnExactPartsOf", inPlace := ["slices.overlaps[loop.example/g00462/impl.Table]", "slices.overlaps[loop.example/g00462/impl.Rows]", "slices.overlaps[loop.example/g00462/impl.Row]"], unfollowed := true, recurses := true, apart := false }
def FnExactPartsOfSaid : Prop := fnExactPartsOfRow.holds Tryz.pinned (OpenSpec.ofChange fnExactPartsOfSpec)

/-- ITS FALSE NEIGHBOUR: 'it returns false'. Refute it at one input. -/
def fnExactPartsOfWrong : ChangeSpec := { name := "fnExactPartsOf", fn := fun _ => fun
  | [d1, d2] => { results := [.lit (.bool false)], args := [d1, d2] }
  | _ => none }
def FnExactPartsOfWrongFalsely : Prop := fnExactPartsOfRow.holds Tryz.pinned (OpenSpec.ofChange fnExactPartsOfWrong)

/-- 'laws.FnExactDecode': WHATEVER THE INPUT: true; the input reads as it did. -/
def fnExactDecodeSpec : ChangeSpec := { name := "fnExactDecode", fn := fun _ => fun
  | [d1, d2] => { results := [.lit (.bool true)], args := [d1, d2] }
  | _ => none }
def fnExactDecodeRow : OpenClaim := { program := "yteeolohhmfjafaagreat", sum := "03415a0f11c9cac63bcc2571879dbe1b3b6c3f039cf72a5071f18a3e93ec89a9", func := "loop.example/g00462/laws.FnExactDecode", spec := "fnExactDecode", inPlace := ["slices.overlaps[loop.example/g00462/impl.Table]", "slices.overlaps[loop.example/g00462/impl.Rows]", "slices.overlaps[loop.example/g00462/impl.Row]"], unfollowed := true, recurses := true, apart := false }
def FnExactDecodeSaid : Prop := fnExactDecodeRow.holds Tryz.pinned (OpenSpec.ofChange fnExactDecodeSpec)

/-- ITS FALSE NEIGHBOUR: 'it returns false'. Refute it at one input. -/
def fnExactDecodeWrong : ChangeSpec := { name := "fnExactDecode", fn := fun _ => fun
  | [d1, d2] => { results := [.lit (.bool false)], args := [d1, d2] }
  | _ => none }
def FnExactDecodeWrongFalsely : Prop := fnExactDecodeRow.holds Tryz.pinned (OpenSpec.ofChange fnExactDecodeWrong)

/-- 'laws.FnExactBatchAt': WHATEVER THE INPUT: true; the input reads as it did. -/
def fnExactBatchAtSpec : ChangeSpec := { name := "fnExactBatchAt", fn := fun _ => fun
  | [d1, d2] => { results := [.lit (.bool true)], args := [d1, d2] }
  | _ => none }
def fnExactBatchAtRow : OpenClaim := { program := "yteeolohhmfjafaagreat", sum := "03415a0f11c9cac63bcc2571879dbe1b3b6c3f039cf72a5071f18a3e93ec89a9", func := "loop.example/g00462/laws.FnExactBatchAt", spec := "fnExactBatchAt", inPlace := ["slices.overlaps[loop.example/g00462/impl.Table]", "slices.overlaps[loop.example/g00462/impl.Rows]", "slices.overlaps[loop.example/g00462/impl.Row]"], unfollowed := true, recurses := true, apart := false }
def FnExactBatchAtSaid : Prop := fnExactBatchAtRow.holds Tryz.pinned (OpenSpec.ofChange fnExactBatchAtSpec)

/-- ITS FALSE NEIGHBOUR: 'it returns false'. Refute it at one input. -/
def fnExactBatchAtWrong : ChangeSpec := { name := "fnExactBatchAt", fn := fun _ => fun
  | [d1, d2] => { results := [.lit (.bool false)], args := [d1, d2] }
  | _ => none }
def FnExactBatchAtWrongFalsely : Prop := fnExactBatchAtRow.holds Tryz.pinned (OpenSpec.ofChange fnExactBatchAtWrong)

/-- 'laws.FnExactShows': WHATEVER THE INPUT: true; the input reads as it did. -/
def fnExactShowsSpec : ChangeSpec := { name := "fnExactShows", fn := fun _ => fun
  | [d1, d2] => { results := [.lit (.bool true)], args := [d1, d2] }
  | _ => none }
def fnExactShowsRow : OpenClaim := { program := "yteeolohhmfjafaagreat", sum := "03415a0f11c9cac63bcc2571879dbe1b3b6c3f039cf72a5071f18a3e93ec89a9", func := "loop.example/g00462/laws.FnExactShows", spec := "fnExactShows", inPlace := ["slices.overlaps[loop.example/g00462/impl.Row]"], unfollowed := true, recurses := true, apart := false }
def FnExactShowsSaid : Prop := fnExactShowsRow.holds Tryz.pinned (OpenSpec.ofChange fnExactShowsSpec)

/-- ITS FALSE NEIGHBOUR: 'it returns false'. Refute it at one input. -/
def fnExactShowsWrong : ChangeSpec := { name := "fnExactShows", fn := fun _ => fun
  | [d1, d2] => { results := [.lit (.bool false)], args := [d1, d2] }
  | _ => none }
def FnExactShowsWrongFalsely : Prop := fnExactShowsRow.holds Tryz.pinned (OpenSpec.ofChange fnExactShowsWrong)

/-- 'laws.FnExactPackOf': WHATEVER THE INPUT: true; the input reads as it did. -/
def fnExactPackOfSpec : ChangeSpec := { name := "fnExactPackOf", fn := fun _ => fun
  | [d] => { results := [.lit (.bool true)], args := [d] }
  | _ => none }
def fnExactPackOfRow : OpenClaim := { program := "yteeolohhmfjafaagreat", sum := "03415a0f11c9cac63bcc2571879dbe1b3b6c3f039cf72a5071f18a3e93ec89a9", func := "loop.example/g00462/laws.FnExactPackOf", spec := "fnExactPackOf", unfollowed := true, recurses := true, apart := false }
def FnExactPackOfSaid : Prop := fnExactPackOfRow.holds Tryz.pinned (OpenSpec.ofChange fnExactPackOfSpec)

/-- ITS FALSE NEIGHBOUR: 'it returns false'. Refute it at one input. -/
def fnExactPackOfWrong : ChangeSpec := { name := "fnExactPackOf", fn := fun _ => fun
  | [d] => { results := [.lit (.bool false)], args := [d] }
  | _ => none }
def FnExactPackOfWrongFalsely : Prop := fnExactPackOfRow.holds Tryz.pinned (OpenSpec.ofChange fnExactPackOfWrong)

/-- 'laws.FnExactPacks': WHATEVER THE INPUT: true; the input reads as it did. -/
def fnExactPacksSpec : ChangeSpec := { name := "fnExactPacks", fn := fun _ => fun
  | [d1, d2] => { results := [.lit (.bool true)], args := [d1, d2] }
  | _ => none }
def fnExactPacksRow : OpenClaim := { program := "yteeolohhmfjafaagreat", sum := "03415a0f11c9cac63bcc2571879dbe1b3b6c3f039cf72a5071f18a3e93ec89a9", func := "loop.example/g00462/laws.FnExactPacks", spec := "fnExactPacks", inPlace := ["slices.overlaps[loop.example/g00462/impl.Table]", "slices.overlaps[loop.example/g00462/impl.Rows]", "slices.overlaps[loop.example/g00462/impl.Row]"], unfollowed := true, recurses := true, apart := false }
def FnExactPacksSaid : Prop := fnExactPacksRow.holds Tryz.pinned (OpenSpec.ofChange fnExactPacksSpec)

/-- ITS FALSE NEIGHBOUR: 'it returns false'. Refute it at one input. -/
def fnExactPacksWrong : ChangeSpec := { name := "fnExactPacks", fn := fun _ => fun
  | [d1, d2] => { results := [.lit (.bool false)], args := [d1, d2] }
  | _ => none }
def FnExactPacksWrongFalsely : Prop := fnExactPacksRow.holds Tryz.pinned (OpenSpec.ofChange fnExactPacksWrong)

/-- 'laws.FnExactTailDecode': WHATEVER THE INPUT: true; the input reads as it did. -/
def fnExactTailDecodeSpec : ChangeSpec := { name := "fnExactTailDecode", fn := fun _ => fun
  | [d1, d2] => { results := [.lit (.bool true)], args := [d1, d2] }
  | _ => none }
def fnExactTailDecodeRow : OpenClaim := { program := "yteeolohhmfjafaagreat", sum := "03415a0f11c9cac63bcc2571879dbe1b3b6c3f039cf72a5071f18a3e93ec89a9", func := "loop.example/g00462/laws.FnExactTailDecode", spec := "fnExactTailDecode", inPlace := ["slices.overlaps[loop.example/g00462/impl.Table]", "slices.overlaps[loop.example/g00462/impl.Rows]", "slices.overlaps[loop.example/g00462/impl.Row]"], unfollowed := true, recurses := true, apart := false }
def FnExactTailDecodeSaid : Prop := fnExactTailDecodeRow.holds Tryz.pinned (OpenSpec.ofChange fnExactTailDecodeSpec)

/-- ITS FALSE NEIGHBOUR: 'it returns false'. Refute it at one input. -/
def fnExactTailDecodeWrong : ChangeSpec := { name := "fnExactTailDecode", fn := fun _ => fun
  | [d1, d2] => { results := [.lit (.bool false)], args := [d1, d2] }
  | _ => none }
def FnExactTailDecodeWrongFalsely : Prop := fnExactTailDecodeRow.holds Tryz.pinned (OpenSpec.ofChange fnExactTailDecodeWrong)

/-- 'laws.FnExactLoad': WHATEVER THE INPUT: true; the input reads as it did. -/
def fnExactLoadSpec : ChangeSpec := { name := "fnExactLoad", fn := fun _ => fun
  | [d1, d2] => { results := [.lit (.bool true)], args := [d1, d2] }
  | _ => none }
def fnExactLoadRow : OpenClaim := { program := "yteeolohhmfjafaagreat", sum := "03415a0f11c9cac63bcc2571879dbe1b3b6c3f039cf72a5071f18a3e93ec89a9", func := "loop.example/g00462/laws.FnExactLoad", spec := "fnExactLoad", inPlace := ["slices.overlaps[loop.example/g00462/impl.Table]", "slices.overlaps[loop.example/g00462/impl.Rows]", "slices.overlaps[loop.example/g00462/impl.Row]"], unfollowed := true, recurses := true, apart := false }
def FnExactLoadSaid : Prop := fnExactLoadRow.holds Tryz.pinned (OpenSpec.ofChange fnExactLoadSpec)

/-- ITS FALSE NEIGHBOUR: 'it returns false'. Refute it at one input. -/
def fnExactLoadWrong : ChangeSpec := { name := "fnExactLoad", fn := fun _ => fun
  | [d1, d2] => { results := [.lit (.bool false)], args := [d1, d2] }
  | _ => none }
def FnExactLoadWrongFalsely : Prop := fnExactLoadRow.holds Tryz.pinned (OpenSpec.ofChange fnExactLoadWrong)

/-- 'laws.FnExactCatch': WHATEVER THE INPUT: true; the input reads as it did. -/
def fnExactCatchSpec : ChangeSpec := { name := "fnExactCatch", fn := fun _ => fun
  | [d1, d2, d3] => { results := [.lit (.bool true)], args := [d1, d2, d3] }
  | _ => none }
def fnExactCatchRow : OpenClaim := { program := "yteeolohhmfjafaagreat", sum := "03415a0f11c9cac63bcc2571879dbe1b3b6c3f039cf72a5071f18a3e93ec89a9", func := "loop.example/g00462/laws.FnExactCatch", spec := "fnExactCatch", inPlace := ["slices.overlaps[loop.example/g00462/impl.Table]", "slices.overlaps[loop.example/g00462/impl.Rows]", "slices.overlaps[loop.example/g00462/impl.Row]"], unfollowed := true, recurses := true, apart := false }
def FnExactCatchSaid : Prop := fnExactCatchRow.holds Tryz.pinned (OpenSpec.ofChange fnExactCatchSpec)

/-- ITS FALSE NEIGHBOUR: 'it returns false'. Refute it at one input. -/
def fnExactCatchWrong : ChangeSpec := { name := "fnExactCatch", fn := fun _ => fun
  | [d1, d2, d3] => { results := [.lit (.bool false)], args := [d1, d2, d3] }
  | _ => none }
def FnExactCatchWrongFalsely : Prop := fnExactCatchRow.holds Tryz.pinned (OpenSpec.ofChange fnExactCatchWrong)

/-- 'laws.FnExactTextRec': WHATEVER THE INPUT: true; the input reads as it did. -/
def fnExactTextRecSpec : ChangeSpec := { name := "fnExactTextRec", fn := fun _ => fun
  | [d] => { results := [.lit (.bool true)], args := [d] }
  | _ => none }
def fnExactTextRecRow : OpenClaim := { program := "yteeolohhmfjafaagreat", sum := "03415a0f11c9cac63bcc2571879dbe1b3b6c3f039cf72a5071f18a3e93ec89a9", func := "loop.example/g00462/laws.FnExactTextRec", spec := "fnExactTextRec", unfollowed := true, recurses := true, apart := false }
def FnExactTextRecSaid : Prop := fnExactTextRecRow.holds Tryz.pinned (OpenSpec.ofChange fnExactTextRecSpec)

/-- ITS FALSE NEIGHBOUR: 'it returns false'. Refute it at one input. -/
def fnExactTextRecWrong : ChangeSpec := { name := "fnExactTextRec", fn := fun _ => fun
  | [d] => { results := [.lit (.bool false)], args := [d] }
  | _ => none }
def FnExactTextRecWrongFalsely : Prop := fnExactTextRecRow.holds Tryz.pinned (OpenSpec.ofChange fnExactTextRecWrong)

/-- 'laws.FnExactTextSnap': WHATEVER THE INPUT: true; the input reads as it did. -/
def fnExactTextSnapSpec : ChangeSpec := { name := "fnExactTextSnap", fn := fun _ => fun
  | [d] => { results := [.lit (.bool true)], args := [d] }
  | _ => none }
def fnExactTextSnapRow : OpenClaim := { program := "yteeolohhmfjafaagreat", sum := "03415a0f11c9cac63bcc2571879dbe1b3b6c3f039cf72a5071f18a3e93ec89a9", func := "loop.example/g00462/laws.FnExactTextSnap", spec := "fnExactTextSnap", inPlace := ["slices.overlaps[loop.example/g00462/impl.Table]", "slices.overlaps[loop.example/g00462/impl.Rows]", "slices.overlaps[loop.example/g00462/impl.Row]"], unfollowed := true, recurses := true, apart := false }
def FnExactTextSnapSaid : Prop := fnExactTextSnapRow.holds Tryz.pinned (OpenSpec.ofChange fnExactTextSnapSpec)

/-- ITS FALSE NEIGHBOUR: 'it returns false'. Refute it at one input. -/
def fnExactTextSnapWrong : ChangeSpec := { name := "fnExactTextSnap", fn := fun _ => fun
  | [d] => { results := [.lit (.bool false)], args := [d] }
  | _ => none }
def FnExactTextSnapWrongFalsely : Prop := fnExactTextSnapRow.holds Tryz.pinned (OpenSpec.ofChange fnExactTextSnapWrong)

/- THE SECOND FORM. 'bulk': how many values and letters a reading holds, each counted each time it is reached (what is shared counts as often as it is met; a slice's spare places count too). A statement '..UptoSaid' is the law's where the arguments, and the package variables that the reading takes, are together of bulk at most 1048576: NARROWER than '..Said'. Prove '..Said' where nothing that the law and all that it calls make is longer than what came in: it says more and counts as full. Else prove '..UptoSaid'. A law counts once. -/
mutual
def uptoBulk {H : Type} : DataW H → Nat
  | .lit (.string bytes) => bytes.length + 1
  | .lit _ => 1
  | .nil => 1
  | .ptr d => uptoBulk d + 1
  | .slice elems spare => uptoBulkAll elems + uptoBulkAll spare + 1
  | .agg parts => uptoBulkAll parts + 1
  | .iface _ d => uptoBulk d + 1
  | .map entries => uptoBulkEntries entries + 1
  | .held _ => 1
def uptoBulkAll {H : Type} : List (DataW H) → Nat
  | [] => 0
  | d :: r => uptoBulk d + uptoBulkAll r
def uptoBulkEntries {H : Type} : List (Lit × DataW H) → Nat
  | [] => 0
  | x :: r => uptoBulkEntry x + uptoBulkEntries r
def uptoBulkEntry {H : Type} : Lit × DataW H → Nat
  | (.string bytes, d) => bytes.length + uptoBulk d + 1
  | (_, d) => uptoBulk d + 1
 end
def uptoSmall : (H : Type) → List (DataW H) → Bool := fun _ ds => decide (uptoBulkAll ds ≤ 1048576)
def OpenSpec.upto (s : _root_.Go.ChangeSpec) : _root_.Go.OpenSpec := { _root_.Go.OpenSpec.ofChange s with cond := some uptoSmall }

/-- 'laws.FnExactPartsOf', WHERE WHAT IT READS IS OF BULK AT MOST 1048576: true; the input reads as it did. -/
def fnExactPartsOfUptoRow : OpenClaim := { program := "yteeolohhmfjafaagreat", sum := "03415a0f11c9cac63bcc2571879dbe1b3b6c3f039cf72a5071f18a3e93ec89a9", func := "loop.example/g00462/laws.FnExactPartsOf", spec := "fnExactPartsOf", inPlace := ["slices.overlaps[loop.example/g00462/impl.Table]", "slices.overlaps[loop.example/g00462/impl.Rows]", "slices.overlaps[loop.example/g00462/impl.Row]"], unfollowed := true, recurses := true, apart := false, narrowed := true }
def FnExactPartsOfUptoSaid : Prop := fnExactPartsOfUptoRow.holds Tryz.pinned (OpenSpec.upto fnExactPartsOfSpec)

/-- 'laws.FnExactDecode', WHERE WHAT IT READS IS OF BULK AT MOST 1048576: true; the input reads as it did. -/
def fnExactDecodeUptoRow : OpenClaim := { program := "yteeolohhmfjafaagreat", sum := "03415a0f11c9cac63bcc2571879dbe1b3b6c3f039cf72a5071f18a3e93ec89a9", func := "loop.example/g00462/laws.FnExactDecode", spec := "fnExactDecode", inPlace := ["slices.overlaps[loop.example/g00462/impl.Table]", "slices.overlaps[loop.example/g00462/impl.Rows]", "slices.overlaps[loop.example/g00462/impl.Row]"], unfollowed := true, recurses := true, apart := false, narrowed := true }
def FnExactDecodeUptoSaid : Prop := fnExactDecodeUptoRow.holds Tryz.pinned (OpenSpec.upto fnExactDecodeSpec)

/-- 'laws.FnExactBatchAt', WHERE WHAT IT READS IS OF BULK AT MOST 1048576: true; the input reads as it did. -/
def fnExactBatchAtUptoRow : OpenClaim := { program := "yteeolohhmfjafaagreat", sum := "03415a0f11c9cac63bcc2571879dbe1b3b6c3f039cf72a5071f18a3e93ec89a9", func := "loop.example/g00462/laws.FnExactBatchAt", spec := "fnExactBatchAt", inPlace := ["slices.overlaps[loop.example/g00462/impl.Table]", "slices.overlaps[loop.example/g00462/impl.Rows]", "slices.overlaps[loop.example/g00462/impl.Row]"], unfollowed := true, recurses := true, apart := false, narrowed := true }
def FnExactBatchAtUptoSaid : Prop := fnExactBatchAtUptoRow.holds Tryz.pinned (OpenSpec.upto fnExactBatchAtSpec)

/-- 'laws.FnExactShows', WHERE WHAT IT READS IS OF BULK AT MOST 1048576: true; the input reads as it did. -/
def fnExactShowsUptoRow : OpenClaim := { program := "yteeolohhmfjafaagreat", sum := "03415a0f11c9cac63bcc2571879dbe1b3b6c3f039cf72a5071f18a3e93ec89a9", func := "loop.example/g00462/laws.FnExactShows", spec := "fnExactShows", inPlace := ["slices.overlaps[loop.example/g00462/impl.Row]"], unfollowed := true, recurses := true, apart := false, narrowed := true }
def FnExactShowsUptoSaid : Prop := fnExactShowsUptoRow.holds Tryz.pinned (OpenSpec.upto fnExactShowsSpec)

/-- 'laws.FnExactPackOf', WHERE WHAT IT READS IS OF BULK AT MOST 1048576: true; the input reads as it did. -/
def fnExactPackOfUptoRow : OpenClaim := { program := "yteeolohhmfjafaagreat", sum := "03415a0f11c9cac63bcc2571879dbe1b3b6c3f039cf72a5071f18a3e93ec89a9", func := "loop.example/g00462/laws.FnExactPackOf", spec := "fnExactPackOf", unfollowed := true, recurses := true, apart := false, narrowed := true }
def FnExactPackOfUptoSaid : Prop := fnExactPackOfUptoRow.holds Tryz.pinned (OpenSpec.upto fnExactPackOfSpec)

/-- 'laws.FnExactPacks', WHERE WHAT IT READS IS OF BULK AT MOST 1048576: true; the input reads as it did. -/
def fnExactPacksUptoRow : OpenClaim := { program := "yteeolohhmfjafaagreat", sum := "03415a0f11c9cac63bcc2571879dbe1b3b6c3f039cf72a5071f18a3e93ec89a9", func := "loop.example/g00462/laws.FnExactPacks", spec := "fnExactPacks", inPlace := ["slices.overlaps[loop.example/g00462/impl.Table]", "slices.overlaps[loop.example/g00462/impl.Rows]", "slices.overlaps[loop.example/g00462/impl.Row]"], unfollowed := true, recurses := true, apart := false, narrowed := true }
def FnExactPacksUptoSaid : Prop := fnExactPacksUptoRow.holds Tryz.pinned (OpenSpec.upto fnExactPacksSpec)

/-- 'laws.FnExactTailDecode', WHERE WHAT IT READS IS OF BULK AT MOST 1048576: true; the input reads as it did. -/
def fnExactTailDecodeUptoRow : OpenClaim := { program := "yteeolohhmfjafaagreat", sum := "03415a0f11c9cac63bcc2571879dbe1b3b6c3f039cf72a5071f18a3e93ec89a9", func := "loop.example/g00462/laws.FnExactTailDecode", spec := "fnExactTailDecode", inPlace := ["slices.overlaps[loop.example/g00462/impl.Table]", "slices.overlaps[loop.example/g00462/impl.Rows]", "slices.overlaps[loop.example/g00462/impl.Row]"], unfollowed := true, recurses := true, apart := false, narrowed := true }
def FnExactTailDecodeUptoSaid : Prop := fnExactTailDecodeUptoRow.holds Tryz.pinned (OpenSpec.upto fnExactTailDecodeSpec)

/-- 'laws.FnExactLoad', WHERE WHAT IT READS IS OF BULK AT MOST 1048576: true; the input reads as it did. -/
def fnExactLoadUptoRow : OpenClaim := { program := "yteeolohhmfjafaagreat", sum := "03415a0f11c9cac63bcc2571879dbe1b3b6c3f039cf72a5071f18a3e93ec89a9", func := "loop.example/g00462/laws.FnExactLoad", spec := "fnExactLoad", inPlace := ["slices.overlaps[loop.example/g00462/impl.Table]", "slices.overlaps[loop.example/g00462/impl.Rows]", "slices.overlaps[loop.example/g00462/impl.Row]"], unfollowed := true, recurses := true, apart := false, narrowed := true }
def FnExactLoadUptoSaid : Prop := fnExactLoadUptoRow.holds Tryz.pinned (OpenSpec.upto fnExactLoadSpec)

/-- 'laws.FnExactCatch', WHERE WHAT IT READS IS OF BULK AT MOST 1048576: true; the input reads as it did. -/
def fnExactCatchUptoRow : OpenClaim := { program := "yteeolohhmfjafaagreat", sum := "03415a0f11c9cac63bcc2571879dbe1b3b6c3f039cf72a5071f18a3e93ec89a9", func := "loop.example/g00462/laws.FnExactCatch", spec := "fnExactCatch", inPlace := ["slices.overlaps[loop.example/g00462/impl.Table]", "slices.overlaps[loop.example/g00462/impl.Rows]", "slices.overlaps[loop.example/g00462/impl.Row]"], unfollowed := true, recurses := true, apart := false, narrowed := true }
def FnExactCatchUptoSaid : Prop := fnExactCatchUptoRow.holds Tryz.pinned (OpenSpec.upto fnExactCatchSpec)

/-- 'laws.FnExactTextRec', WHERE WHAT IT READS IS OF BULK AT MOST 1048576: true; the input reads as it did. -/
def fnExactTextRecUptoRow : OpenClaim := { program := "yteeolohhmfjafaagreat", sum := "03415a0f11c9cac63bcc2571879dbe1b3b6c3f039cf72a5071f18a3e93ec89a9", func := "loop.example/g00462/laws.FnExactTextRec", spec := "fnExactTextRec", unfollowed := true, recurses := true, apart := false, narrowed := true }
def FnExactTextRecUptoSaid : Prop := fnExactTextRecUptoRow.holds Tryz.pinned (OpenSpec.upto fnExactTextRecSpec)

/-- 'laws.FnExactTextSnap', WHERE WHAT IT READS IS OF BULK AT MOST 1048576: true; the input reads as it did. -/
def fnExactTextSnapUptoRow : OpenClaim := { program := "yteeolohhmfjafaagreat", sum := "03415a0f11c9cac63bcc2571879dbe1b3b6c3f039cf72a5071f18a3e93ec89a9", func := "loop.example/g00462/laws.FnExactTextSnap", spec := "fnExactTextSnap", inPlace := ["slices.overlaps[loop.example/g00462/impl.Table]", "slices.overlaps[loop.example/g00462/impl.Rows]", "slices.overlaps[loop.example/g00462/impl.Row]"], unfollowed := true, recurses := true, apart := false, narrowed := true }
def FnExactTextSnapUptoSaid : Prop := fnExactTextSnapUptoRow.holds Tryz.pinned (OpenSpec.upto fnExactTextSnapSpec)

end Rows
end Go.Proofs.YteeolohhmfjafaaGreat
