/-
  No cell of these rows narrows 'for every input' (looked for: loops, veiled, ifaces, maps, wideKeys, modest, calm, conditions, laid).
  DERIVED. THE GIVEN ROWS OF THIS SEAT. 5 by the template 'for every input the law returns true; each argument reads behind the call as it read before'; 0 by the template 'total and deterministic' (their statements: YtkciklpdhhcblaaGreatTotals.lean).
  GIVEN WITH THE SEED: the statements are not yours to turn. If you find one false, say at which input.
  Laid BY PROGRAM, IN A SANDBOX (cutbox-rows.mjs): the forced cells as the released guide's own fill.sh prints them over the translation b4c6ba9e98fa8062… (all of the seat's roots in one cut). By AI agents, Wed Nov 11 2026. No macro, syntax, notation, axiom, sorry.
-/
import Derived.Test.YtkciklpdhhcblaaGreatChecked
import GoSem.Claim
import GoSem.ClaimJoined
import GoSem.ClaimMapViews
import Derived.JoinedTies
import Derived.KernelRfl
namespace Go.Proofs.YtkciklpdhhcblaaGreat
/- THE CELL 'sum', in the pinned program and in every row, IS THE sha256 OF THE DUMP (.gsa) THAT YtkciklpdhhcblaaGreatProg.lean LOADS. Nothing in Lean hashes anything: it is a label: what it is worth is what the hold of that sum in a sandbox is worth. -/
noncomputable def Tryz.pinned : Pinned := { name := "ytkciklpdhhcblaagreat", sum := "b4c6ba9e98fa8062aec47e97efad36a10cf58bd6770c03c37a8956c3253180be", checked := Tryz.checked }
namespace Rows
def none {H : Type} : Left H := { results := [], args := [] }

/-- 'laws.FnExactFolText': WHATEVER THE INPUT: true; the input reads as it did. -/
def fnExactFolTextSpec : ChangeSpec := { name := "fnExactFolText", fn := fun _ => fun
  | [d] => { results := [.lit (.bool true)], args := [d] }
  | _ => none }
def fnExactFolTextRow : OpenClaim := { program := "ytkciklpdhhcblaagreat", sum := "b4c6ba9e98fa8062aec47e97efad36a10cf58bd6770c03c37a8956c3253180be", func := "loop.example/g00462/laws.FnExactFolText", spec := "fnExactFolText", unfollowed := true, recurses := true, apart := false }
def FnExactFolTextSaid : Prop := fnExactFolTextRow.holds Tryz.pinned (OpenSpec.ofChange fnExactFolTextSpec)

/-- ITS FALSE NEIGHBOUR: 'it returns false'. Refute it at one input. -/
def fnExactFolTextWrong : ChangeSpec := { name := "fnExactFolText", fn := fun _ => fun
  | [d] => { results := [.lit (.bool false)], args := [d] }
  | _ => none }
def FnExactFolTextWrongFalsely : Prop := fnExactFolTextRow.holds Tryz.pinned (OpenSpec.ofChange fnExactFolTextWrong)

/-- 'laws.FnExactSnapText': WHATEVER THE INPUT: true; the input reads as it did. -/
def fnExactSnapTextSpec : ChangeSpec := { name := "fnExactSnapText", fn := fun _ => fun
  | [d] => { results := [.lit (.bool true)], args := [d] }
  | _ => none }
def fnExactSnapTextRow : OpenClaim := { program := "ytkciklpdhhcblaagreat", sum := "b4c6ba9e98fa8062aec47e97efad36a10cf58bd6770c03c37a8956c3253180be", func := "loop.example/g00462/laws.FnExactSnapText", spec := "fnExactSnapText", unfollowed := true, recurses := true, apart := false }
def FnExactSnapTextSaid : Prop := fnExactSnapTextRow.holds Tryz.pinned (OpenSpec.ofChange fnExactSnapTextSpec)

/-- ITS FALSE NEIGHBOUR: 'it returns false'. Refute it at one input. -/
def fnExactSnapTextWrong : ChangeSpec := { name := "fnExactSnapText", fn := fun _ => fun
  | [d] => { results := [.lit (.bool false)], args := [d] }
  | _ => none }
def FnExactSnapTextWrongFalsely : Prop := fnExactSnapTextRow.holds Tryz.pinned (OpenSpec.ofChange fnExactSnapTextWrong)

/-- 'laws.FnExactShows': WHATEVER THE INPUT: true; the input reads as it did. -/
def fnExactShowsSpec : ChangeSpec := { name := "fnExactShows", fn := fun _ => fun
  | [d1, d2] => { results := [.lit (.bool true)], args := [d1, d2] }
  | _ => none }
def fnExactShowsRow : OpenClaim := { program := "ytkciklpdhhcblaagreat", sum := "b4c6ba9e98fa8062aec47e97efad36a10cf58bd6770c03c37a8956c3253180be", func := "loop.example/g00462/laws.FnExactShows", spec := "fnExactShows", inPlace := ["slices.overlaps[loop.example/g00462/impl.Row]"], unfollowed := true, recurses := true, apart := false }
def FnExactShowsSaid : Prop := fnExactShowsRow.holds Tryz.pinned (OpenSpec.ofChange fnExactShowsSpec)

/-- ITS FALSE NEIGHBOUR: 'it returns false'. Refute it at one input. -/
def fnExactShowsWrong : ChangeSpec := { name := "fnExactShows", fn := fun _ => fun
  | [d1, d2] => { results := [.lit (.bool false)], args := [d1, d2] }
  | _ => none }
def FnExactShowsWrongFalsely : Prop := fnExactShowsRow.holds Tryz.pinned (OpenSpec.ofChange fnExactShowsWrong)

/-- 'laws.FnExactLogOk': WHATEVER THE INPUT: true; the input reads as it did. -/
def fnExactLogOkSpec : ChangeSpec := { name := "fnExactLogOk", fn := fun _ => fun
  | [d] => { results := [.lit (.bool true)], args := [d] }
  | _ => none }
def fnExactLogOkRow : OpenClaim := { program := "ytkciklpdhhcblaagreat", sum := "b4c6ba9e98fa8062aec47e97efad36a10cf58bd6770c03c37a8956c3253180be", func := "loop.example/g00462/laws.FnExactLogOk", spec := "fnExactLogOk", inPlace := ["slices.overlaps[loop.example/g00462/impl.Table]", "slices.overlaps[loop.example/g00462/impl.Rows]", "slices.overlaps[loop.example/g00462/impl.Row]"], unfollowed := true, recurses := true, apart := false }
def FnExactLogOkSaid : Prop := fnExactLogOkRow.holds Tryz.pinned (OpenSpec.ofChange fnExactLogOkSpec)

/-- ITS FALSE NEIGHBOUR: 'it returns false'. Refute it at one input. -/
def fnExactLogOkWrong : ChangeSpec := { name := "fnExactLogOk", fn := fun _ => fun
  | [d] => { results := [.lit (.bool false)], args := [d] }
  | _ => none }
def FnExactLogOkWrongFalsely : Prop := fnExactLogOkRow.holds Tryz.pinned (OpenSpec.ofChange fnExactLogOkWrong)

/-- 'laws.FnExactTailOk': WHATEVER THE INPUT: true; the input reads as it did. -/
def fnExactTailOkSpec : ChangeSpec := { name := "fnExactTailOk", fn := fun _ => fun
  | [d] => { results := [.lit (.bool true)], args := [d] }
  | _ => none }
def fnExactTailOkRow : OpenClaim := { program := "ytkciklpdhhcblaagreat", sum := "b4c6ba9e98fa8062aec47e97efad36a10cf58bd6770c03c37a8956c3253180be", func := "loop.example/g00462/laws.FnExactTailOk", spec := "fnExactTailOk", inPlace := ["slices.overlaps[loop.example/g00462/impl.Table]", "slices.overlaps[loop.example/g00462/impl.Rows]", "slices.overlaps[loop.example/g00462/impl.Row]"], unfollowed := true, recurses := true, apart := false }
def FnExactTailOkSaid : Prop := fnExactTailOkRow.holds Tryz.pinned (OpenSpec.ofChange fnExactTailOkSpec)

/-- ITS FALSE NEIGHBOUR: 'it returns false'. Refute it at one input. -/
def fnExactTailOkWrong : ChangeSpec := { name := "fnExactTailOk", fn := fun _ => fun
  | [d] => { results := [.lit (.bool false)], args := [d] }
  | _ => none }
def FnExactTailOkWrongFalsely : Prop := fnExactTailOkRow.holds Tryz.pinned (OpenSpec.ofChange fnExactTailOkWrong)

/- THE SECOND FORM. 'bulk': how many values and letters a reading holds, each counted each time it is reached (what is shared counts as often as it is met; a slice's spare places count too). A statement '..UptoSaid' is the law's where the arguments, and the package variables that the reading takes, are together of bulk at most 1048576: NARROWER than '..Said'. Prove '..Said' where nothing that the law and all that it calls make is longer than what came in: it says more and counts as full. Else prove '..UptoSaid'. A law counts once. -/
mutual
def uptoBulk {H : Type} : DataW H → Nat
  | .lit (.string bytes) => bytes.length + 1
  | .lit _ => 1
  | .nil => 1
  | .ptr d => uptoBulk d + 1
  | .slice elems spare => uptoBulkAll elems + uptoBulkAll spare + 1
  | .agg parts => uptoBulkAll parts + 1
  | .iface _ d => uptoBulk d + 1
  | .map entries => uptoBulkEntries entries + 1
  | .held _ => 1
def uptoBulkAll {H : Type} : List (DataW H) → Nat
  | [] => 0
  | d :: r => uptoBulk d + uptoBulkAll r
def uptoBulkEntries {H : Type} : List (Lit × DataW H) → Nat
  | [] => 0
  | x :: r => uptoBulkEntry x + uptoBulkEntries r
def uptoBulkEntry {H : Type} : Lit × DataW H → Nat
  | (.string bytes, d) => bytes.length + uptoBulk d + 1
  | (_, d) => uptoBulk d + 1
 end
def uptoSmall : (H : Type) → List (DataW H) → Bool := fun _ ds => decide (uptoBulkAll ds ≤ 1048576)
def OpenSpec.upto (s : _root_.Go.ChangeSpec) : _root_.Go.OpenSpec := { _root_.Go.OpenSpec.ofChange s with cond := some uptoSmall }

/-- 'laws.FnExactFolText', WHERE WHAT IT READS IS OF BULK AT MOST 1048576: true; the input reads as it did. -/
def fnExactFolTextUptoRow : OpenClaim := { program := "ytkciklpdhhcblaagreat", sum := "b4c6ba9e98fa8062aec47e97efad36a10cf58bd6770c03c37a8956c3253180be", func := "loop.example/g00462/laws.FnExactFolText", spec := "fnExactFolText", unfollowed := true, recurses := true, apart := false, narrowed := true }
def FnExactFolTextUptoSaid : Prop := fnExactFolTextUptoRow.holds Tryz.pinned (OpenSpec.upto fnExactFolTextSpec)

/-- 'laws.FnExactSnapText', WHERE WHAT IT READS IS OF BULK AT MOST 1048576: true; the input reads as it did. -/
def fnExactSnapTextUptoRow : OpenClaim := { program := "ytkciklpdhhcblaagreat", sum := "b4c6ba9e98fa8062aec47e97efad36a10cf58bd6770c03c37a8956c3253180be", func := "loop.example/g00462/laws.FnExactSnapText", spec := "fnExactSnapText", unfollowed := true, recurses := true, apart := false, narrowed := true }
def FnExactSnapTextUptoSaid : Prop := fnExactSnapTextUptoRow.holds Tryz.pinned (OpenSpec.upto fnExactSnapTextSpec)

/-- 'laws.FnExactShows', WHERE WHAT IT READS IS OF BULK AT MOST 1048576: true; the input reads as it did. -/
def fnExactShowsUptoRow : OpenClaim := { program := "ytkciklpdhhcblaagreat", sum := "b4c6ba9e98fa8062aec47e97efad36a10cf58bd6770c03c37a8956c3253180be", func := "loop.example/g00462/laws.FnExactShows", spec := "fnExactShows", inPlace := ["slices.overlaps[loop.example/g00462/impl.Row]"], unfollowed := true, recurses := true, apart := false, narrowed := true }
def FnExactShowsUptoSaid : Prop := fnExactShowsUptoRow.holds Tryz.pinned (OpenSpec.upto fnExactShowsSpec)

/-- 'laws.FnExactLogOk', WHERE WHAT IT READS IS OF BULK AT MOST 1048576: true; the input reads as it did. -/
def fnExactLogOkUptoRow : OpenClaim := { program := "ytkciklpdhhcblaagreat", sum := "b4c6ba9e98fa8062aec47e97efad36a10cf58bd6770c03c37a8956c3253180be", func := "loop.example/g00462/laws.FnExactLogOk", spec := "fnExactLogOk", inPlace := ["slices.overlaps[loop.example/g00462/impl.Table]", "slices.overlaps[loop.example/g00462/impl.Rows]", "slices.overlaps[loop.example/g00462/impl.Row]"], unfollowed := true, recurses := true, apart := false, narrowed := true }
def FnExactLogOkUptoSaid : Prop := fnExactLogOkUptoRow.holds Tryz.pinned (OpenSpec.upto fnExactLogOkSpec)

/-- 'laws.FnExactTailOk', WHERE WHAT IT READS IS OF BULK AT MOST 1048576: true; the input reads as it did. -/
def fnExactTailOkUptoRow : OpenClaim := { program := "ytkciklpdhhcblaagreat", sum := "b4c6ba9e98fa8062aec47e97efad36a10cf58bd6770c03c37a8956c3253180be", func := "loop.example/g00462/laws.FnExactTailOk", spec := "fnExactTailOk", inPlace := ["slices.overlaps[loop.example/g00462/impl.Table]", "slices.overlaps[loop.example/g00462/impl.Rows]", "slices.overlaps[loop.example/g00462/impl.Row]"], unfollowed := true, recurses := true, apart := false, narrowed := true }
def FnExactTailOkUptoSaid : Prop := fnExactTailOkUptoRow.holds Tryz.pinned (OpenSpec.upto fnExactTailOkSpec)

end Rows
end Go.Proofs.YtkciklpdhhcblaaGreat
