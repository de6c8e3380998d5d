import Derived.Test.YtkbknmcafiepgaaTable
namespace Go.Proofs.Ytkbknmcafiepgaa
open Go Go.Proofs Go.Sm
attribute [local simp] ti eStr eInt eByte eVal cVal vVal eValS vValS eRow cRow vRow eCol cCol vCol eColS vColS eStrS vStrS eDdl cDdl vDdl eStmt cStmt vStmt ePart cPart vPart ePartS vPartS eBatch cBatch vBatch eTable cTable vTable eTableS vTableS eCat cCat vCat eRowS vRowS eRows cRows vRows eRowsS vRowsS eDb cDb vDb eRec cRec vRec eRecS vRecS eStmtS vStmtS
set_option linter.unusedVariables false
set_option linter.unusedSimpArgs false


def eqVal (a b : GVal) : Bool := a.fTy == b.fTy && (a.fN == b.fN && a.fS.toList == b.fS.toList)
def eqCol (a b : GCol) : Bool := a.fName.toList == b.fName.toList && (a.fTy == b.fTy && (a.fNot == b.fNot && (a.fHas == b.fHas && eqVal a.fDef b.fDef)))
def eqS (a b : ByteArray) : Bool := a.toList == b.toList
def eqTo {α : Type} (eq : α → α → Bool) (d : α) (a b : List α) (n : Nat) : Bool := (List.range n).all (fun i => eq (a[i]?.getD d) (b[i]?.getD d))
def eqRows {α : Type} (eq : α → α → Bool) (d : α) (a b : List α) : Bool := decide ((a.length : Int) = b.length) && eqTo eq d a b a.length
theorem eqTo_no {α : Type} {eq : α → α → Bool} {d : α} {a b : List α} {n i : Nat} (hi : i < n) (h : eq (a[i]?.getD d) (b[i]?.getD d) = false) : eqTo eq d a b n = false := rangeAll_no hi h
theorem eqTo_succ {α : Type} (eq : α → α → Bool) (d : α) (a b : List α) (n : Nat) : eqTo eq d a b (n + 1) = (eqTo eq d a b n && eq (a[n]?.getD d) (b[n]?.getD d)) := rangeAll_succ _ _
theorem eqRows_nil {α : Type} (eq : α → α → Bool) (d : α) (a : List α) : eqRows eq d a [] = a.isEmpty := by
  unfold eqRows
  cases a with
  | nil => rfl
  | cons x r => simp; omega
theorem eqRows_self {α : Type} (eq : α → α → Bool) (hr : ∀ x, eq x x = true) (d : α) (a : List α) : eqRows eq d a a = true := by
  simp [eqRows, eqTo, hr]
theorem eqVal_self (x : GVal) : eqVal x x = true := by simp [eqVal]
theorem eqCol_self (x : GCol) : eqCol x x = true := by simp [eqCol, eqVal_self]
theorem eqS_self (x : ByteArray) : eqS x x = true := by simp [eqS]
def eqDdl (a b : GDdl) : Bool := a.fKind == b.fKind && (a.fTable.toList == b.fTable.toList && (eqRows eqCol dCol a.fCols b.fCols && (eqRows eqS ⟨#[]⟩ a.fKeys b.fKeys && (a.fName.toList == b.fName.toList && a.fTo.toList == b.fTo.toList))))
def noDdl (d : GDdl) : Bool := decide (d.fKind = 0) && (em d.fTable && (d.fCols.isEmpty && (d.fKeys.isEmpty && (em d.fName && em d.fTo))))
theorem eqDdl_nil (d : GDdl) : eqDdl d dDdl = noDdl d := by
  simp [eqDdl, dDdl, eqRows_nil, noDdl, em, beqI]
theorem copyTexts_ok (l : List ByteArray) (hl : l.length ≤ 1048576) : VC Try.prog 135 [vStrS l] [(false, mStrS l)] := by
  refine vc_of_ew good hm [0,2] Try.func135 rfl (by kernel_rfl) (by kernel_rfl) rfl ?_
  simp [Try.f135, mStrS]
  omega
def madeT (d : GDdl) : GTable := ⟨d.fTable, d.fCols, d.fKeys⟩
def plain (d : GDdl) : Bool := d.fCols.isEmpty && d.fKeys.isEmpty
def addOk (d : GDdl) : Bool := decide ((d.fCols.length : Int) = 1) && (colOk (d.fCols[0]?.getD dCol) && ((d.fCols[0]?.getD dCol).fHas || !(d.fCols[0]?.getD dCol).fNot))
def ddlOk (d : GDdl) : Bool := wordOk d.fTable && ((decide (d.fKind = 1) && (tableOk (madeT d) && (em d.fName && em d.fTo))) || (decide (d.fKind = 2) && (plain d && (em d.fName && em d.fTo))) || (decide (d.fKind = 3) && (addOk d && (d.fKeys.isEmpty && (em d.fName && em d.fTo)))) || (decide (d.fKind = 4) && (plain d && (wordOk d.fName && em d.fTo))) || (decide (d.fKind = 5) && (plain d && (wordOk d.fName && wordOk d.fTo))))
theorem okMade {d : GDdl} (h : okDdl d) : okTable (madeT d) := ⟨h.2.1, h.2.2.1, h.2.2.2.1, trivial⟩
theorem okC0 {d : GDdl} (h : okDdl d) (hl : d.fCols.length = 1) : okCol (d.fCols[0]?.getD dCol) := h.2.2.1.2 _ (getD_mem dCol (by omega))
end Go.Proofs.Ytkbknmcafiepgaa
