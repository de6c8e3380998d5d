import Derived.Test.YtkciklpdhhcblaaGreatTable
namespace Go.Proofs.YtkciklpdhhcblaaGreat
open Go Go.Proofs Go.Sm
attribute [local simp] ti eStr eInt eByte eVal cVal vVal eCol cCol vCol eColS vColS eStrS vStrS eTable cTable vTable eTableS vTableS eCat cCat vCat eValS vValS eRow cRow vRow eRowS vRowS eRows cRows vRows eRowsS vRowsS eDb cDb vDb eDdl cDdl vDdl eFol cFol vFol eStmt cStmt vStmt eRec cRec vRec eSnap cSnap vSnap eRecS vRecS eTail cTail vTail
set_option linter.unusedVariables false
set_option linter.unusedSimpArgs false


def eqVal (a b : GVal) : Bool := a.fTy == b.fTy && (a.fN == b.fN && a.fS.toList == b.fS.toList)
def eqCol (a b : GCol) : Bool := a.fName.toList == b.fName.toList && (a.fTy == b.fTy && (a.fNot == b.fNot && (a.fHas == b.fHas && eqVal a.fDef b.fDef)))
def eqS (a b : ByteArray) : Bool := a.toList == b.toList
def eqTo {α : Type} (eq : α → α → Bool) (d : α) (a b : List α) (n : Nat) : Bool := (List.range n).all (fun i => eq (a[i]?.getD d) (b[i]?.getD d))
def eqRows {α : Type} (eq : α → α → Bool) (d : α) (a b : List α) : Bool := decide ((a.length : Int) = b.length) && eqTo eq d a b a.length
theorem eqTo_no {α : Type} {eq : α → α → Bool} {d : α} {a b : List α} {n i : Nat} (hi : i < n) (h : eq (a[i]?.getD d) (b[i]?.getD d) = false) : eqTo eq d a b n = false := rangeAll_no hi h
theorem eqTo_succ {α : Type} (eq : α → α → Bool) (d : α) (a b : List α) (n : Nat) : eqTo eq d a b (n + 1) = (eqTo eq d a b n && eq (a[n]?.getD d) (b[n]?.getD d)) := rangeAll_succ _ _
theorem eqRows_nil {α : Type} (eq : α → α → Bool) (d : α) (a : List α) : eqRows eq d a [] = a.isEmpty := by
  unfold eqRows
  cases a with
  | nil => rfl
  | cons x r => simp; omega
theorem eqRows_self {α : Type} (eq : α → α → Bool) (hr : ∀ x, eq x x = true) (d : α) (a : List α) : eqRows eq d a a = true := by
  simp [eqRows, eqTo, hr]
theorem eqVal_self (x : GVal) : eqVal x x = true := by simp [eqVal]
theorem eqCol_self (x : GCol) : eqCol x x = true := by simp [eqCol, eqVal_self]
theorem eqS_self (x : ByteArray) : eqS x x = true := by simp [eqS]
set_option maxHeartbeats 4000000 in
theorem equalStr_ok (a b : List ByteArray) (ha : okM a.length) : VC Tryz.prog 193 [vStrS a, vStrS b] [(false, [(.s, .sc (.bool (eqRows eqS ⟨#[]⟩ a b)))])] := by
  unfold okM at ha
  refine vc_of_ew good hm [0,1,4,10,12,13,14,5,24] Tryz.func193 rfl (by kernel_rfl) (by kernel_rfl) rfl ?_
  simp [Tryz.f193]
  refine ⟨fun h => by simp [eqRows, h], fun hl => ?_⟩
  refine ew_loop (fun E => ∃ i : Nat, i ≤ a.length ∧ eqTo eqS ⟨#[]⟩ a b i = true ∧ E = { nt := 26, sl := [(0, vStrS a), (1, vStrS b), (12, int .i64 a.length), (13, int .i64 i)], bx := [], rt := [] }) (fun E => a.length - (E.num 13).toNat) _ (Gh.kb _ [0,1,12,13] [] []) ⟨0, by omega, by simp [eqTo], by simp⟩ ?_
  rintro E1 ⟨i, hi, hall, rfl⟩
  simp
  refine ⟨fun h => ⟨h, by omega, ?_⟩, fun h => ?_⟩
  · refine ⟨fun hp => ?_, fun hp => .of _ (Gh.kb _ [0,1,12,13] [] []) ⟨i + 1, by omega, ?_, ?_⟩ ?_⟩
    · have := eqTo_no (eq := eqS) (d := ⟨#[]⟩) (a := a) (b := b) h (by simpa [eqS] using hp)
      simp [eqRows, this]
    · rw [eqTo_succ, hall]; simpa [eqS] using hp
    · simp [wrapS (show i < 9223372036854775807 by omega)]
    · simp [wrapS (show i < 9223372036854775807 by omega)]; omega
  · have : i = a.length := by omega
    subst this
    simp [eqRows, hall, hl]
set_option maxHeartbeats 4000000 in
theorem equalCol_ok (a b : List GCol) (ha : okM a.length) : VC Tryz.prog 192 [vColS a, vColS b] [(false, [(.s, .sc (.bool (eqRows eqCol dCol a b)))])] := by
  unfold okM at ha
  refine vc_of_ew good hm [0,1,4,10,12,13,14,5,24] Tryz.func192 rfl (by kernel_rfl) (by kernel_rfl) rfl ?_
  simp [Tryz.f192]
  refine ⟨fun h => by simp [eqRows, h], fun hl => ?_⟩
  refine ew_loop (fun E => ∃ i : Nat, i ≤ a.length ∧ eqTo eqCol dCol a b i = true ∧ E = { nt := 26, sl := [(0, vColS a), (1, vColS b), (12, int .i64 a.length), (13, int .i64 i)], bx := [], rt := [] }) (fun E => a.length - (E.num 13).toNat) _ (Gh.kb _ [0,1,12,13] [] []) ⟨0, by omega, by simp [eqTo], by simp⟩ ?_
  rintro E1 ⟨i, hi, hall, rfl⟩
  simp
  have hat : eqCol (a[i]?.getD dCol) (b[i]?.getD dCol) = ((a[i]?.getD dCol).fName.toList == (b[i]?.getD dCol).fName.toList && ((a[i]?.getD dCol).fTy == (b[i]?.getD dCol).fTy && ((a[i]?.getD dCol).fNot == (b[i]?.getD dCol).fNot && ((a[i]?.getD dCol).fHas == (b[i]?.getD dCol).fHas && ((a[i]?.getD dCol).fDef.fTy == (b[i]?.getD dCol).fDef.fTy && ((a[i]?.getD dCol).fDef.fN == (b[i]?.getD dCol).fDef.fN && (a[i]?.getD dCol).fDef.fS.toList == (b[i]?.getD dCol).fDef.fS.toList)))))) := rfl
  refine ⟨fun h => ⟨h, by omega, ?_⟩, fun h => ?_⟩
  · refine ⟨fun hb => ?_, fun h1 h2 h3 h4 h5 h6 h7 => .of _ (Gh.kb _ [0,1,12,13] [] []) ⟨i + 1, by omega, by rw [eqTo_succ, hall, hat]; simp [h1, h2, h3, h4, h5, h6, h7], ?_⟩ ?_⟩
    · have := eqTo_no (eq := eqCol) (d := dCol) (a := a) (b := b) h (by rw [hat]; grind)
      simp [eqRows, this]
    · simp [wrapS (show i < 9223372036854775807 by omega)]
    · simp [wrapS (show i < 9223372036854775807 by omega)]; omega
  · have : i = a.length := by omega
    subst this
    simp [eqRows, hall, hl]
def eqDdl (a b : GDdl) : Bool := a.fKind == b.fKind && (a.fTable.toList == b.fTable.toList && (eqRows eqCol dCol a.fCols b.fCols && (eqRows eqS ⟨#[]⟩ a.fKeys b.fKeys && (a.fName.toList == b.fName.toList && a.fTo.toList == b.fTo.toList))))
set_option maxHeartbeats 8000000 in
set_option maxRecDepth 4000 in
theorem equalDdl_ok (a b : GDdl) (ha : okDdl a) : VC Tryz.prog 176 [vDdl a, vDdl b] [(false, [(.s, .sc (.bool (eqDdl a b)))])] := by
  refine vc_of_ew good hm [0,1,2,3,4] Tryz.func176 rfl (by kernel_rfl) (by kernel_rfl) rfl ?_
  simp [Tryz.f176]
  refine .of (fun h => ⟨h, equalCol_ok a.fCols b.fCols ha.2.2.1.1⟩) ?_
  simp
  refine .of (fun h => ⟨h, equalStr_ok a.fKeys b.fKeys ha.2.2.2.1.1⟩) ?_
  simp
  grind [eqDdl]
def noDdl (d : GDdl) : Bool := decide (d.fKind = 0) && (em d.fTable && (d.fCols.isEmpty && (d.fKeys.isEmpty && (em d.fName && em d.fTo))))
set_option maxHeartbeats 8000000 in
set_option maxRecDepth 4000 in
theorem l04NoDdl_ok (d : GDdl) : VC Tryz.prog 172 [vDdl d] [(false, [(.s, .sc (.bool (noDdl d)))])] := by
  refine vc_of_ew good hm [0,1,2] Tryz.func172 rfl (by kernel_rfl) (by kernel_rfl) rfl ?_
  simp [Tryz.f172]
  grind [noDdl, em]
theorem eqDdl_nil (d : GDdl) : eqDdl d dDdl = noDdl d := by
  simp [eqDdl, dDdl, eqRows_nil, noDdl, em, beqI]
theorem copyTexts_ok (l : List ByteArray) (hl : l.length ≤ 1048576) : VC Tryz.prog 180 [vStrS l] [(false, mStrS l)] := by
  refine vc_of_ew good hm [0,2] Tryz.func180 rfl (by kernel_rfl) (by kernel_rfl) rfl ?_
  simp [Tryz.f180, mStrS]
  omega
set_option maxHeartbeats 4000000 in
theorem copyTable_ok (t : GTable) (h1 : t.fCols.length ≤ 1048576) (h2 : t.fKeys.length ≤ 1048576) : VC Tryz.prog 116 [vTable t] [(true, mTable t)] := by
  refine vc_of_ew good hm [0,1,2] Tryz.func116 rfl (by kernel_rfl) (by kernel_rfl) rfl ?_
  simp [Tryz.f116, mTable]
  refine ⟨by omega, .of (copyTexts_ok _ h2) ?_⟩
  simp [mStrS]
def madeT (d : GDdl) : GTable := ⟨d.fTable, d.fCols, d.fKeys⟩
set_option maxHeartbeats 4000000 in
theorem made_ok (d : GDdl) (h1 : d.fCols.length ≤ 1048576) (h2 : d.fKeys.length ≤ 1048576) : VC Tryz.prog 175 [vDdl d] [(true, mTable (madeT d))] := by
  refine vc_of_ew good hm [0,1,2] Tryz.func175 rfl (by kernel_rfl) (by kernel_rfl) rfl ?_
  simp [Tryz.f175, mTable]
  refine .of (copyTable_ok (madeT d) h1 h2) ?_
  simp [mTable, madeT]
def plain (d : GDdl) : Bool := d.fCols.isEmpty && d.fKeys.isEmpty
def addOk (d : GDdl) : Bool := decide ((d.fCols.length : Int) = 1) && (colOk (d.fCols[0]?.getD dCol) && ((d.fCols[0]?.getD dCol).fHas || !(d.fCols[0]?.getD dCol).fNot))
def ddlOk (d : GDdl) : Bool := wordOk d.fTable && ((decide (d.fKind = 1) && (tableOk (madeT d) && (em d.fName && em d.fTo))) || (decide (d.fKind = 2) && (plain d && (em d.fName && em d.fTo))) || (decide (d.fKind = 3) && (addOk d && (d.fKeys.isEmpty && (em d.fName && em d.fTo)))) || (decide (d.fKind = 4) && (plain d && (wordOk d.fName && em d.fTo))) || (decide (d.fKind = 5) && (plain d && (wordOk d.fName && wordOk d.fTo))))
theorem okMade {d : GDdl} (h : okDdl d) : okTable (madeT d) := ⟨h.2.1, h.2.2.1, h.2.2.2.1, trivial⟩
theorem okC0 {d : GDdl} (h : okDdl d) (hl : d.fCols.length = 1) : okCol (d.fCols[0]?.getD dCol) := h.2.2.1.2 _ (getD_mem dCol (by omega))
set_option maxHeartbeats 8000000 in
set_option maxRecDepth 4000 in
theorem ddlOkS_ok (d : GDdl) (hd : okDdl d) : VC Tryz.prog 109 [vDdl d] [(false, [(.s, .sc (.bool (ddlOk d)))])] := by
  refine vc_of_ew good hm [0,1,2,7,3,19,20,40,53,97,110] Tryz.func109 rfl (by kernel_rfl) (by kernel_rfl) rfl ?_
  simp [Tryz.f109]
  refine .of (wordOkS_ok _ hd.2.1) ?_
  simp [beqI]
  refine ⟨fun h => by grind [ddlOk], fun hw => ⟨fun k1 => .of (fun h => ⟨h, tableOkS_ok (madeT d) (okMade hd)⟩) ?_, fun k1 => ⟨fun k2 => ?_, fun k2 => ⟨fun k3 => ⟨fun h => ⟨h, by omega⟩, .of (fun h => ⟨h, colOkS_ok _ (okC0 hd (by omega))⟩) ?_⟩, fun k3 => ⟨fun k4 => .of (fun h => ⟨h, wordOkS_ok _ hd.2.2.2.2.1⟩) ?_, fun k4 => ⟨fun k5 => .of (fun h => ⟨h, wordOkS_ok _ hd.2.2.2.2.1⟩) ?_, fun k5 => by grind [ddlOk]⟩⟩⟩⟩⟩⟩
  · simp
    grind [ddlOk, em]
  · grind [ddlOk, em, plain]
  · simp
    refine ⟨by grind, by grind, by grind, ?_⟩
    grind [ddlOk, em, addOk]
  · simp
    grind [ddlOk, em, plain]
  · simp
    refine .of (fun h => ⟨h, wordOkS_ok _ hd.2.2.2.2.2.1⟩) ?_
    simp
    grind [ddlOk, em, plain]
set_option maxHeartbeats 8000000 in
set_option maxRecDepth 4000 in
theorem ddlOkI_ok (d : GDdl) (hd : okDdl d) (h1 : d.fCols.length ≤ 1048576) (h2 : d.fKeys.length ≤ 1048576) : VC Tryz.prog 114 [vDdl d] [(false, [(.s, .sc (.bool (ddlOk d)))])] := by
  refine vc_of_ew good hm [0,1,2,7,3,14,15,30,35,71,84] Tryz.func114 rfl (by kernel_rfl) (by kernel_rfl) rfl ?_
  simp [Tryz.f114]
  refine .of (wordOkI_ok _ hd.2.1) ?_
  simp [beqI]
  refine ⟨fun h => by grind [ddlOk], fun hw => ⟨fun k1 => .of (made_ok d h1 h2) ?_, fun k1 => ⟨fun k2 => ?_, fun k2 => ⟨fun k3 => ?_, fun k3 => ⟨fun k4 => ?_, fun k4 => ⟨fun k5 => ?_, fun k5 => by grind [ddlOk]⟩⟩⟩⟩⟩⟩
  · simp [mTable]
    refine .of (tableOkI_ok (madeT d) (okMade hd)) ?_
    simp
    grind [ddlOk, em]
  · refine .of (equalDdl_ok d ⟨d.fKind, d.fTable, [], [], ⟨#[]⟩, ⟨#[]⟩⟩ hd) ?_
    simp [eqDdl, eqRows_nil]
    grind [ddlOk, em, plain]
  · refine .of (equalDdl_ok d ⟨d.fKind, d.fTable, d.fCols, [], ⟨#[]⟩, ⟨#[]⟩⟩ hd) ?_
    rw [show eqDdl d ⟨d.fKind, d.fTable, d.fCols, [], ⟨#[]⟩, ⟨#[]⟩⟩ = (d.fKeys.isEmpty && (em d.fName && em d.fTo)) by simp [eqDdl, eqRows_nil, eqRows_self eqCol eqCol_self, em]]
    generalize hq : (d.fKeys.isEmpty && (em d.fName && em d.fTo)) = q
    simp
    refine ⟨fun a b => ⟨⟨a, b⟩, by omega⟩, .of (fun h => ⟨h, colOkI_ok _ (okC0 hd (by omega))⟩) ?_⟩
    simp
    refine ⟨by grind, by grind, by grind, ?_⟩
    grind [ddlOk, em, addOk]
  · refine .of (equalDdl_ok d ⟨d.fKind, d.fTable, [], [], d.fName, ⟨#[]⟩⟩ hd) ?_
    rw [show eqDdl d ⟨d.fKind, d.fTable, [], [], d.fName, ⟨#[]⟩⟩ = (plain d && em d.fTo) by simp [eqDdl, eqRows_nil, em, plain, Bool.and_assoc]]
    generalize hq : (plain d && em d.fTo) = q
    simp
    refine .of (fun h => ⟨h, wordOkI_ok _ hd.2.2.2.2.1⟩) ?_
    simp
    grind [ddlOk, em]
  · refine .of (equalDdl_ok d ⟨d.fKind, d.fTable, [], [], d.fName, d.fTo⟩ hd) ?_
    rw [show eqDdl d ⟨d.fKind, d.fTable, [], [], d.fName, d.fTo⟩ = plain d by simp [eqDdl, eqRows_nil, em, plain, Bool.and_assoc]]
    generalize hq : plain d = q
    simp
    refine .of (fun h => ⟨h, wordOkI_ok _ hd.2.2.2.2.1⟩) ?_
    simp
    refine .of (fun h => ⟨h, wordOkI_ok _ hd.2.2.2.2.2.1⟩) ?_
    simp
    grind [ddlOk, em]

end Go.Proofs.YtkciklpdhhcblaaGreat
