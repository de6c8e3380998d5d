import Derived.Test.YtkciklpdhhcblaaGreatVal
import Derived.Test.YtkciklpdhhcblaaGreatSlices
namespace Go.Proofs.YtkciklpdhhcblaaGreat
open Go Go.Proofs Go.Sm
attribute [local simp] ti eStr eInt eByte eVal cVal vVal eCol cCol vCol eColS vColS eStrS vStrS eTable cTable vTable eTableS vTableS eCat cCat vCat eValS vValS eRow cRow vRow eRowS vRowS eRows cRows vRows eRowsS vRowsS eDb cDb vDb eDdl cDdl vDdl eFol cFol vFol eStmt cStmt vStmt eRec cRec vRec eSnap cSnap vSnap eRecS vRecS eTail cTail vTail
set_option linter.unusedVariables false
set_option linter.unusedSimpArgs false


def colOk (c : GCol) : Bool := wordOk c.fName && within c.fTy 1 3 && (if c.fHas then valOk c.fDef && (decide (c.fDef.fTy = c.fTy) || (decide (c.fDef.fTy = 0) && !c.fNot)) else nullV c.fDef)
set_option maxHeartbeats 4000000 in
set_option maxRecDepth 4000 in
theorem colOkS_ok (c : GCol) (hc : okCol c) : VC Tryz.prog 169 [vCol c] [(false, [(.s, .sc (.bool (colOk c)))])] := by
  refine vc_of_ew good hm [0,1,2,3,21,24] Tryz.func169 rfl (by kernel_rfl) (by kernel_rfl) rfl ?_
  simp [Tryz.f169]
  refine .of (wordOkS_ok _ hc.1) ?_
  simp [beqI]
  refine ⟨fun h => by grind [colOk, within], fun h1 h2 h3 => ⟨fun h4 => by grind [colOk, nullV, em, within], fun h4 => .of (valOkS_ok _) ?_⟩⟩
  simp
  grind [colOk, nullV, em, within, valOk]
set_option maxHeartbeats 4000000 in
set_option maxRecDepth 4000 in
theorem colOkI_ok (c : GCol) (hc : okCol c) : VC Tryz.prog 177 [vCol c] [(false, [(.s, .sc (.bool (colOk c)))])] := by
  refine vc_of_ew good hm [0,1,2,18,21] Tryz.func177 rfl (by kernel_rfl) (by kernel_rfl) rfl ?_
  simp [Tryz.f177]
  refine .of (wordOkI_ok _ hc.1) ?_
  simp [beqI]
  refine .of (fun h => ⟨h, within_ok _ _ _⟩) ?_
  simp [beqI]
  refine .of (fun h => ⟨h, valOkI_ok _⟩) ?_
  simp [beqI]
  grind [colOk, nullV, em, within, valOk]
def colAt (t : GTable) (s : ByteArray) : Int := idxF (fun c : GCol => c.fName.toList == s.toList) t.fCols
set_option maxHeartbeats 4000000 in
theorem colAtS_ok (t : GTable) (s : ByteArray) (hl : okM t.fCols.length) : VC Tryz.prog 122 [vTable t, str s] [(false, [(.s, .sc (.int .i64 (colAt t s)))])] := by
  unfold okM at hl
  refine vc_of_ew good hm [0,1,2,4,8,9,10,11,6,5,18] Tryz.func122 rfl (by kernel_rfl) (by kernel_rfl) rfl ?_
  simp [Tryz.f122]
  refine ew_loop (fun E => ∃ i : Nat, i ≤ t.fCols.length ∧ anyT (fun c : GCol => c.fName.toList == s.toList) t.fCols i = false ∧ E = { nt := 21, sl := [(1, str s), (8, vColS t.fCols), (9, int .i64 t.fCols.length), (10, int .i64 i)], bx := [], rt := [] }) (fun E => t.fCols.length - (E.num 10).toNat) _ (Gh.kb _ [1,8,9,10] [] []) ⟨0, by omega, anyT_zero _ _, by simp⟩ ?_
  rintro E1 ⟨i, hi, hall, rfl⟩
  simp
  refine ⟨fun h => ⟨h, fun hp => (idxF_at _ dCol h hall (by simpa using hp)).symm, fun hp => .of _ (Gh.kb _ [1,8,9,10] [] []) ⟨i + 1, by omega, by rw [anyT_succ _ dCol h, hall]; simpa using hp, ?_⟩ ?_⟩, fun h => ?_⟩
  · simp [wrapS (show i < 9223372036854775807 by omega)]
  · simp [wrapS (show i < 9223372036854775807 by omega)]; omega
  · have : i = t.fCols.length := by omega
    subst this
    rw [anyT_all] at hall
    exact (idxF_no _ hall).symm
theorem colAt1_ok (c : GCol) (s : ByteArray) : VC Tryz.prog 189 [vCol c, .p (.ps [.sc (.string s)])] [(false, [(.s, .sc (.bool (c.fName.toList == s.toList)))])] := by
  refine vc_of_ew good hm [0,1,2,3] Tryz.func189 rfl (by kernel_rfl) (by kernel_rfl) rfl ?_
  simp [Tryz.f189]
theorem colAtI_ok (t : GTable) (s : ByteArray) (hl : okM t.fCols.length) : VC Tryz.prog 133 [vTable t, str s] [(false, [(.s, .sc (.int .i64 (colAt t s)))])] := by
  refine vc_of_ew good hm [0,1,2,3,4] Tryz.func133 rfl (by kernel_rfl) (by kernel_rfl) rfl ?_
  simp [Tryz.f133]
  refine .of (idxCol1_ok t.fCols _ _ (fun c : GCol => c.fName.toList == s.toList) hl (fun x _ => colAt1_ok x s)) ?_
  simp [colAt]

end Go.Proofs.YtkciklpdhhcblaaGreat
