import Derived.Test.YtkciklpdhhcblaaGreatBase
namespace Go.Proofs.YtkciklpdhhcblaaGreat
open Go Go.Proofs Go.Sm
attribute [local simp] ti eStr eInt eByte eVal cVal vVal eCol cCol vCol eColS vColS eStrS vStrS eTable cTable vTable eTableS vTableS eCat cCat vCat eValS vValS eRow cRow vRow eRowS vRowS eRows cRows vRows eRowsS vRowsS eDb cDb vDb eDdl cDdl vDdl eFol cFol vFol eStmt cStmt vStmt eRec cRec vRec eSnap cSnap vSnap eRecS vRecS eTail cTail vTail
set_option linter.unusedVariables false
set_option linter.unusedSimpArgs false


def em (s : ByteArray) : Bool := s.toList.isEmpty
def valOk (v : GVal) : Bool := (decide (v.fTy = 0) && (decide (v.fN = 0) && em v.fS)) || (decide (v.fTy = 1) && ((decide (v.fN = 0) || decide (v.fN = 1)) && em v.fS)) || (decide (v.fTy = 2) && (within v.fN (-1099511627775) 1099511627775 && em v.fS)) || (decide (v.fTy = 3) && (decide (v.fN = 0) && decide ((v.fS.size : Int) ≤ 30)))
def nullV (v : GVal) : Bool := decide (v.fTy = 0) && (decide (v.fN = 0) && em v.fS)
theorem within01 (n : Int) : within n 0 1 = (decide (n = 0) || decide (n = 1)) := by
  unfold within
  rw [Bool.eq_iff_iff]
  simp
  omega
theorem beqI (a b : Int) : (a == b) = decide (a = b) := rfl
theorem l01Num_ok (n : Int) : VC Tryz.prog 66 [int .i64 n] [(false, [(.s, .sc (.bool (within n (-1099511627775) 1099511627775)))])] := by
  refine vc_of_ew good hm [0,2] Tryz.func66 rfl (by kernel_rfl) (by kernel_rfl) rfl ?_
  simp [Tryz.f66, within]
set_option maxHeartbeats 4000000 in
theorem valOkS_ok (v : GVal) : VC Tryz.prog 217 [vVal v] [(false, [(.s, .sc (.bool (valOk v)))])] := by
  refine vc_of_ew good hm [0,1,2,4,5,15,30,40] Tryz.func217 rfl (by kernel_rfl) (by kernel_rfl) rfl ?_
  simp [Tryz.f217]
  refine ⟨fun h => by simp [valOk, h, em], fun h0 => ⟨fun h => by simp [valOk, h, em], fun h1 => ⟨fun h => .of (l01Num_ok _) ?_, fun h2 => ⟨fun h => by simp [valOk, h], fun h3 => by simp [valOk, h0, h1, h2, h3]⟩⟩⟩⟩
  simp [valOk, h, em]
set_option maxHeartbeats 4000000 in
theorem valOkI_ok (v : GVal) : VC Tryz.prog 221 [vVal v] [(false, [(.s, .sc (.bool (valOk v)))])] := by
  refine vc_of_ew good hm [0,1,2,4,5,10,20,30] Tryz.func221 rfl (by kernel_rfl) (by kernel_rfl) rfl ?_
  simp [Tryz.f221]
  refine ⟨fun h => by simp [valOk, h, em, beqI], fun h0 => ⟨fun h => .of (within_ok _ _ _) ?_, fun h1 => ⟨fun h => .of (within_ok _ _ _) ?_, fun h2 => ⟨fun h => by simp [valOk, h], fun h3 => by simp [valOk, h0, h1, h2, h3]⟩⟩⟩⟩
  · simp [valOk, h, em, within01]
  · simp [valOk, h, em]
def valLess (a b : GVal) : Bool := valOk a && valOk b && (decide (a.fTy < b.fTy) || (decide (a.fTy = b.fTy) && (decide (a.fN < b.fN) || (decide (a.fN = b.fN) && Op.bytesLess a.fS.toList b.fS.toList))))
set_option maxHeartbeats 4000000 in
theorem valLessS_ok (a b : GVal) : VC Tryz.prog 214 [vVal a, vVal b] [(false, [(.s, .sc (.bool (valLess a b)))])] := by
  refine vc_of_ew good hm [0,1,2,3,4,12,17] Tryz.func214 rfl (by kernel_rfl) (by kernel_rfl) rfl ?_
  simp [Tryz.f214]
  refine .of (valOkS_ok a) ?_
  simp
  refine .of (fun h => ⟨h, valOkS_ok b⟩) ?_
  simp
  grind [valLess]
set_option maxHeartbeats 4000000 in
theorem valLessI_ok (a b : GVal) : VC Tryz.prog 216 [vVal a, vVal b] [(false, [(.s, .sc (.bool (valLess a b)))])] := by
  refine vc_of_ew good hm [0,1,2,3,4,5,14,25] Tryz.func216 rfl (by kernel_rfl) (by kernel_rfl) rfl ?_
  simp [Tryz.f216]
  refine .of (valOkI_ok a) ?_
  simp
  refine .of (fun h => ⟨h, valOkI_ok b⟩) ?_
  simp
  grind [valLess]

end Go.Proofs.YtkciklpdhhcblaaGreat
