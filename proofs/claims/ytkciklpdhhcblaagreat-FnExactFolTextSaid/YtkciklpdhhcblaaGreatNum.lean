import Derived.Test.YtkciklpdhhcblaaGreatVal
namespace Go.Proofs.YtkciklpdhhcblaaGreat
open Go Go.Proofs Go.Sm
attribute [local simp] ti eStr eInt eByte eVal cVal vVal eCol cCol vCol eColS vColS eStrS vStrS eTable cTable vTable eTableS vTableS eCat cCat vCat eValS vValS eRow cRow vRow eRowS vRowS eRows cRows vRows eRowsS vRowsS eDb cDb vDb eDdl cDdl vDdl eFol cFol vFol eStmt cStmt vStmt eRec cRec vRec eSnap cSnap vSnap eRecS vRecS eTail cTail vTail
set_option linter.unusedVariables false
set_option linter.unusedSimpArgs false


def ofT (l : List UInt8) : ByteArray := ⟨l.toArray⟩
def tx (s : ByteArray) : List UInt8 := s.data.toList
theorem ofT_tx (s : ByteArray) : ofT (tx s) = s := by simp [ofT, tx]
@[simp] theorem tx_ofT (l : List UInt8) : tx (ofT l) = l := by simp [ofT, tx]
@[simp] theorem tx_mk (a : Array UInt8) : tx ⟨a⟩ = a.toList := rfl
@[simp] theorem tx_app (a b : ByteArray) : tx (a ++ b) = tx a ++ tx b := by simp [tx]
theorem tx_ext {a b : ByteArray} (h : tx a = tx b) : a = b := by rw [← ofT_tx a, h, ofT_tx]
@[simp] theorem ofT_size (l : List UInt8) : (ofT l).size = l.length := List.size_toArray ..
theorem tx_len (s : ByteArray) : (tx s).length = s.size := Array.length_toList
def digs (n : Nat) : List UInt8 := if n < 10 then [UInt8.ofNat (48 + n)] else digs (n / 10) ++ [UInt8.ofNat (48 + n % 10)]
termination_by n
decreasing_by omega
theorem digs_lt {n : Nat} (h : n < 10) : digs n = [UInt8.ofNat (48 + n)] := by rw [digs, if_pos h]
theorem digs_ge {n : Nat} (h : 10 ≤ n) : digs n = digs (n / 10) ++ [UInt8.ofNat (48 + n % 10)] := by rw [digs, if_neg (by omega)]
theorem digs_len (n : Nat) : (digs n).length ≤ n + 1 := by
  induction n using Nat.strongRecOn with
  | _ n ih =>
    by_cases h : n < 10
    · rw [digs_lt h]; simp
    · rw [digs_ge (by omega)]
      have := ih (n / 10) (by omega)
      simp
      omega
def inN (n : Int) : Bool := within n (-1099511627775) 1099511627775
def numT (n : Int) : List UInt8 := if inN n = true then (if n < 0 then 45 :: digs n.natAbs else digs n.natAbs) else []
theorem wrapD {n : Nat} (h : n < 10) : IntKind.u8.wrap (IntKind.i64.wrap (48 + (n : Int))) = ((UInt8.ofNat (48 + n)).toNat : Int) := by
  rw [wrapI (by omega) (by omega), show (48 : Int) + (n : Int) = ((48 + n : Nat) : Int) by omega, wrapU8]
theorem tdiv10 (n : Nat) : IntKind.i64.wrap ((n : Int).tdiv 10) = ((n / 10 : Nat) : Int) ∨ 9223372036854775807 < n := by
  by_cases h : 9223372036854775807 < n
  · exact .inr h
  · left
    rw [show (10 : Int) = ((10 : Nat) : Int) from rfl, ← Int.ofNat_tdiv]
    exact wrapN (by omega)
theorem tmod10 (n : Nat) : (n : Int).tmod 10 = ((n % 10 : Nat) : Int) := by
  rw [show (10 : Int) = ((10 : Nat) : Int) from rfl, ← Int.ofNat_tmod]
theorem wrapM (n : Nat) : IntKind.u8.wrap (IntKind.i64.wrap (48 + (n : Int).tmod 10)) = ((UInt8.ofNat (48 + n % 10)).toNat : Int) := by
  rw [tmod10, wrapD (by omega)]
set_option maxHeartbeats 4000000 in
theorem numTextS_pos : ∀ (n : Nat), n ≤ 1099511627775 → VC Tryz.prog 33 [int .i64 n] [(false, [(.s, .sc (.string (ofT (digs n))))])] := by
  intro n
  induction n using Nat.strongRecOn with
  | _ n ih =>
  intro hn
  refine vc_of_ew good hm [0,2,5,7,13] Tryz.func33 rfl (by kernel_rfl) (by kernel_rfl) rfl ?_
  simp [Tryz.f33]
  refine .of (l01Num_ok _) ?_
  have hin : within (n : Int) (-1099511627775) 1099511627775 = true := by simp [within]; omega
  simp [hin]
  have hq : IntKind.i64.wrap ((n : Int) / 10) = ((n / 10 : Nat) : Int) := by rw [wrapI (by omega) (by omega)]; omega
  refine ⟨fun h => by omega, fun h => ?_, fun h => ?_⟩
  · have h' : n < 10 := by omega
    rw [wrapD h', digs_lt h']
    refine ⟨⟨fun _ => rfl, isByteRow_l _⟩, ?_⟩
    rw [rowByte_l]
    rfl
  · rw [hq]
    refine .of (ih (n / 10) (by omega) (by omega)) ?_
    rw [digs_ge (by omega)]
    simp
    have hl := digs_len (n / 10)
    rw [wrapM]
    refine ⟨⟨fun _ => rfl, isByteRow_l _⟩, ?_, ?_⟩
    · show _ + 1 ≤ _
      omega
    · rw [rowByte_l]
      exact tx_ext (by simp [UInt8.ofNat_add])
theorem within_no {n : Int} (h : inN n = false) : numT n = [] := by simp [numT, h]
theorem numTextS_ok (n : Int) : VC Tryz.prog 33 [int .i64 n] [(false, [(.s, .sc (.string (ofT (numT n))))])] := by
  by_cases hp : 0 ≤ n ∧ n ≤ 1099511627775
  · obtain ⟨k, rfl⟩ := Int.eq_ofNat_of_zero_le hp.1
    have h1 : inN (k : Int) = true := by simp [inN, within]; omega
    have := numTextS_pos k (by omega)
    simpa [numT, h1, show ¬ ((k : Int) < 0) by omega] using this
  refine vc_of_ew good hm [0,2,5,7,13] Tryz.func33 rfl (by kernel_rfl) (by kernel_rfl) rfl ?_
  simp [Tryz.f33]
  refine .of (l01Num_ok _) ?_
  simp
  refine ⟨fun h => by rw [within_no h]; rfl, fun h => ?_⟩
  have hr : -1099511627775 ≤ n ∧ n ≤ 1099511627775 := by simpa [within] using h
  refine ⟨fun hneg => ?_, fun h0 => absurd ⟨h0, hr.2⟩ hp⟩
  rw [show IntKind.i64.wrap (-n) = ((n.natAbs : Nat) : Int) by rw [wrapI (by omega) (by omega)]; omega]
  refine .of (numTextS_pos n.natAbs (by omega)) ?_
  simp
  have hl := digs_len n.natAbs
  refine ⟨by show 1 + _ ≤ _; omega, ?_⟩
  exact tx_ext (by simp [numT, inN, h, hneg])
set_option maxHeartbeats 4000000 in
theorem numTextI_pos (n0 : Nat) (hn : n0 ≤ 1099511627775) : VC Tryz.prog 36 [int .i64 n0] [(false, [(.s, .sc (.string (ofT (digs n0))))])] := by
  refine vc_of_ew good hm [0,2,6,8,3,14] Tryz.func36 rfl (by kernel_rfl) (by kernel_rfl) rfl ?_
  simp [Tryz.f36]
  have hin : within (n0 : Int) (-1099511627775) 1099511627775 = true := by simp [within]; omega
  refine .of (within_ok _ _ _) ?_
  simp [hin]
  refine ⟨fun h => absurd h (by omega), ?_⟩
  refine ew_loop (fun E => ∃ (n : Nat) (s : List UInt8), n ≤ n0 ∧ digs n ++ s = digs n0 ∧ E = { nt := 32, sl := [(0, int .i64 n), (3, str (ofT s))], bx := [], rt := [] }) (fun E => (E.num 0).toNat) _ (Gh.kb _ [0,3] [] []) ⟨n0, [], by omega, by simp, ?_⟩ ?_
  · simp [ofT]
  rintro E1 ⟨n, s, hi, hall, rfl⟩
  simp
  have hs : s.length ≤ n0 + 1 := by
    have h1 := congrArg List.length hall
    have := digs_len n0
    simp at h1
    omega
  have hq : IntKind.i64.wrap ((n : Int) / 10) = ((n / 10 : Nat) : Int) := by rw [wrapI (by omega) (by omega)]; omega
  rw [wrapM, hq]
  refine ⟨fun h => ⟨⟨fun _ => rfl, isByteRow_l _⟩, ?_, .of _ (Gh.kb _ [0,3] [] []) ⟨n / 10, by omega, UInt8.ofNat (48 + n % 10) :: s, ?_, ?_⟩ ?_⟩, fun h => ?_⟩
  · show 1 + _ ≤ _
    omega
  · rw [← hall, digs_ge (n := n) (by omega)]
    simp
  · rw [rowByte_l]
    simp
    exact tx_ext (by simp [UInt8.ofNat_add])
  · simp
    omega
  · rw [wrapD (by omega)]
    refine ⟨⟨fun _ => rfl, isByteRow_l _⟩, ?_, ?_⟩
    · show 1 + _ ≤ _
      omega
    · rw [rowByte_l, ← hall, digs_lt (n := n) (by omega)]
      exact tx_ext (by simp)
theorem numTextI_ok (n : Int) : VC Tryz.prog 36 [int .i64 n] [(false, [(.s, .sc (.string (ofT (numT n))))])] := by
  by_cases hp : 0 ≤ n ∧ n ≤ 1099511627775
  · obtain ⟨k, rfl⟩ := Int.eq_ofNat_of_zero_le hp.1
    have h1 : inN (k : Int) = true := by simp [inN, within]; omega
    have := numTextI_pos k (by omega)
    simpa [numT, h1, show ¬ ((k : Int) < 0) by omega] using this
  refine vc_of_ew good hm [0,2,6,8,3,14] Tryz.func36 rfl (by kernel_rfl) (by kernel_rfl) rfl ?_
  simp [Tryz.f36]
  refine .of (within_ok _ _ _) ?_
  simp
  refine ⟨fun h => by rw [within_no h]; rfl, fun h => ?_⟩
  have hr : -1099511627775 ≤ n ∧ n ≤ 1099511627775 := by simpa [within] using h
  have hneg : n < 0 := by omega
  refine ⟨fun _ => ?_, fun h0 => by omega⟩
  rw [show IntKind.i64.wrap (-n) = ((n.natAbs : Nat) : Int) by rw [wrapI (by omega) (by omega)]; omega]
  refine .of (numTextI_pos n.natAbs (by omega)) ?_
  simp
  have hl := digs_len n.natAbs
  refine ⟨by show 1 + _ ≤ _; omega, ?_⟩
  exact tx_ext (by simp [numT, inN, h, hneg])

end Go.Proofs.YtkciklpdhhcblaaGreat
