import Derived.Test.YtjidbfocloocaaaBase
namespace Go.Proofs.Ytjidbfocloocaaa
open Go Go.Proofs Go.Sm
attribute [local simp] ti eStr eInt eByte eByteS vByteS ePack vPack eStrS vStrS ePub vPub eSlot vSlot eSlotS vSlotS
set_option linter.unusedVariables false
set_option linter.unusedSimpArgs false
def cutN (n : Int) (len : Nat) : Nat := (max 0 (min n (len : Int))).toNat
def packCut (p : GPack) (n : Int) : GPack := ⟨p.fBytes.take (cutN n p.fBytes.length)⟩
set_option maxHeartbeats 4000000 in
theorem S_PackCut_ok (p : GPack) (n : Int) (o0 : okPack p) (hs : ∀ n ∈ wPack p, n ≤ 1048576) (_ : (wPack p).sum ≤ 1048576) (o1 : okI n) : VC Try.prog 15 [vPack p, int .i64 n] [(true, mPack (packCut p n))] := by
  have hl : p.fBytes.length ≤ 1048576 := hs _ (by simp [wPack, wByteS])
  refine vc_of_ew good hm [0,1,2,4,6,11] Try.func15 rfl (by kernel_rfl) (by kernel_rfl) rfl ?_
  simp [Try.f15, mPack]
  have hc : ∀ k : Nat, cutN n p.fBytes.length = k → List.map eByte (packCut p n).fBytes = List.take k (List.map eByte p.fBytes) := fun k hk => by simp [packCut, hk, List.map_take]
  refine ⟨fun h => ⟨fun h1 => absurd h1 (by omega), ?_⟩, fun h => ⟨fun h1 => ⟨by omega, ?_⟩, fun h1 => ⟨⟨h, h1⟩, by omega, ?_⟩⟩⟩
  · have : cutN n p.fBytes.length = 0 := by unfold cutN; omega
    simp [packCut, this]
  · rw [hc p.fBytes.length (by unfold cutN; omega)]
  · rw [hc n.toNat (by unfold cutN; omega)]
set_option maxHeartbeats 4000000 in
theorem I_PackCut_ok (p : GPack) (n : Int) (o0 : okPack p) (hs : ∀ n ∈ wPack p, n ≤ 1048576) (_ : (wPack p).sum ≤ 1048576) (o1 : okI n) : VC Try.prog 17 [vPack p, int .i64 n] [(true, mPack (packCut p n))] := by
  have hl : p.fBytes.length ≤ 1048576 := hs _ (by simp [wPack, wByteS])
  refine vc_of_ew good hm [0,1,2,4] Try.func17 rfl (by kernel_rfl) (by kernel_rfl) rfl ?_
  simp [Try.f17, mPack]
  have hc : ∀ k : Nat, cutN n p.fBytes.length = k → List.map eByte (packCut p n).fBytes = List.take k (List.map eByte p.fBytes) := fun k hk => by simp [packCut, hk, List.map_take]
  generalize hm : (if 0 < if (p.fBytes.length : Int) < n then (p.fBytes.length : Int) else n then if (p.fBytes.length : Int) < n then (p.fBytes.length : Int) else n else 0) = m
  have h0 : 0 ≤ m ∧ m ≤ p.fBytes.length ∧ cutN n p.fBytes.length = m.toNat := by unfold cutN; omega
  exact ⟨⟨h0.1, h0.2.1⟩, by omega, (hc _ h0.2.2).symm⟩
theorem PackCut_r0 (p : GPack) (n : Int) (o0 : okPack p) (hs : ∀ n ∈ wPack p, n ≤ 1048576) (_ : (wPack p).sum ≤ 1048576) (o1 : okI n) : (∀ n' ∈ wPack (packCut p n), n' ≤ 1048576) ∧ (wPack (packCut p n)).sum ≤ 1099511627776 := by
  have hl : p.fBytes.length ≤ 1048576 := hs _ (by simp [wPack, wByteS])
  refine ⟨fun m hm => ?_, ?_⟩
  · simp [wPack, wByteS, packCut] at hm
    omega
  · simp [wPack, wByteS, packCut]
    omega
-- r0 PackCut (packCut p0 p1)
end Go.Proofs.Ytjidbfocloocaaa
