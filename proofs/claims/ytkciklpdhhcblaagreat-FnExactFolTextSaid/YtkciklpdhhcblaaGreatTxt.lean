import Derived.Test.YtkciklpdhhcblaaGreatNum
namespace Go.Proofs.YtkciklpdhhcblaaGreat
open Go Go.Proofs Go.Sm
attribute [local simp] ti eStr eInt eByte eVal cVal vVal eCol cCol vCol eColS vColS eStrS vStrS eTable cTable vTable eTableS vTableS eCat cCat vCat eValS vValS eRow cRow vRow eRowS vRowS eRows cRows vRows eRowsS vRowsS eDb cDb vDb eDdl cDdl vDdl eFol cFol vFol eStmt cStmt vStmt eRec cRec vRec eSnap cSnap vSnap eRecS vRecS eTail cTail vTail
set_option linter.unusedVariables false
set_option linter.unusedSimpArgs false


def hexT : ByteArray := ⟨#[48, 49, 50, 51, 52, 53, 54, 55, 56, 57, 97, 98, 99, 100, 101, 102]⟩
def hexB (k : Nat) : UInt8 := hexT.data.getD k 0
def plainB (b : UInt8) : Bool := decide (33 ≤ b.toNat) && decide (b.toNat ≤ 126) && !decide (b.toNat = 39) && !decide (b.toNat = 37)
def escB (b : UInt8) : List UInt8 := if plainB b = true then [b] else [37, hexB (b.toNat / 16), hexB (b.toNat % 16)]
def escT (l : List UInt8) : List UInt8 := l.flatMap escB
def boolT (n : Int) : List UInt8 := if n = 1 then [116, 114, 117, 101] else [102, 97, 108, 115, 101]
def valT (v : GVal) : List UInt8 := if valOk v = false then [] else if v.fTy = 0 then [110, 117, 108, 108] else if v.fTy = 1 then boolT v.fN else if v.fTy = 2 then numT v.fN else 39 :: (escT (tx v.fS) ++ [39])
theorem boolTextI_ok (n : Int) : VC Tryz.prog 222 [int .i64 n] [(false, [(.s, .sc (.string (ofT (boolT n))))])] := by
  refine vc_of_ew good hm [0,2,4] Tryz.func222 rfl (by kernel_rfl) (by kernel_rfl) rfl ?_
  simp [Tryz.f222]
  refine ⟨fun h => by simp [boolT, h, ofT], fun h => by simp [boolT, h, ofT]⟩
theorem boolTextS_ok (n : Int) : VC Tryz.prog 219 [int .i64 n] [(false, [(.s, .sc (.string (ofT (boolT n))))])] := by
  refine vc_of_ew good hm [0,2,4] Tryz.func219 rfl (by kernel_rfl) (by kernel_rfl) rfl ?_
  simp [Tryz.f219]
  refine ⟨fun h => by simp [boolT, h, ofT], fun h => by simp [boolT, h, ofT]⟩
theorem l01Hex_ok (d : Nat) (hd : d < 16) : VC Tryz.prog 220 [int .i64 d] [(false, [(.s, .sc (.int .u8 ((hexB d).toNat : Int)))])] := by
  refine vc_of_ew good hm [0,2] Tryz.func220 rfl (by kernel_rfl) (by kernel_rfl) rfl ?_
  simp [Tryz.f220]
  have hm : (d : Int).tmod 16 = (d : Int) := by rw [show (16 : Int) = ((16 : Nat) : Int) from rfl, ← Int.ofNat_tmod, Nat.mod_eq_of_lt hd]
  rw [hm]
  refine ⟨⟨by omega, ?_⟩, ?_⟩
  · show (d : Int) < 16
    omega
  · simp [hexB, hexT]
theorem escB_len (b : UInt8) : (escB b).length ≤ 3 := by unfold escB; split <;> simp
theorem escT_len (l : List UInt8) : (escT l).length ≤ l.length * 3 := by
  induction l with
  | nil => simp [escT]
  | cons b l ih =>
    have := escB_len b
    simp only [escT, List.flatMap_cons, List.length_append, List.length_cons] at ih ⊢
    omega
theorem escT_succ {l : List UInt8} {i : Nat} (h : i < l.length) : escT (l.take (i + 1)) = escT (l.take i) ++ escB l[i] := by
  unfold escT
  rw [List.take_succ_eq_append_getElem h, List.flatMap_append]
  simp only [List.flatMap_cons, List.flatMap_nil, List.append_nil]
theorem escT_at {s : ByteArray} {i : Nat} (h : i < s.size) : escT ((tx s).take (i + 1)) = escT ((tx s).take i) ++ escB (s.data[i]?.getD 0) := by
  have h' : i < (tx s).length := by rw [tx_len]; exact h
  have h2 : i < s.data.size := h
  rw [escT_succ h', Array.getElem?_eq_getElem h2, Option.getD_some]
  rfl
theorem byte39 : isByteRow [.sc (.int .u8 39)] := ⟨39, rfl⟩
theorem rb39 : rowByte [.sc (.int .u8 39)] = 39 := rowByte_l 39
theorem u8div (b : UInt8) : IntKind.i64.wrap ((IntKind.i64.wrap (b.toNat : Int)).tdiv 16) = ((b.toNat / 16 : Nat) : Int) := by
  have hb := b.toNat_lt
  rw [wrapI (i := (b.toNat : Int)) (by omega) (by omega), show (16 : Int) = ((16 : Nat) : Int) from rfl, ← Int.ofNat_tdiv, wrapI (by omega) (by omega)]
theorem u8mod (b : UInt8) : (IntKind.i64.wrap (b.toNat : Int)).tmod 16 = ((b.toNat % 16 : Nat) : Int) := by
  have hb := b.toNat_lt
  rw [wrapI (i := (b.toNat : Int)) (by omega) (by omega), show (16 : Int) = ((16 : Nat) : Int) from rfl, ← Int.ofNat_tmod]
theorem u8shr (b : UInt8) : (b.toNat : Int).fdiv (2 ^ min 4 IntKind.u8.bits) = ((b.toNat / 16 : Nat) : Int) := by
  have h : ((2 : Int) ^ min 4 IntKind.u8.bits) = 16 := by decide
  rw [h, Int.fdiv_eq_ediv_of_nonneg _ (by omega)]
  omega
theorem u8and (b : UInt8) : IntKind.u8.wrap ((b.toNat % 2 ^ IntKind.u8.bits &&& 15 % 2 ^ IntKind.u8.bits : Nat) : Int) = ((b.toNat % 16 : Nat) : Int) := by
  have hb := b.toNat_lt
  have h : (2 : Nat) ^ IntKind.u8.bits = 256 := by decide
  rw [h, Nat.mod_eq_of_lt (show b.toNat < 256 by omega), show 15 % 256 = 2 ^ 4 - 1 by decide, Nat.and_two_pow_sub_one_eq_mod, wrapU8]
  simp
  omega
theorem hexI (k : Nat) : ([48, 49, 50, 51, 52, 53, 54, 55, 56, 57, 97, 98, 99, 100, 101, 102] : List UInt8)[k]?.getD 0 = hexB k := by simp [hexB, hexT]
theorem plainB_iff (b : UInt8) : plainB b = true ↔ 33 ≤ b.toNat ∧ b.toNat ≤ 126 ∧ b.toNat ≠ 39 ∧ b.toNat ≠ 37 := by
  simp [plainB, and_assoc]
theorem valT_text {v : GVal} (h : valOk v = true) (h0 : ¬ v.fTy = 0) (h1 : ¬ v.fTy = 1) (h2 : ¬ v.fTy = 2) : ofT (valT v) = ⟨(39 :: (escT (tx v.fS) ++ [39])).toArray⟩ := by
  simp only [valT, h, h0, h1, h2, if_false, Bool.true_eq_false]
  rfl
set_option maxHeartbeats 8000000 in
theorem valTextS_ok (v : GVal) : VC Tryz.prog 173 [vVal v] [(false, [(.s, .sc (.string (ofT (valT v))))])] := by
  refine vc_of_ew good hm [0,1,2,8,10,11,13,18,3,4,28,5,48] Tryz.func173 rfl (by kernel_rfl) (by kernel_rfl) rfl ?_
  simp [Tryz.f173]
  refine .of (valOkS_ok v) ?_
  simp
  refine ⟨fun h => by simp [valT, h, ofT], fun h => ⟨fun h0 => by simp [valT, h, h0, ofT], fun h0 => ⟨fun h1 => ?_, fun h1 => ⟨fun h2 => ?_, fun h2 => ?_⟩⟩⟩⟩
  · refine .of (boolTextS_ok _) ?_
    simp [valT, h, h0, h1]
  · refine .of (numTextS_ok _) ?_
    simp [valT, h, h0, h1, h2]
  have hv := h
  have hsz : v.fS.size ≤ 30 := by
    simp [valOk, h0, h1, h2] at hv
    omega
  replace hv := h
  refine ew_loop (fun E => ∃ i : Nat, i ≤ v.fS.size ∧ E = { nt := 68, sl := [(1, .p (.bx 1 0)), (3, .v false [.r [23]]), (4, int .i64 i)], bx := [(1, cVal v)], rt := [(23, .o 5 (fun _ => [.s]), .ls [.sc (.int .u8 0)] ((39 :: escT ((tx v.fS).take i)).map eByte))] }) (fun E => v.fS.size - (E.num 4).toNat) _ (Gh.kb _ [1,3,4] [1] [23]) ⟨0, by omega, by simp [escT]⟩ ?_
  rintro E1 ⟨i, hi, rfl⟩
  simp
  have hel := escT_len ((tx v.fS).take i)
  rw [List.length_take] at hel
  obtain ⟨b, hb⟩ : ∃ b, v.fS.data[i]?.getD 0 = b := ⟨_, rfl⟩
  rw [hb]
  refine ⟨fun h => ⟨h, fun p1 p2 p3 p4 => ⟨by omega, .of _ ((Gh.kb _ [1,3,4] [1] [52]).trans (Gh.rn _ 52 23)) ⟨i + 1, by omega, ?_⟩ ?_⟩, fun hp => ?_⟩, fun h => ?_⟩
  · rw [escT_at h, hb, escB, if_pos ((plainB_iff b).2 (by omega))]
    simp [wrapS (show i < 9223372036854775807 by omega), eByte]
  · simp [wrapS (show i < 9223372036854775807 by omega)]; omega
  · have hb8 := b.toNat_lt
    rw [u8div]
    refine .of (l01Hex_ok (b.toNat / 16) (by omega)) ?_
    simp
    rw [u8mod]
    refine .of (l01Hex_ok (b.toNat % 16) (by omega)) ?_
    simp
    refine ⟨by omega, .of _ ((Gh.kb _ [1,3,4] [1] [63]).trans (Gh.rn _ 63 23)) ⟨i + 1, by omega, ?_⟩ ?_⟩
    · rw [escT_at h, hb, escB, if_neg (fun hc => by have := (plainB_iff b).1 hc; omega)]
      simp [wrapS (show i < 9223372036854775807 by omega), eByte]
    · simp [wrapS (show i < 9223372036854775807 by omega)]; omega
  · have hi' : i = v.fS.size := by omega
    subst hi'
    refine ⟨by omega, ⟨fun _ => rfl, byte39, fun a ha => ?_⟩, ?_⟩
    · rcases ha with ⟨x, _, rfl⟩ | rfl
      · exact isByteRow_l x
      · exact byte39
    · rw [valT_text hv h0 h1 h2, rb39, List.take_of_length_le (by rw [tx_len]; omega)]
      simp [Function.comp_def]
set_option maxHeartbeats 8000000 in
theorem valTextI_ok (v : GVal) : VC Tryz.prog 179 [vVal v] [(false, [(.s, .sc (.string (ofT (valT v))))])] := by
  refine vc_of_ew good hm [0,1,2,6,10,14,21,3,4,33,5,50] Tryz.func179 rfl (by kernel_rfl) (by kernel_rfl) rfl ?_
  simp [Tryz.f179]
  refine .of (valOkI_ok v) ?_
  simp
  refine ⟨fun h => by simp [valT, h, ofT], fun h => ⟨fun h0 => by simp [valT, h, h0, ofT], fun h0 => ⟨fun h1 => ?_, fun h1 => ⟨fun h2 => ?_, fun h2 => ?_⟩⟩⟩⟩
  · refine .of (boolTextI_ok _) ?_
    simp [valT, h, h0, h1]
  · refine .of (numTextI_ok _) ?_
    simp [valT, h, h0, h1, h2]
  have hv := h
  have hsz : v.fS.size ≤ 30 := by
    simp [valOk, h0, h1, h2] at hv
    omega
  replace hv := h
  refine ew_loop (fun E => ∃ i : Nat, i ≤ v.fS.size ∧ E = { nt := 68, sl := [(1, .p (.bx 1 0)), (3, .v false [.r [28]]), (4, int .i64 i)], bx := [(1, cVal v)], rt := [(28, .o 5 (fun _ => [.s]), .ls [.sc (.int .u8 0)] ((39 :: escT ((tx v.fS).take i)).map eByte))] }) (fun E => v.fS.size - (E.num 4).toNat) _ (Gh.kb _ [1,3,4] [1] [28]) ⟨0, by omega, by simp [escT]⟩ ?_
  rintro E1 ⟨i, hi, rfl⟩
  simp
  have hel := escT_len ((tx v.fS).take i)
  rw [List.length_take] at hel
  obtain ⟨b, hb⟩ : ∃ b, v.fS.data[i]?.getD 0 = b := ⟨_, rfl⟩
  rw [hb]
  have hb8 := b.toNat_lt
  refine ⟨fun h => ⟨h, ?_⟩, fun h => ?_⟩
  · refine .of (within_ok _ _ _) ?_
    simp
    rw [u8shr, u8and, Int.toNat_natCast, Int.toNat_natCast, hexI, hexI]
    have hw : IntKind.i64.wrap (b.toNat : Int) = (b.toNat : Int) := wrapI (by omega) (by omega)
    have hp : within (IntKind.i64.wrap (b.toNat : Int)) 33 126 = true ↔ 33 ≤ b.toNat ∧ b.toNat ≤ 126 := by
      rw [hw]; simp [within]; omega
    have hS : ({ data := #[48, 49, 50, 51, 52, 53, 54, 55, 56, 57, 97, 98, 99, 100, 101, 102] } : ByteArray).size = 16 := rfl
    rw [hS]
    refine ⟨fun p1 p2 p3 => ⟨by omega, .of _ ((Gh.kb _ [1,3,4] [1] [54]).trans (Gh.rn _ 54 28)) ⟨i + 1, by omega, ?_⟩ ?_⟩, fun hq => ⟨⟨by omega, by omega⟩, ⟨by omega, by omega⟩, by omega, .of _ ((Gh.kb _ [1,3,4] [1] [63]).trans (Gh.rn _ 63 28)) ⟨i + 1, by omega, ?_⟩ ?_⟩⟩
    · have := hp.1 p1
      rw [escT_at h, hb, escB, if_pos ((plainB_iff b).2 (by omega))]
      simp [wrapS (show i < 9223372036854775807 by omega), eByte]
    · simp [wrapS (show i < 9223372036854775807 by omega)]; omega
    · rw [escT_at h, hb, escB, if_neg (fun hc => by have h5 := (plainB_iff b).1 hc; have := hq (hp.2 (by omega)); omega)]
      simp [wrapS (show i < 9223372036854775807 by omega), eByte]
    · simp [wrapS (show i < 9223372036854775807 by omega)]; omega
  · have hi' : i = v.fS.size := by omega
    subst hi'
    refine ⟨by omega, ⟨fun _ => rfl, byte39, fun a ha => ?_⟩, ?_⟩
    · rcases ha with ⟨x, _, rfl⟩ | rfl
      · exact isByteRow_l x
      · exact byte39
    · rw [valT_text hv h0 h1 h2, rb39, List.take_of_length_le (by rw [tx_len]; omega)]
      simp [Function.comp_def]

end Go.Proofs.YtkciklpdhhcblaaGreat
