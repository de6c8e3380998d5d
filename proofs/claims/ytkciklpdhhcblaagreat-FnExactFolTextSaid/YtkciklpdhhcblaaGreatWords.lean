import Derived.Test.YtkciklpdhhcblaaGreatTxt
import Derived.Test.YtkciklpdhhcblaaGreatCat
namespace Go.Proofs.YtkciklpdhhcblaaGreat
open Go Go.Proofs Go.Sm
attribute [local simp] ti eStr eInt eByte eVal cVal vVal eCol cCol vCol eColS vColS eStrS vStrS eTable cTable vTable eTableS vTableS eCat cCat vCat eValS vValS eRow cRow vRow eRowS vRowS eRows cRows vRows eRowsS vRowsS eDb cDb vDb eDdl cDdl vDdl eFol cFol vFol eStmt cStmt vStmt eRec cRec vRec eSnap cSnap vSnap eRecS vRecS eTail cTail vTail
set_option linter.unusedVariables false
set_option linter.unusedSimpArgs false


def joinT : List (List UInt8) → List UInt8
  | [] => []
  | w :: r => w ++ r.flatMap (fun x => 32 :: x)
theorem joinT_snoc (l : List (List UInt8)) (w : List UInt8) : joinT (l ++ [w]) = (if l = [] then [] else joinT l ++ [32]) ++ w := by
  cases l with
  | nil => simp [joinT]
  | cons a r => simp [joinT]
theorem joinT_pre (l r : List (List UInt8)) : (joinT l).length ≤ (joinT (l ++ r)).length := by
  cases l with
  | nil => simp [joinT]
  | cons a l => simp [joinT]
def wsT (l : List ByteArray) : List UInt8 := joinT (l.map tx)
theorem wsT_snoc (l : List ByteArray) (w : ByteArray) : wsT (l ++ [w]) = (if l = [] then [] else wsT l ++ [32]) ++ tx w := by
  simp only [wsT, List.map_append, List.map_cons, List.map_nil, joinT_snoc, List.map_eq_nil_iff]
theorem wsT_take {l : List ByteArray} {i : Nat} (h : i < l.length) : wsT (l.take (i + 1)) = (if i = 0 then [] else wsT (l.take i) ++ [32]) ++ tx (l[i]?.getD ⟨#[]⟩) := by
  rw [List.take_succ_eq_append_getElem h, wsT_snoc, List.getElem?_eq_getElem h, Option.getD_some]
  congr 1
  by_cases h0 : i = 0
  · subst h0; simp
  · rw [if_neg h0, if_neg (fun e => by
      rcases List.take_eq_nil_iff.1 e with e | e
      · exact h0 e
      · subst e; simp at h)]
theorem wsT_pre (l : List ByteArray) (i : Nat) : (wsT (l.take i)).length ≤ (wsT l).length := by
  have := joinT_pre ((l.take i).map tx) ((l.drop i).map tx)
  rw [← List.map_append, List.take_append_drop] at this
  exact this
set_option maxHeartbeats 4000000 in
theorem gluedI_ok (l : List ByteArray) (hl : l.length ≤ 1099511627776) (hs : (wsT l).length ≤ 4611686018427387904) : VC Tryz.prog 38 [vStrS l] [(false, [(.s, .sc (.string (ofT (wsT l))))])] := by
  refine vc_of_ew good hm [0,2,3,6,7,8,9,4,5,14] Tryz.func38 rfl (by kernel_rfl) (by kernel_rfl) rfl ?_
  simp [Tryz.f38]
  refine ew_loop (fun E => ∃ i : Nat, i ≤ l.length ∧ E = { nt := 22, sl := [(3, str (ofT (wsT (l.take i)))), (6, vStrS l), (7, int .i64 l.length), (8, int .i64 i)], bx := [], rt := [] }) (fun E => l.length - (E.num 8).toNat) _ (Gh.kb _ [3,6,7,8] [] []) ⟨0, by omega, by simp [wsT, joinT, ofT]⟩ ?_
  rintro E1 ⟨i, hi, rfl⟩
  simp
  have h1 := wsT_pre l i
  refine ⟨fun h => ⟨h, fun h0 => ?_, fun h0 => ?_⟩, fun h => ?_⟩
  · have hp := wsT_pre l (i + 1)
    rw [wsT_take h, if_neg (by omega)] at hp
    simp only [List.length_append, tx_len, List.length_cons, List.length_nil] at hp
    refine ⟨?_, ?_, .of _ (Gh.kb _ [3,6,7,8] [] []) ⟨i + 1, by omega, ?_⟩ ?_⟩
    · show _ + 1 ≤ _
      omega
    · show _ + 1 + _ ≤ _
      omega
    · rw [wsT_take h, if_neg (by omega)]
      simp [wrapS (show i < 9223372036854775807 by omega)]
      exact tx_ext (by simp)
    · simp [wrapS (show i < 9223372036854775807 by omega)]; omega
  · have hp := wsT_pre l (i + 1)
    rw [wsT_take h, if_pos h0] at hp
    simp only [List.length_append, tx_len, List.length_nil] at hp
    have hz : wsT (l.take i) = [] := by subst h0; rfl
    refine ⟨?_, .of _ (Gh.kb _ [3,6,7,8] [] []) ⟨i + 1, by omega, ?_⟩ ?_⟩
    · rw [hz, List.length_nil]; omega
    · rw [wsT_take h, if_pos h0, hz]
      simp [wrapS (show i < 9223372036854775807 by omega)]
      exact tx_ext (by simp)
    · simp [wrapS (show i < 9223372036854775807 by omega)]; omega
  · have hi' : i = l.length := by omega
    subst hi'
    simp
set_option maxHeartbeats 4000000 in
theorem joinS_ok (l : List ByteArray) (hl : l.length ≤ 1099511627776) (hs : (wsT l).length ≤ 4611686018427387904) : VC Tryz.prog 110 [vStrS l] [(false, [(.s, .sc (.string (ofT (wsT l))))])] := by
  refine vc_of_ew good hm [0,2,3,6,7,8,9,4,5,14] Tryz.func110 rfl (by kernel_rfl) (by kernel_rfl) rfl ?_
  simp [Tryz.f110]
  refine ew_loop (fun E => ∃ i : Nat, i ≤ l.length ∧ E = { nt := 22, sl := [(3, str (ofT (wsT (l.take i)))), (6, vStrS l), (7, int .i64 l.length), (8, int .i64 i)], bx := [], rt := [] }) (fun E => l.length - (E.num 8).toNat) _ (Gh.kb _ [3,6,7,8] [] []) ⟨0, by omega, by simp [wsT, joinT, ofT]⟩ ?_
  rintro E1 ⟨i, hi, rfl⟩
  simp
  have h1 := wsT_pre l i
  refine ⟨fun h => ⟨h, fun h0 => ?_, fun h0 => ?_⟩, fun h => ?_⟩
  · have hp := wsT_pre l (i + 1)
    rw [wsT_take h, if_neg (by omega)] at hp
    simp only [List.length_append, tx_len, List.length_cons, List.length_nil] at hp
    refine ⟨?_, ?_, .of _ (Gh.kb _ [3,6,7,8] [] []) ⟨i + 1, by omega, ?_⟩ ?_⟩
    · show _ + 1 ≤ _
      omega
    · show _ + 1 + _ ≤ _
      omega
    · rw [wsT_take h, if_neg (by omega)]
      simp [wrapS (show i < 9223372036854775807 by omega)]
      exact tx_ext (by simp)
    · simp [wrapS (show i < 9223372036854775807 by omega)]; omega
  · have hp := wsT_pre l (i + 1)
    rw [wsT_take h, if_pos h0] at hp
    simp only [List.length_append, tx_len, List.length_nil] at hp
    have hz : wsT (l.take i) = [] := by subst h0; rfl
    refine ⟨?_, .of _ (Gh.kb _ [3,6,7,8] [] []) ⟨i + 1, by omega, ?_⟩ ?_⟩
    · rw [hz, List.length_nil]; omega
    · rw [wsT_take h, if_pos h0, hz]
      simp [wrapS (show i < 9223372036854775807 by omega)]
      exact tx_ext (by simp)
    · simp [wrapS (show i < 9223372036854775807 by omega)]; omega
  · have hi' : i = l.length := by omega
    subst hi'
    simp
def tyT (t : Int) : ByteArray := if t = 1 then ⟨#[98, 111, 111, 108]⟩ else if t = 2 then ⟨#[105, 110, 116]⟩ else if t = 3 then ⟨#[116, 101, 120, 116]⟩ else ⟨#[]⟩
theorem tyName_ok (t : Int) (h : 0 ≤ t ∧ t ≤ 3) : VC Tryz.prog 178 [int .i64 t] [(false, [(.s, .sc (.string (tyT t)))])] := by
  refine vc_of_ew good hm [0,2] Tryz.func178 rfl (by kernel_rfl) (by kernel_rfl) rfl ?_
  simp [Tryz.f178]
  have ht : t = 0 ∨ t = 1 ∨ t = 2 ∨ t = 3 := by omega
  rcases ht with rfl | rfl | rfl | rfl <;> simp [md, lf, tyT, List.range']
def tyL : List ByteArray := [⟨#[]⟩, ⟨#[98, 111, 111, 108]⟩, ⟨#[105, 110, 116]⟩, ⟨#[116, 101, 120, 116]⟩]
theorem typesS_ok : VC Tryz.prog 218 [] [(false, mStrS tyL)] := by
  refine vc_of_ew good hm [0] Tryz.func218 rfl (by kernel_rfl) (by kernel_rfl) rfl ?_
  simp [Tryz.f218, mStrS, tyL]
theorem tyL_at (t : Int) (h : 0 ≤ t ∧ t ≤ 3) : tyL[t.toNat]?.getD ⟨#[]⟩ = tyT t := by
  have ht : t = 0 ∨ t = 1 ∨ t = 2 ∨ t = 3 := by omega
  rcases ht with rfl | rfl | rfl | rfl <;> simp [tyL, tyT]
theorem colTy {c : GCol} (h : colOk c = true) : 0 ≤ c.fTy ∧ c.fTy ≤ 3 := by
  simp [colOk, within] at h
  omega
theorem colNm {c : GCol} (h : colOk c = true) : wordOk c.fName = true := by
  simp [colOk] at h
  exact h.1.1
theorem wordLen {s : ByteArray} (h : wordOk s = true) : s.size ≤ 12 := by
  simp only [wordOk, Bool.and_eq_true] at h
  have := h.2
  simp [within] at this
  omega
theorem szMk (a : Array UInt8) : (⟨a⟩ : ByteArray).size = a.size := rfl
theorem tyT_len (t : Int) : (tyT t).size ≤ 4 := by
  unfold tyT
  split
  · decide
  split
  · decide
  split <;> decide
theorem digs_len2 : ∀ (k n : Nat), n < 10 ^ (k + 1) → (digs n).length ≤ k + 1 := by
  intro k
  induction k with
  | zero => intro n h; rw [digs_lt (by simpa using h)]; simp
  | succ k ih =>
    intro n h
    by_cases h10 : n < 10
    · rw [digs_lt h10]; simp
    · rw [digs_ge (by omega)]
      have := ih (n / 10) (by rw [Nat.pow_succ] at h; omega)
      simp
      omega
theorem numT_len (n : Int) : (numT n).length ≤ 14 := by
  unfold numT
  split
  · rename_i h
    simp [inN, within] at h
    have := digs_len2 12 n.natAbs (by simp; omega)
    split <;> simp <;> omega
  · simp
theorem valT_len (v : GVal) : (valT v).length ≤ 92 := by
  unfold valT
  split
  · simp
  split
  · simp
  split
  · unfold boolT; split <;> simp
  split
  · have := numT_len v.fN
    omega
  · rename_i hv h0 h1 h2
    have hs : v.fS.size ≤ 30 := by
      cases h : valOk v with
      | false => exact absurd h hv
      | true => simp [valOk, h0, h1, h2] at h; omega
    have := escT_len (tx v.fS)
    rw [tx_len] at this
    simp
    omega
def colW (c : GCol) : List ByteArray := [c.fName, tyT c.fTy] ++ (if c.fNot = true then [⟨#[110, 111, 116]⟩] else []) ++ (if c.fHas = true then [ofT (61 :: valT c.fDef)] else [])
def colT (c : GCol) : List UInt8 := if colOk c = true then wsT (colW c) else []
set_option maxHeartbeats 4000000 in
theorem colWS_ok (c : GCol) (hc : okCol c) (h : colOk c = true) : VC Tryz.prog 170 [vCol c] [(false, mStrS (colW c))] := by
  refine vc_of_ew good hm [0,1,2,3,13,18] Tryz.func170 rfl (by kernel_rfl) (by kernel_rfl) rfl ?_
  simp [Tryz.f170]
  refine .of typesS_ok ?_
  have hty := colTy h
  have hl4 : tyL.length = 4 := rfl
  simp [mStrS, md, lf, List.range', tyL_at _ hty, hl4]
  have hvl := valT_len c.fDef
  have hsz : (⟨#[61]⟩ : ByteArray).size = 1 := rfl
  have e61 : (⟨#[61]⟩ : ByteArray) ++ ofT (valT c.fDef) = ofT (61 :: valT c.fDef) := tx_ext (by simp)
  refine ⟨by omega, by omega, fun h1 => ⟨fun h2 => .of (valTextS_ok _) ?_, fun h2 => by simp [colW, h1, h2]⟩, fun h1 => ⟨fun h2 => .of (valTextS_ok _) ?_, fun h2 => by simp [colW, h1, h2]⟩⟩
  · simp [hsz, e61, colW, h1, h2]
    omega
  · simp [hsz, e61, colW, h1, h2]
    omega
set_option maxHeartbeats 4000000 in
theorem colTextI_ok (c : GCol) (hc : okCol c) : VC Tryz.prog 115 [vCol c] [(false, [(.s, .sc (.string (ofT (colT c))))])] := by
  refine vc_of_ew good hm [0,1,2,6,3,15,19] Tryz.func115 rfl (by kernel_rfl) (by kernel_rfl) rfl ?_
  simp [Tryz.f115]
  refine .of (colOkI_ok _ hc) ?_
  simp
  refine ⟨fun h => by simp [colT, h, ofT], fun h => ?_⟩
  have hty := colTy h
  have hnm := wordLen (colNm h)
  have h32 : (⟨#[32]⟩ : ByteArray).size = 1 := rfl
  refine ⟨by rw [h32]; omega, .of (tyName_ok _ hty) ?_⟩
  have htl := tyT_len c.fTy
  have hvl := valT_len c.fDef
  simp [szMk]
  refine ⟨by omega, fun h1 => ⟨by omega, fun h2 => ⟨by omega, .of (valTextI_ok _) ?_⟩, fun h2 => ?_⟩, fun h1 => ⟨fun h2 => ⟨by omega, .of (valTextI_ok _) ?_⟩, fun h2 => ?_⟩⟩
  · simp [szMk]
    exact ⟨by omega, tx_ext (by simp [colT, h, wsT, joinT, colW, h1, h2])⟩
  · exact tx_ext (by simp [colT, h, wsT, joinT, colW, h1, h2])
  · simp [szMk]
    exact ⟨by omega, tx_ext (by simp [colT, h, wsT, joinT, colW, h1, h2])⟩
  · exact tx_ext (by simp [colT, h, wsT, joinT, colW, h1, h2])
theorem wsT_le {l : List ByteArray} {B : Nat} (h : ∀ w ∈ l, w.size ≤ B) : (wsT l).length ≤ l.length * (B + 1) := by
  have key : ∀ r : List ByteArray, (∀ w ∈ r, w.size ≤ B) → ((r.map tx).flatMap fun x => 32 :: x).length ≤ r.length * (B + 1) := by
    intro r
    induction r with
    | nil => intro _; simp
    | cons a r ih =>
      intro hr
      have h1 := hr a (by simp)
      have h2 := ih fun w hw => hr w (by simp [hw])
      simp only [List.map_cons, List.flatMap_cons, List.length_append, List.length_cons, tx_len, Nat.add_mul, Nat.one_mul] at h2 ⊢
      omega
  cases l with
  | nil => simp [wsT, joinT]
  | cons a r =>
    have h1 := h a (by simp)
    have h2 := key r fun w hw => h w (by simp [hw])
    simp only [wsT, List.map_cons, joinT, List.length_append, tx_len, List.length_cons, Nat.add_mul, Nat.one_mul] at h2 ⊢
    omega
def valW (l : List GVal) : List ByteArray := l.map fun v => ofT (valT v)
theorem valW_len (l : List GVal) : (valW l).length = l.length := by simp [valW]
theorem valW_size (l : List GVal) : ∀ w ∈ valW l, w.size ≤ 92 := by
  intro w hw
  obtain ⟨v, _, rfl⟩ := List.mem_map.1 hw
  rw [ofT_size]
  exact valT_len v
theorem valW_take {l : List GVal} {i : Nat} (h : i < l.length) : valW (l.take (i + 1)) = valW (l.take i) ++ [ofT (valT (l[i]?.getD dVal))] := by
  unfold valW
  rw [List.take_succ_eq_append_getElem h, List.getElem?_eq_getElem h, List.map_append]
  rfl
theorem colW_size {c : GCol} (h : colOk c = true) : ∀ w ∈ colW c, w.size ≤ 93 := by
  intro w hw
  have h1 := wordLen (colNm h)
  have h2 := tyT_len c.fTy
  have h3 := valT_len c.fDef
  simp only [colW, List.mem_append, List.mem_cons, List.not_mem_nil, or_false] at hw
  rcases hw with ((rfl | rfl) | hw) | hw
  · omega
  · omega
  · split at hw
    · rw [List.mem_singleton] at hw; subst hw; decide
    · cases hw
  · split at hw
    · rw [List.mem_singleton] at hw; subst hw; simp; omega
    · cases hw
theorem colW_len (c : GCol) : (colW c).length ≤ 4 := by
  unfold colW
  split <;> split <;> simp
set_option maxHeartbeats 4000000 in
theorem valsI_ok (l : List GVal) (hl : l.length ≤ 1048576) : VC Tryz.prog 118 [vValS l] [(false, [(.s, .sc (.string (ofT (wsT (valW l)))))])] := by
  refine vc_of_ew good hm [0,2,3,7,8,9,10,5] Tryz.func118 rfl (by kernel_rfl) (by kernel_rfl) rfl ?_
  simp [Tryz.f118]
  refine ew_loop (fun E => ∃ i : Nat, i ≤ l.length ∧ E = { nt := 21, sl := [(3, .v false [.r [6]]), (7, vValS l), (8, int .i64 l.length), (9, int .i64 i)], bx := [], rt := (mStrS (valW (l.take i))).map fun y => (6, y) }) (fun E => l.length - (E.num 9).toNat) _ (Gh.kb _ [3,7,8,9] [] [6]) ⟨0, by omega, by simp [valW, mStrS]⟩ ?_
  rintro E1 ⟨i, hi, rfl⟩
  have hvl := valW_len (l.take i)
  rw [List.length_take] at hvl
  simp [mStrS]
  refine ⟨fun h => ⟨h, .of (valTextI_ok _) ?_⟩, fun h => ?_⟩
  · simp
    refine ⟨by omega, .of _ ((Gh.kb _ [3,7,8,9] [] [17]).trans (Gh.rn _ 17 6)) ⟨i + 1, by omega, ?_⟩ ?_⟩
    · rw [valW_take h]
      simp [wrapS (show i < 9223372036854775807 by omega), mStrS]
    · simp [wrapS (show i < 9223372036854775807 by omega)]; omega
  · have hi' : i = l.length := by omega
    subst hi'
    rw [List.take_length]
    have h1 := wsT_le (valW_size l)
    rw [valW_len] at h1
    refine .of (gluedI_ok (valW l) (by rw [valW_len]; omega) (by omega)) ?_
    simp
set_option maxHeartbeats 4000000 in
theorem valsS_ok (l : List GVal) (hl : l.length ≤ 1048576) : VC Tryz.prog 113 [vValS l] [(false, mStrS (valW l))] := by
  refine vc_of_ew good hm [0,2,3,7,8,9,10,5] Tryz.func113 rfl (by kernel_rfl) (by kernel_rfl) rfl ?_
  simp [Tryz.f113]
  refine ew_loop (fun E => ∃ i : Nat, i ≤ l.length ∧ E = { nt := 20, sl := [(3, .v false [.r [6]]), (7, vValS l), (8, int .i64 l.length), (9, int .i64 i)], bx := [], rt := (mStrS (valW (l.take i))).map fun y => (6, y) }) (fun E => l.length - (E.num 9).toNat) _ (Gh.kb _ [3,7,8,9] [] [6]) ⟨0, by omega, by simp [valW, mStrS]⟩ ?_
  rintro E1 ⟨i, hi, rfl⟩
  have hvl := valW_len (l.take i)
  rw [List.length_take] at hvl
  simp [mStrS]
  refine ⟨fun h => ⟨h, .of (valTextS_ok _) ?_⟩, fun h => ?_⟩
  · simp
    refine ⟨by omega, .of _ ((Gh.kb _ [3,7,8,9] [] [17]).trans (Gh.rn _ 17 6)) ⟨i + 1, by omega, ?_⟩ ?_⟩
    · rw [valW_take h]
      simp [wrapS (show i < 9223372036854775807 by omega), mStrS]
    · simp [wrapS (show i < 9223372036854775807 by omega)]; omega
  · have hi' : i = l.length := by omega
    subst hi'
    simp [mStrS]

end Go.Proofs.YtkciklpdhhcblaaGreat
