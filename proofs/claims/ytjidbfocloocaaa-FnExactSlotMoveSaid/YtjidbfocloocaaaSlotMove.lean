import Derived.Test.YtjidbfocloocaaaSlotLeast
import Derived.Test.YtjidbfocloocaaaSlices
import Derived.Test.YtjidbfocloocaaaInts
import Derived.Test.YtjidbfocloocaaaIns
import Derived.Test.YtjidbfocloocaaaSmP
namespace Go.Proofs.Ytjidbfocloocaaa
open Go Go.Proofs Go.Sm
attribute [local simp] ti eStr eInt eByte eByteS vByteS ePack cPack vPack eStrS vStrS ePub cPub vPub eSlot cSlot vSlot eSlotS vSlotS
set_option linter.unusedVariables false
set_option linter.unusedSimpArgs false


theorem bl_eq (x y : List UInt8) : Op.bytesLess x y = decide (x < y) := by
  induction x generalizing y with
  | nil => cases y <;> simp [Op.bytesLess]
  | cons a x ih =>
    cases y with
    | nil => simp [Op.bytesLess]
    | cons b y =>
      rw [Op.bytesLess, ih, Bool.eq_iff_iff]
      simp only [List.cons_lt_cons_iff, Bool.or_eq_true, Bool.and_eq_true, decide_eq_true_eq, beq_iff_eq]
theorem ltB_asymm {a b : ByteArray} (h : Op.bytesLess a.toList b.toList = true) : Op.bytesLess b.toList a.toList = false := by
  rw [bl_eq] at h ⊢
  simp only [decide_eq_true_eq, decide_eq_false_iff_not] at h ⊢
  exact List.lt_asymm h
theorem ltB_irrefl (a : ByteArray) : Op.bytesLess a.toList a.toList = false := by
  rw [bl_eq]
  simp only [decide_eq_false_iff_not]
  exact List.lt_irrefl _
theorem ltB_trans {a b c : ByteArray} (h : Op.bytesLess a.toList b.toList = true) (h' : Op.bytesLess b.toList c.toList = true) : Op.bytesLess a.toList c.toList = true := by
  rw [bl_eq] at h h' ⊢
  simp only [decide_eq_true_eq] at h h' ⊢
  exact List.lt_trans h h'
theorem ltB_tri {a b : ByteArray} (h : Op.bytesLess a.toList b.toList = false) (hne : ¬ a.toList = b.toList) : Op.bytesLess b.toList a.toList = true := by
  rw [bl_eq] at h ⊢
  simp only [decide_eq_true_eq, decide_eq_false_iff_not] at h ⊢
  false_or_by_contra
  rename_i hn
  exact hne (List.le_antisymm (List.not_lt.1 hn) (List.not_lt.1 h))
def mvP (nm : ByteArray) (s : GSlot) : Bool := s.fName.toList == nm.toList
def mvN (nm : ByteArray) (s : GSlot) : Bool := !Op.bytesLess s.fName.toList nm.toList
def mvQ (l : List GSlot) (nm : ByteArray) : Nat := l.findIdx (mvN nm)
def slotMove (l : List GSlot) (nm : ByteArray) (at_ : Int) : List GSlot × Int :=
  if (slotsOk l && wordOk nm && within at_ 0 400) = false then ([], 1)
  else if idxF (mvP nm) l < 0 then (if l.length = 8 then ([], 2) else (l.take (mvQ l nm) ++ ⟨nm, at_⟩ :: l.drop (mvQ l nm), 0))
  else if at_ < (l[(idxF (mvP nm) l).toNat]?.getD dSlot).fAt then ([], 3)
  else (l.set (idxF (mvP nm) l).toNat ⟨(l[(idxF (mvP nm) l).toNat]?.getD dSlot).fName, at_⟩, 0)
theorem slots_lt {l : List GSlot} (h : slotsOk l = true) : ∀ j, j < l.length → ∀ i, i < j → Op.bytesLess (l[i]?.getD dSlot).fName.toList (l[j]?.getD dSlot).fName.toList = true := by
  intro j
  induction j with
  | zero => intro _ i hi; omega
  | succ j ih =>
    intro hj i hi
    simp only [slotsOk, slotsTo, Bool.and_eq_true, List.all_eq_true, List.mem_range, decide_eq_true_eq] at h
    have h1 := h.1 (j + 1) hj
    simp only [slotAt, geq, Bool.and_eq_true, Bool.not_eq_true', Bool.and_eq_false_iff, Bool.not_eq_false', decide_eq_false_iff_not] at h1
    have h2 : Op.bytesLess (l[j]?.getD dSlot).fName.toList (l[j + 1]?.getD dSlot).fName.toList = true := by
      rcases h1.2 with h3 | h3
      · exact absurd (Nat.succ_pos j) h3
      · simpa using h3
    by_cases e : i = j
    · subst e; exact h2
    · exact ltB_trans (ih (by omega) i (by omega)) h2
theorem slots_len {l : List GSlot} (h : slotsOk l = true) : l.length ≤ 8 := by
  simp only [slotsOk, Bool.and_eq_true, decide_eq_true_eq] at h
  exact h.2
theorem mvQ_le (l : List GSlot) (nm : ByteArray) : mvQ l nm ≤ l.length := List.findIdx_le_length
theorem mvQ_lt {l : List GSlot} {nm : ByteArray} {i : Nat} (h : i < mvQ l nm) : Op.bytesLess (l[i]?.getD dSlot).fName.toList nm.toList = true := by
  have := List.not_of_lt_findIdx h
  have hl : i < l.length := Nat.lt_of_lt_of_le h (mvQ_le l nm)
  rw [List.getElem?_eq_getElem hl, Option.getD_some]
  simpa [mvN] using this
theorem mvQ_at {l : List GSlot} {nm : ByteArray} (h : mvQ l nm < l.length) : Op.bytesLess (l[mvQ l nm]?.getD dSlot).fName.toList nm.toList = false := by
  have := List.findIdx_getElem (w := h)
  rw [List.getElem?_eq_getElem h, Option.getD_some]
  simp only [mvN, Bool.not_eq_true'] at this
  exact this
theorem mvQ_eq {l : List GSlot} {nm : ByteArray} {i : Nat} (hi : i ≤ l.length) (h : ∀ j, j < i → Op.bytesLess (l[j]?.getD dSlot).fName.toList nm.toList = true) (he : i < l.length → Op.bytesLess (l[i]?.getD dSlot).fName.toList nm.toList = false) : mvQ l nm = i := by
  rcases Nat.lt_trichotomy (mvQ l nm) i with h1 | h1 | h1
  · have := mvQ_at (show mvQ l nm < l.length by omega)
    rw [h _ h1] at this
    cases this
  · exact h1
  · have h2 := mvQ_lt h1
    rw [he (by have := mvQ_le l nm; omega)] at h2
    cases h2
theorem mvK_no {l : List GSlot} {nm : ByteArray} (h : idxF (mvP nm) l < 0) {i : Nat} (hi : i < l.length) : ¬ (l[i]?.getD dSlot).fName.toList = nm.toList := by
  have h1 := idxF_ge (mvP nm) l
  rw [decide_eq_false (by omega)] at h1
  have := List.any_eq_false.1 h1.symm (l[i]?.getD dSlot) (getD_mem dSlot hi)
  simpa [mvP] using this
theorem mvK_at {l : List GSlot} {nm : ByteArray} (h : ¬ idxF (mvP nm) l < 0) : (idxF (mvP nm) l).toNat < l.length ∧ (l[(idxF (mvP nm) l).toNat]?.getD dSlot).fName.toList = nm.toList := by
  have h1 := idxF_ge (mvP nm) l
  rw [decide_eq_true (by omega)] at h1
  obtain ⟨i, e, hi, hp, _⟩ := idxF_spec (mvP nm) dSlot l h1.symm
  rw [e, Int.toNat_natCast]
  exact ⟨hi, by simpa [mvP] using hp⟩
theorem colsI_const (i : Nat) (x : List Md) : colsI i (fun _ => x) (fun _ => x) = fun _ => x := by
  funext k; simp [colsI]
def mvO (l : List GSlot) (nm : ByteArray) (at_ : Int) (i : Nat) : List GSlot := if i ≤ mvQ l nm then l.take i else (l.take (mvQ l nm) ++ ⟨nm, at_⟩ :: l.drop (mvQ l nm)).take (i + 1)
theorem mvO_low {l : List GSlot} {nm : ByteArray} {at_ : Int} {i : Nat} (h : i ≤ mvQ l nm) : mvO l nm at_ i = l.take i := by
  unfold mvO; rw [if_pos h]
theorem mvO_high {l : List GSlot} {nm : ByteArray} {at_ : Int} {i : Nat} (h : mvQ l nm < i) : mvO l nm at_ i = (l.take (mvQ l nm) ++ ⟨nm, at_⟩ :: l.drop (mvQ l nm)).take (i + 1) := by
  unfold mvO; rw [if_neg (by omega)]
theorem mvO_len (l : List GSlot) (nm : ByteArray) (at_ : Int) (i : Nat) : (mvO l nm at_ i).length ≤ i + 1 := by
  unfold mvO; split <;> simp only [List.length_take] <;> omega
theorem mvA_succ {l : List GSlot} {nm : ByteArray} {at_ : Int} {i : Nat} (h : mvQ l nm ≤ i) (hi : i < l.length) : (l.take (mvQ l nm) ++ ⟨nm, at_⟩ :: l.drop (mvQ l nm)).take (i + 2) = (l.take (mvQ l nm) ++ ⟨nm, at_⟩ :: l.drop (mvQ l nm)).take (i + 1) ++ [l[i]?.getD dSlot] := by
  have hq := mvQ_le l nm
  have hl : (l.take (mvQ l nm)).length = mvQ l nm := by rw [List.length_take]; omega
  rw [List.take_add_one, List.getElem?_append_right (by omega), hl, show i + 1 - mvQ l nm = (i - mvQ l nm) + 1 by omega, List.getElem?_cons_succ, List.getElem?_drop, show mvQ l nm + (i - mvQ l nm) = i by omega, List.getElem?_eq_getElem hi]
  rfl
theorem mvO_ne {l : List GSlot} {nm : ByteArray} {at_ : Int} {i : Nat} (h : i ≠ mvQ l nm) (hi : i < l.length) : mvO l nm at_ (i + 1) = mvO l nm at_ i ++ [l[i]?.getD dSlot] := by
  rcases Nat.lt_or_ge i (mvQ l nm) with h1 | h1
  · rw [mvO_low (by omega), mvO_low (by omega), List.take_add_one, List.getElem?_eq_getElem hi]; rfl
  · rw [mvO_high (by omega), mvO_high (by omega)]
    exact mvA_succ h1 hi
theorem mvO_eq {l : List GSlot} {nm : ByteArray} {at_ : Int} {i : Nat} (h : i = mvQ l nm) (hi : i < l.length) : mvO l nm at_ (i + 1) = mvO l nm at_ i ++ [⟨nm, at_⟩, l[i]?.getD dSlot] := by
  have hl : (l.take (mvQ l nm)).length = mvQ l nm := by rw [List.length_take]; omega
  rw [mvO_high (by omega), mvO_low (by omega), mvA_succ (by omega) hi, h, List.take_add_one, List.getElem?_append_right (by omega), hl, Nat.sub_self, List.getElem?_cons_zero, List.take_append_of_le_length (by omega), List.take_take, Nat.min_self, List.append_assoc]
  rfl
theorem mvO_all {l : List GSlot} {nm : ByteArray} {at_ : Int} (h : mvQ l nm < l.length) : mvO l nm at_ l.length = l.take (mvQ l nm) ++ ⟨nm, at_⟩ :: l.drop (mvQ l nm) := by
  rw [mvO_high h, List.take_of_length_le (by simp only [List.length_append, List.length_take, List.length_cons, List.length_drop]; omega)]
theorem mset_succ {l : List GSlot} {y : List Lf} {k i : Nat} (hi : i < l.length) : ((l.map eSlot).set k y).take (i + 1) = ((l.map eSlot).set k y).take i ++ [if k = i then y else eSlot (l[i]?.getD dSlot)] := by
  rw [List.take_add_one, List.getElem?_set]
  by_cases h : k = i
  · subst h; simp [hi]
  · simp [h, List.getElem?_eq_getElem hi]
theorem moveK_ok (x : GSlot) (nm : ByteArray) : VC Try.prog 49 [vSlot x, .p (.ps [.sc (.string nm)])] [(false, [(.s, .sc (.bool (mvP nm x)))])] := by
  refine vc_of_ew good hm [0,1,2,3] Try.func49 rfl (by kernel_rfl) (by kernel_rfl) rfl ?_
  simp [Try.f49, mvP]
set_option maxHeartbeats 8000000 in
set_option maxRecDepth 4000 in
theorem slotMoveI_ok (l : List GSlot) (nm : ByteArray) (at_ : Int) (hl : okSlotS l) (hn : okM nm.size) : VC Try.prog 29 [vSlotS l, str nm, int .i64 at_] [(false, mSlotS (slotMove l nm at_).1), (false, [(.s, .sc (.int .i64 (slotMove l nm at_).2))])] := by
  have hlen : l.length ≤ 9223372036854775807 := hl.1
  refine vc_of_ew good hm [0,1,2,4,6,7,8,14,28,36,9,51,10,70] Try.func29 rfl (by kernel_rfl) (by kernel_rfl) rfl ?_
  simp [Try.f29, mSlotS]
  refine .of (idxSlot1_ok l _ _ (mvP nm) hl.1 (fun x _ => moveK_ok x nm)) ?_
  simp
  refine .of (slotsOkI_ok l hl) ?_
  simp
  refine .of (fun h => ⟨h, wordOkI_ok _ hn⟩) ?_
  simp
  refine .of (fun h => ⟨h, within_ok _ _ _⟩) ?_
  simp
  have hgo : ∀ h : (slotsOk l && wordOk nm && within at_ 0 400) = true, slotMove l nm at_ = if idxF (mvP nm) l < 0 then (if l.length = 8 then ([], 2) else (l.take (mvQ l nm) ++ ⟨nm, at_⟩ :: l.drop (mvQ l nm), 0)) else if at_ < (l[(idxF (mvP nm) l).toNat]?.getD dSlot).fAt then ([], 3) else (l.set (idxF (mvP nm) l).toNat ⟨(l[(idxF (mvP nm) l).toNat]?.getD dSlot).fName, at_⟩, 0) := fun h => by simp only [slotMove, h, Bool.true_eq_false, if_false]
  refine ⟨fun h => ?_, fun h1 h2 h3 => ?_⟩
  · have : (slotsOk l && wordOk nm && within at_ 0 400) = false := by rcases h with (h | h) | h <;> simp [h]
    simp [slotMove, this]
  have hm := hgo (by simp [h1, h2, h3])
  have hL := slots_len h1
  have hb := idxF_bd (mvP nm) l
  refine ⟨fun hk h8 => ?_, fun h8 => ⟨fun hk => ⟨hk, hb.2⟩, fun hk ha => ?_, fun ha => ⟨by omega, fun hk => ⟨⟨hk, hb.2⟩, by omega, ?_, ?_⟩, fun hk => ?_⟩⟩⟩
  · rw [hm, if_pos hk, if_pos (by omega)]; exact ⟨rfl, rfl⟩
  · rw [hm, if_neg (by omega), if_pos ha]; exact ⟨rfl, rfl⟩
  · rw [hm, if_neg (by omega), if_neg (by have := ha hk; omega)]; simp [eSlot, List.map_set]
  · rw [hm, if_neg (by omega), if_neg (by have := ha hk; omega)]
  refine ew_loop (fun E => ∃ i : Nat, i ≤ l.length ∧ (∀ j, j < i → Op.bytesLess (l[j]?.getD dSlot).fName.toList nm.toList = true) ∧ E = { nt := 80, sl := [(2, int .i64 at_), (4, .p (.bx 4 0)), (9, .v false [.r [49]]), (10, int .i64 i)], bx := [(4, [.s (.sc (.string nm))])], rt := (mSlotS l).map fun y => (49, y) }) (fun E => l.length - (E.num 10).toNat) _ (Gh.kb _ [2,4,9,10] [4] [49]) ⟨0, by omega, fun j hj => by omega, by simp [mSlotS]⟩ ?_
  rintro E1 ⟨i, hi, hall, rfl⟩
  simp [mSlotS, md, lf, List.range']
  refine ⟨fun h4 h5 => .of _ (Gh.kb _ [2,4,9,10] [4] [49]) ⟨i + 1, by omega, fun j hj => ?_, ?_⟩ ?_, fun h4 => ?_⟩
  · by_cases e : j = i
    · subst e; exact h5
    · exact hall j (by omega)
  · simp [wrapS (show i < 9223372036854775807 by omega), mSlotS]
  · simp [wrapS (show i < 9223372036854775807 by omega)]; omega
  · have hq := mvQ_eq hi hall h4
    refine .use (vx_ins (i := i) (rows := l.map eSlot) (row := [.sc (.string nm), .sc (.int .i64 at_)]) (z := [.sc (.string ⟨#[]⟩), .sc (.int .i64 0)]) (cols := fun _ => [.s, .s]) (cols' := fun _ => [.s, .s]) ⟨_, _, Try.func50, rfl, by kernel_rfl⟩ rawIns_Slot (by decide) (by decide) rfl (by simp; omega) (by simp; omega)) ?_
    simp [colsI_const]
    rw [hm, if_pos hk, if_neg (by have := h8 hk; omega), hq]
    simp [eSlot]
set_option maxHeartbeats 8000000 in
set_option maxRecDepth 4000 in
theorem slotMoveS_ok (l : List GSlot) (nm : ByteArray) (at_ : Int) (hl : okSlotS l) (hn : okM nm.size) : VC Try.prog 28 [vSlotS l, str nm, int .i64 at_] [(false, mSlotS (slotMove l nm at_).1), (false, [(.s, .sc (.int .i64 (slotMove l nm at_).2))])] := by
  have hlen : l.length ≤ 9223372036854775807 := hl.1
  refine vc_of_ew good hm [0,1,2,6,7,24,8,9,26,27,28,29,11,35,39,49,62,71] Try.func28 rfl (by kernel_rfl) (by kernel_rfl) rfl ?_
  simp [Try.f28, mSlotS]
  refine .of (slotsOkS_ok l hl) ?_
  simp
  refine .of (fun h => ⟨h, wordOkS_ok _ hn⟩) ?_
  simp
  refine .of (fun h => ⟨h, l13At_ok _⟩) ?_
  simp
  have hgo : ∀ h : (slotsOk l && wordOk nm && within at_ 0 400) = true, slotMove l nm at_ = if idxF (mvP nm) l < 0 then (if l.length = 8 then ([], 2) else (l.take (mvQ l nm) ++ ⟨nm, at_⟩ :: l.drop (mvQ l nm), 0)) else if at_ < (l[(idxF (mvP nm) l).toNat]?.getD dSlot).fAt then ([], 3) else (l.set (idxF (mvP nm) l).toNat ⟨(l[(idxF (mvP nm) l).toNat]?.getD dSlot).fName, at_⟩, 0) := fun h => by simp only [slotMove, h, Bool.true_eq_false, if_false]
  refine ⟨fun h => ?_, fun h1 h2 h3 => ?_⟩
  · have : (slotsOk l && wordOk nm && within at_ 0 400) = false := by rcases h with (h | h) | h <;> simp [h]
    simp [slotMove, this]
  have hm := hgo (by simp [h1, h2, h3])
  have hL := slots_len h1
  have hb := idxF_bd (mvP nm) l
  by_cases hk : idxF (mvP nm) l < 0
  · have hq := mvQ_le l nm
    refine ew_loop (fun E => ∃ i : Nat, i ≤ l.length ∧ E = { nt := 73, sl := [(1, str nm), (2, int .i64 at_), (8, .v false [.r [25]]), (9, bool (decide (mvQ l nm < i))), (26, vSlotS l), (27, int .i64 l.length), (28, int .i64 i)], bx := [], rt := (mSlotS (mvO l nm at_ i)).map fun y => (25, y) }) (fun E => l.length - (E.num 28).toNat) _ (Gh.kb _ [1,2,8,9,26,27,28] [] [25]) ⟨0, by omega, by simp [mSlotS, mvO]⟩ ?_
    rintro E1 ⟨i, hi, rfl⟩
    simp [mSlotS]
    have hO := mvO_len l nm at_ i
    refine ⟨fun h => ⟨h, fun he => absurd he (mvK_no hk h), fun hne => ⟨fun hle hlt => ?_, fun hor => ?_⟩⟩, fun h => ?_⟩
    · have hi' : i = mvQ l nm := by
        rcases Nat.lt_or_ge i (mvQ l nm) with h5 | h5
        · have := ltB_asymm (mvQ_lt h5); rw [hlt] at this; cases this
        · omega
      refine ⟨by omega, by omega, .of _ ((Gh.kb _ [1,2,8,9,26,27,28] [] [59]).trans (Gh.rn _ 59 25)) ⟨i + 1, by omega, ?_⟩ ?_⟩
      · rw [mvO_eq hi' h]
        have hd : decide (mvQ l nm < i + 1) = true := by simp; omega
        simp [wrapS (show i < 9223372036854775807 by omega), mSlotS, eSlot, hd]
      · simp [wrapS (show i < 9223372036854775807 by omega)]; omega
    · have hi' : i ≠ mvQ l nm := fun e => by
        have h6 := ltB_tri (a := (l[i]?.getD dSlot).fName) (b := nm) (by rw [e]; exact mvQ_at (by omega)) hne
        rw [hor (by omega)] at h6; cases h6
      refine ⟨by omega, .of _ ((Gh.kb _ [1,2,8,9,26,27,28] [] [59]).trans (Gh.rn _ 59 25)) ⟨i + 1, by omega, ?_⟩ ?_⟩
      · rw [mvO_ne hi' h]
        have hd : decide (mvQ l nm < i + 1) = decide (mvQ l nm < i) := by simp; omega
        simp [wrapS (show i < 9223372036854775807 by omega), mSlotS, eSlot, hd]
      · simp [wrapS (show i < 9223372036854775807 by omega)]; omega
    · have hi' : i = l.length := by omega
      subst hi'
      refine ⟨fun hle => ?_, fun hlt => ?_⟩
      · have e : mvQ l nm = l.length := by omega
        rw [mvO_low hle, List.take_length, hm, if_pos hk, e]
        refine ⟨by omega, fun h8 => ?_, fun h8 => ?_⟩
        · rw [if_pos (by omega)]; exact ⟨rfl, rfl⟩
        · rw [if_neg (by omega)]; simp [eSlot]
      · rw [mvO_all hlt, hm, if_pos hk]
        have hl2 : (l.take (mvQ l nm) ++ ⟨nm, at_⟩ :: l.drop (mvQ l nm)).length = l.length + 1 := by simp only [List.length_append, List.length_take, List.length_cons, List.length_drop]; omega
        rw [hl2]
        refine ⟨fun h8 => ?_, fun h8 => ?_⟩
        · rw [if_pos (by omega)]; exact ⟨rfl, rfl⟩
        · rw [if_neg (by omega)]; exact ⟨rfl, rfl⟩
  · refine ew_loop (fun E => ∃ i : Nat, i ≤ l.length ∧ ((idxF (mvP nm) l).toNat < i → (l[(idxF (mvP nm) l).toNat]?.getD dSlot).fAt ≤ at_) ∧ E = { nt := 73, sl := [(1, str nm), (2, int .i64 at_), (8, .v false [.r [25]]), (9, bool (decide ((idxF (mvP nm) l).toNat < i))), (26, vSlotS l), (27, int .i64 l.length), (28, int .i64 i)], bx := [], rt := (mSlotS ((l.set (idxF (mvP nm) l).toNat ⟨(l[(idxF (mvP nm) l).toNat]?.getD dSlot).fName, at_⟩).take i)).map fun y => (25, y) }) (fun E => l.length - (E.num 28).toNat) _ (Gh.kb _ [1,2,8,9,26,27,28] [] [25]) ⟨0, by omega, by omega, by simp [mSlotS]⟩ ?_
    rintro E1 ⟨i, hi, hat, rfl⟩
    simp [mSlotS]
    obtain ⟨hkl, hkn⟩ := mvK_at hk
    rw [if_neg hk] at hm
    obtain ⟨k, ek⟩ : ∃ k, (idxF (mvP nm) l).toNat = k := ⟨_, rfl⟩
    rw [ek] at hkl hkn hm hat ⊢
    have hlo : ∀ j, j < k → Op.bytesLess (l[j]?.getD dSlot).fName.toList nm.toList = true := fun j hj => by rw [← hkn]; exact slots_lt h1 k hkl j hj
    have hhi : ∀ j, k < j → j < l.length → Op.bytesLess nm.toList (l[j]?.getD dSlot).fName.toList = true := fun j hj hjl => by rw [← hkn]; exact slots_lt h1 j hjl k hj
    have hirr : Op.bytesLess nm.toList nm.toList = false := ltB_irrefl nm
    refine ⟨fun h => ⟨h, fun he => ⟨fun ha => ?_, fun ha => ?_⟩, fun hne => ⟨fun hle hlt => ?_, fun hor => ?_⟩⟩, fun h => ?_⟩
    · have hik : i = k := by
        rcases Nat.lt_trichotomy i k with h5 | h5 | h5
        · have := hlo i h5; rw [he, hirr] at this; cases this
        · exact h5
        · have := hhi i h5 h; rw [he, hirr] at this; cases this
      subst hik
      rw [hm, if_pos ha]; exact ⟨rfl, rfl⟩
    · have hik : i = k := by
        rcases Nat.lt_trichotomy i k with h5 | h5 | h5
        · have := hlo i h5; rw [he, hirr] at this; cases this
        · exact h5
        · have := hhi i h5 h; rw [he, hirr] at this; cases this
      refine ⟨by omega, .of _ ((Gh.kb _ [1,2,8,9,26,27,28] [] [59]).trans (Gh.rn _ 59 25)) ⟨i + 1, by omega, fun _ => by rw [← hik]; exact ha, ?_⟩ ?_⟩
      · rw [mset_succ h, if_pos hik.symm]
        have hd : decide (k < i + 1) = true := by simp; omega
        simp [wrapS (show i < 9223372036854775807 by omega), wrapS (show k < 9223372036854775807 by omega), mSlotS, eSlot, hd, hik]
      · simp [wrapS (show i < 9223372036854775807 by omega)]; omega
    · exfalso
      rcases Nat.lt_or_ge i k with h5 | h5
      · have := ltB_asymm (hlo i h5); rw [hlt] at this; cases this
      · have : i = k := by omega
        subst this
        exact hne hkn
    · have hik : k ≠ i := fun e => hne (by rw [← e]; exact hkn)
      refine ⟨by omega, .of _ ((Gh.kb _ [1,2,8,9,26,27,28] [] [59]).trans (Gh.rn _ 59 25)) ⟨i + 1, by omega, fun h7 => hat (by omega), ?_⟩ ?_⟩
      · rw [mset_succ h, if_neg hik]
        have hd : decide (k < i + 1) = decide (k < i) := by simp; omega
        simp [wrapS (show i < 9223372036854775807 by omega), mSlotS, eSlot, hd]
      · simp [wrapS (show i < 9223372036854775807 by omega)]; omega
    · have hi' : i = l.length := by omega
      subst hi'
      refine ⟨fun hle => by omega, fun hlt => ⟨fun h8 => by omega, fun h8 => ?_⟩⟩
      rw [hm, if_neg (by have := hat hlt; omega)]
      simp [eSlot, List.map_set, List.take_of_length_le]
theorem slotS_r0 {l : List GSlot} (hl : l.length ≤ 9) (h : ∀ s ∈ l, s.fName.size ≤ 1048576) : (∀ n' ∈ wSlotS l, n' ≤ 1048576) ∧ (wSlotS l).sum ≤ 1099511627776 := by
  refine ⟨fun n hn => ?_, ?_⟩
  · simp only [wSlotS, List.mem_cons] at hn
    rcases hn with rfl | hn
    · omega
    · obtain ⟨s, hs, hn⟩ := List.mem_flatMap.1 hn
      have := h s hs
      simp only [wSlot, List.mem_cons, List.not_mem_nil, or_false] at hn
      omega
  · have : (l.flatMap wSlot).sum ≤ l.length * 1048576 := by
      clear hl
      induction l with
      | nil => simp
      | cons x r ih =>
        simp only [List.flatMap_cons, List.sum_append, List.length_cons, Nat.add_mul]
        have h1 := h x (by simp)
        have h2 := ih fun v hv => h v (by simp [hv])
        have h3 : (wSlot x).sum = x.fName.size := by simp [wSlot]
        omega
    simp only [wSlotS, List.sum_cons]
    omega
theorem SlotMove_r0 (l : List GSlot) (nm : ByteArray) (at_ : Int) (o0 : okSlotS l) (hs : ∀ n ∈ wSlotS l, n ≤ 1048576) (_ : (wSlotS l).sum ≤ 1048576) (o1 : okM nm.size) (h1 : nm.size ≤ 1048576) (_ : okI at_) : (∀ n' ∈ wSlotS (slotMove l nm at_).1, n' ≤ 1048576) ∧ (wSlotS (slotMove l nm at_).1).sum ≤ 1099511627776 := by
  have hn : ∀ s ∈ l, s.fName.size ≤ 1048576 := fun s h => hs _ (by simp only [wSlotS, List.mem_cons, List.mem_flatMap]; exact .inr ⟨s, h, by simp [wSlot]⟩)
  have h0 : (∀ n' ∈ wSlotS [], n' ≤ 1048576) ∧ (wSlotS []).sum ≤ 1099511627776 := slotS_r0 (by simp) (by simp)
  unfold slotMove
  split
  · exact h0
  · rename_i hok
    have hL : l.length ≤ 8 := slots_len (by
      cases h : slotsOk l with
      | true => rfl
      | false => simp [h] at hok)
    split
    · split
      · exact h0
      · refine slotS_r0 (by simp only [List.length_append, List.length_take, List.length_cons, List.length_drop]; omega) fun s h => ?_
        rcases List.mem_append.1 h with h | h
        · exact hn s (List.mem_of_mem_take h)
        · rcases List.mem_cons.1 h with rfl | h
          · exact h1
          · exact hn s (List.mem_of_mem_drop h)
    · rename_i hk
      split
      · exact h0
      · refine slotS_r0 (by rw [List.length_set]; omega) fun s h => ?_
        rcases List.mem_or_eq_of_mem_set h with h | rfl
        · exact hn s h
        · have := hn _ (getD_mem dSlot (mvK_at hk).1); exact this
-- r0 SlotMove (slotMove p0 p1 p2).1
theorem S_SlotMove_ok (l : List GSlot) (nm : ByteArray) (at_ : Int) (o0 : okSlotS l) (hs : ∀ n ∈ wSlotS l, n ≤ 1048576) (_ : (wSlotS l).sum ≤ 1048576) (o1 : okM nm.size) (h1 : nm.size ≤ 1048576) (_ : okI at_) : VC Try.prog 28 [vSlotS l, str nm, int .i64 at_] [(false, mSlotS (slotMove l nm at_).1), (false, [(.s, .sc (.int .i64 (slotMove l nm at_).2))])] := slotMoveS_ok l nm at_ o0 o1
theorem I_SlotMove_ok (l : List GSlot) (nm : ByteArray) (at_ : Int) (o0 : okSlotS l) (hs : ∀ n ∈ wSlotS l, n ≤ 1048576) (_ : (wSlotS l).sum ≤ 1048576) (o1 : okM nm.size) (h1 : nm.size ≤ 1048576) (_ : okI at_) : VC Try.prog 29 [vSlotS l, str nm, int .i64 at_] [(false, mSlotS (slotMove l nm at_).1), (false, [(.s, .sc (.int .i64 (slotMove l nm at_).2))])] := slotMoveI_ok l nm at_ o0 o1

end Go.Proofs.Ytjidbfocloocaaa
