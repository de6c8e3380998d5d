import Derived.Test.YteeolohhmfjafaaG5
/-! YteeolohhmfjafaaRow -/
namespace Go.Proofs.Yteeolohhmfjafaa
open Go Go.Proofs Go.Sm
attribute [local simp] ti eStr eInt eByte eVal cVal vVal vValS vRow eCol vCol vColS vStrS cDdl vDdl vStmt ePart vPart vPartS eBatch cBatch vBatch cTable vTable
set_option linter.unusedVariables false
set_option linter.unusedSimpArgs false
set_option maxRecDepth 8000


def veq (x y : GVal) : Bool := x.fTy == y.fTy && (x.fN == y.fN && x.fS.toList == y.fS.toList)
end Go.Proofs.Yteeolohhmfjafaa

/-! YteeolohhmfjafaaKeyOk -/
namespace Go.Proofs.Yteeolohhmfjafaa
open Go Go.Proofs Go.Sm
attribute [local simp] ti eStr eInt eByte eVal cVal vVal vValS vRow eCol vCol vColS vStrS cDdl vDdl vStmt ePart vPart vPartS eBatch cBatch vBatch cTable vTable
set_option linter.unusedVariables false
set_option linter.unusedSimpArgs false
set_option maxRecDepth 8000


end Go.Proofs.Yteeolohhmfjafaa

/-! YteeolohhmfjafaaOrd -/
namespace Go.Proofs.Yteeolohhmfjafaa
open Go Go.Proofs Go.Sm
attribute [local simp] ti eStr eInt eByte eVal cVal vVal vValS vRow eCol vCol vColS vStrS cDdl vDdl vStmt ePart vPart vPartS eBatch cBatch vBatch cTable vTable
set_option linter.unusedVariables false
set_option linter.unusedSimpArgs false
set_option maxRecDepth 8000


theorem tl_inj {x y : ByteArray} (h : x.toList = y.toList) : x = y := by
  rw [Lib.toList_data, Lib.toList_data] at h
  exact ByteArray.ext (Array.toList_inj.1 h)
theorem veq_iff (x y : GVal) : veq x y = true ↔ x = y := by
  obtain ⟨a, b, c⟩ := x
  obtain ⟨a', b', c'⟩ := y
  simp only [veq, Bool.and_eq_true, beq_iff_eq, GVal.mk.injEq]
  exact ⟨fun ⟨h1, h2, h3⟩ => ⟨h1, h2, tl_inj h3⟩, fun ⟨h1, h2, h3⟩ => ⟨h1, h2, by rw [h3]⟩⟩
theorem adj_pw {α : Type} (R : α → α → Bool) (tr : ∀ a b c, R a b = true → R b c = true → R a c = true) (d : α) : ∀ l : List α, (∀ i, i < l.length → 0 < i → R (l[i-1]?.getD d) (l[i]?.getD d) = true) ↔ l.Pairwise (fun a b => R a b = true)
  | [] => by simp
  | [x] => by
    simp only [List.length_cons, List.length_nil, List.pairwise_cons, List.not_mem_nil, false_imp_iff, implies_true, List.Pairwise.nil, and_self, iff_true]
    intro i h1 h2
    omega
  | x :: y :: l => by
    have ih := adj_pw R tr d (y :: l)
    rw [List.pairwise_cons, ← ih]
    constructor
    · intro h
      have h2 : ∀ i, i < (y :: l).length → 0 < i → R ((y :: l)[i-1]?.getD d) ((y :: l)[i]?.getD d) = true := fun i h1 h0 => by
        have := h (i + 1) (by simp only [List.length_cons] at *; omega) (by omega)
        rw [show i + 1 - 1 = (i - 1) + 1 by omega, List.getElem?_cons_succ, List.getElem?_cons_succ] at this
        exact this
      refine ⟨?_, h2⟩
      have hp := ih.1 h2
      have h01 : R x y = true := by simpa using h 1 (by simp) (by omega)
      intro z hz
      rcases List.mem_cons.1 hz with rfl | hz
      · exact h01
      · exact tr _ _ _ h01 ((List.pairwise_cons.1 hp).1 z hz)
    · rintro ⟨h1, h2⟩ i hi h0
      rcases Nat.lt_or_ge 1 i with hlt | hge
      · have := h2 (i - 1) (by simp only [List.length_cons] at *; omega) (by omega)
        obtain ⟨k, rfl⟩ : ∃ k, i = k + 2 := ⟨i - 2, by omega⟩
        simpa using this
      · have : i = 1 := by omega
        subst this
        simpa using h1 y (by simp)
theorem all_iff {α : Type} (p : α → Bool) (d : α) (l : List α) : (∀ i, i < l.length → p (l[i]?.getD d) = true) ↔ ∀ x ∈ l, p x = true := by
  constructor
  · intro h x hx
    obtain ⟨i, hi, rfl⟩ := List.getElem_of_mem hx
    simpa [List.getElem?_eq_getElem hi] using h i hi
  · intro h i hi
    exact h _ (getD_mem d hi)
end Go.Proofs.Yteeolohhmfjafaa

/-! YteeolohhmfjafaaTab -/
namespace Go.Proofs.Yteeolohhmfjafaa
open Go Go.Proofs Go.Sm
attribute [local simp] ti eStr eInt eByte eVal cVal vVal vValS vRow eCol vCol vColS vStrS cDdl vDdl vStmt ePart vPart vPartS eBatch cBatch vBatch cTable vTable
set_option linter.unusedVariables false
set_option linter.unusedSimpArgs false
set_option maxRecDepth 8000


def cnm (l : List GCol) : List ByteArray := l.map (·.fName)
def pos (l : List ByteArray) (s : ByteArray) : Nat := l.findIdx (fun x => x.toList == s.toList)
theorem tl_beq (x y : ByteArray) : (x.toList == y.toList) = true ↔ x = y := by
  simp only [beq_iff_eq]
  exact ⟨tl_inj, fun h => by rw [h]⟩
theorem pos_cons (x : ByteArray) (l : List ByteArray) (s : ByteArray) : pos (x :: l) s = if x = s then 0 else pos l s + 1 := by
  unfold pos
  rw [List.findIdx_cons]
  by_cases h : x = s
  · rw [if_pos h, (tl_beq x s).2 h]; rfl
  · rw [if_neg h, Bool.eq_false_iff.2 (fun e => h ((tl_beq x s).1 e))]; rfl
theorem pos_lt {l : List ByteArray} {s : ByteArray} (h : s ∈ l) : pos l s < l.length :=
  List.findIdx_lt_length_of_exists ⟨s, h, by simp⟩
theorem pos_get {l : List ByteArray} {s : ByteArray} (h : s ∈ l) : l[pos l s]'(pos_lt h) = s := by
  have := List.findIdx_getElem (w := pos_lt h) (p := fun x : ByteArray => x.toList == s.toList)
  exact (tl_beq _ _).1 this
theorem pos_at {l : List ByteArray} (hn : l.Nodup) {i : Nat} (hi : i < l.length) : pos l l[i] = i := by
  have h1 := pos_lt (List.getElem_mem hi)
  have h2 := pos_get (List.getElem_mem hi)
  exact (List.getElem_inj hn).1 h2
open Classical in
theorem colAt_eq (t : GTable) (s : ByteArray) : colAt t s = if s ∈ cnm t.fCols then (pos (cnm t.fCols) s : Int) else -1 := by
  have h1 : t.fCols.any (fun c : GCol => c.fName.toList == s.toList) = true ↔ s ∈ cnm t.fCols := by
    simp only [List.any_eq_true, cnm, List.mem_map, tl_beq]
  have h2 : t.fCols.findIdx (fun c : GCol => c.fName.toList == s.toList) = pos (cnm t.fCols) s := by
    unfold pos cnm
    rw [List.findIdx_map]
    rfl
  unfold colAt idxF
  rw [h2]
  by_cases h : s ∈ cnm t.fCols
  · rw [if_pos h, if_pos (h1.2 h)]
  · rw [if_neg h, if_neg (fun e => h (h1.1 e))]
theorem colAt_nn {t : GTable} {s : ByteArray} : 0 ≤ colAt t s ↔ s ∈ cnm t.fCols := by
  rw [colAt_eq]
  split <;> rename_i h <;> simp [h]
theorem colAt_toNat {t : GTable} {s : ByteArray} (h : s ∈ cnm t.fCols) : (colAt t s).toNat = pos (cnm t.fCols) s := by
  rw [colAt_eq, if_pos h]; rfl
theorem sub_pos : ∀ (l ks : List ByteArray), (∀ k ∈ ks, k ∈ l) → ks.Pairwise (fun a b => pos l a < pos l b) → ks.Sublist l
  | _, [], _, _ => List.nil_sublist _
  | [], k :: _, h, _ => by have := h k (by simp); cases this
  | x :: l, k :: ks, h, hp => by
    rw [List.pairwise_cons] at hp
    have hge : ∀ a ∈ ks, a ≠ x := fun a ha e => by
      have := hp.1 a ha
      rw [pos_cons x l a, if_pos e.symm] at this
      omega
    have hks : ∀ a ∈ ks, a ∈ l := fun a ha => by
      rcases List.mem_cons.1 (h a (by simp [ha])) with e | e
      · exact absurd e (hge a ha)
      · exact e
    have hpw : ks.Pairwise (fun a b => pos l a < pos l b) := by
      refine List.Pairwise.imp_of_mem (fun {a b} ha hb hab => ?_) hp.2
      rw [pos_cons, pos_cons, if_neg (Ne.symm (hge a ha)), if_neg (Ne.symm (hge b hb))] at hab
      omega
    by_cases hk : x = k
    · subst hk
      exact (sub_pos l ks hks hpw).cons_cons _
    · refine (sub_pos l (k :: ks) (fun a ha => ?_) ?_).cons _
      · rcases List.mem_cons.1 ha with rfl | ha
        · rcases List.mem_cons.1 (h a (by simp)) with e | e
          · exact absurd e.symm hk
          · exact e
        · exact hks a ha
      · refine List.pairwise_cons.2 ⟨fun a ha => ?_, hpw⟩
        have := hp.1 a ha
        rw [pos_cons, pos_cons, if_neg hk, if_neg (Ne.symm (hge a ha))] at this
        omega
theorem pos_sub {l ks : List ByteArray} (hn : l.Nodup) (h : ks.Sublist l) : ks.Pairwise (fun a b => pos l a < pos l b) := by
  refine List.Pairwise.sublist h (List.pairwise_iff_getElem.2 fun i j hi hj hij => ?_)
  rw [pos_at hn hi, pos_at hn hj]
  exact hij
theorem colsTo_iff (t : GTable) : colsTo t t.fCols.length = true ↔ (∀ c ∈ t.fCols, colOk c = true) ∧ (cnm t.fCols).Nodup := by
  rw [← all_iff colOk dCol t.fCols]
  simp only [colsTo, colsOkAt, List.all_eq_true, List.mem_range, Bool.and_eq_true, decide_eq_true_eq]
  have hl : (cnm t.fCols).length = t.fCols.length := by simp [cnm]
  have hg : ∀ i (hi : i < t.fCols.length), (t.fCols[i]?.getD dCol).fName = (cnm t.fCols)[i]'(by omega) := fun i hi => by simp [cnm, List.getElem?_eq_getElem hi]
  constructor
  · intro h
    refine ⟨fun i hi => (h i hi).1, List.pairwise_iff_getElem.2 fun i j hi hj hij e => ?_⟩
    have h1 := (h i (by omega)).2
    have h2 := (h j (by omega)).2
    rw [hg i (by omega)] at h1
    rw [hg j (by omega), ← e, h1] at h2
    omega
  · rintro ⟨h1, h2⟩ i hi
    refine ⟨h1 i hi, ?_⟩
    rw [hg i hi, colAt_eq, if_pos (List.getElem_mem _), pos_at h2]
theorem keysTo_iff (t : GTable) (hn : (cnm t.fCols).Nodup) : keysTo t t.fKeys.length = true ↔ t.fKeys.Sublist (cnm t.fCols) ∧ ∀ c ∈ t.fCols, c.fName ∈ t.fKeys → c.fNot = true := by
  have hl : (cnm t.fCols).length = t.fCols.length := by simp [cnm]
  simp only [keysTo, keyOkAt, List.all_eq_true, List.mem_range, Bool.and_eq_true, decide_eq_true_eq]
  have hcol : ∀ c ∈ t.fCols, t.fCols[(colAt t c.fName).toNat]?.getD dCol = c := fun c hc => by
    obtain ⟨i, hi, rfl⟩ := List.getElem_of_mem hc
    have hm : t.fCols[i].fName ∈ cnm t.fCols := List.mem_map.2 ⟨_, hc, rfl⟩
    have h2 : pos (cnm t.fCols) t.fCols[i].fName = i := by
      have := pos_at hn (i := i) (by omega)
      simpa [cnm] using this
    rw [colAt_toNat hm, h2, List.getElem?_eq_getElem hi]
    rfl
  constructor
  · intro h
    have hnn : ∀ i, i < t.fKeys.length → 0 ≤ colAt t (t.fKeys[i]?.getD ⟨#[]⟩) := fun i hi => by
      have h1 := (h i hi).1
      have h2 := lastK_ge t i
      omega
    have hmem : ∀ k ∈ t.fKeys, k ∈ cnm t.fCols := fun k hk => by
      obtain ⟨i, hi, rfl⟩ := List.getElem_of_mem hk
      have := hnn i hi
      rw [List.getElem?_eq_getElem hi] at this
      exact colAt_nn.1 this
    refine ⟨sub_pos _ _ hmem ?_, fun c hc hk => ?_⟩
    · have h1 := (adj_pw (fun a b => decide (colAt t a < colAt t b)) (fun a b c h1 h2 => by simp only [decide_eq_true_eq] at *; omega) (⟨#[]⟩ : ByteArray) t.fKeys).1 (fun i hi h0 => by
        have := (h i hi).1
        rw [lastK, if_neg (by omega)] at this
        simpa using this)
      refine List.Pairwise.imp_of_mem (fun {a b} ha hb hab => ?_) h1
      rw [decide_eq_true_eq, colAt_eq, colAt_eq, if_pos (hmem a ha), if_pos (hmem b hb)] at hab
      omega
    · obtain ⟨i, hi, he⟩ := List.getElem_of_mem hk
      have := (h i hi).2
      rw [List.getElem?_eq_getElem hi, Option.getD_some, he, hcol c hc] at this
      exact this
  · rintro ⟨hs, hnot⟩ i hi
    have hmem : ∀ k ∈ t.fKeys, k ∈ cnm t.fCols := fun k hk => hs.subset hk
    have hki : t.fKeys[i]?.getD ⟨#[]⟩ ∈ t.fKeys := getD_mem _ hi
    refine ⟨?_, ?_⟩
    · unfold lastK
      split
      · have := colAt_nn.2 (hmem _ hki)
        omega
      · have hkj : t.fKeys[i-1]?.getD ⟨#[]⟩ ∈ t.fKeys := getD_mem _ (by omega)
        have h1 := List.pairwise_iff_getElem.1 (pos_sub hn hs) (i - 1) i (by omega) hi (by omega)
        rw [colAt_eq, colAt_eq, if_pos (hmem _ hki), if_pos (hmem _ hkj), List.getElem?_eq_getElem hi, List.getElem?_eq_getElem (show i - 1 < t.fKeys.length by omega)]
        simp only [Option.getD_some]
        omega
    · obtain ⟨c, hc, he⟩ := List.mem_map.1 (hmem _ hki)
      have := hnot c hc (by rw [he]; exact hki)
      rw [← he, hcol c hc]
      exact this
theorem tableOk_iff (t : GTable) : tableOk t = true ↔ wordOk t.fName = true ∧ 1 ≤ t.fCols.length ∧ t.fCols.length ≤ 8 ∧ t.fKeys ≠ [] ∧ (∀ c ∈ t.fCols, colOk c = true) ∧ (cnm t.fCols).Nodup ∧ t.fKeys.Sublist (cnm t.fCols) ∧ ∀ c ∈ t.fCols, c.fName ∈ t.fKeys → c.fNot = true := by
  simp only [tableOk, within, Bool.and_eq_true, decide_eq_true_eq, colsTo_iff]
  constructor
  · rintro ⟨⟨h1, h2, h3⟩, ⟨h4, h5⟩, h6⟩
    refine ⟨h1, by omega, by omega, fun e => by simp [e] at h3, h4, h5, (keysTo_iff t h5).1 h6⟩
  · rintro ⟨h1, h2, h3, h4, h5, h6, h7⟩
    refine ⟨⟨h1, by omega, List.length_pos_iff.2 h4⟩, ⟨h5, h6⟩, (keysTo_iff t h6).2 h7⟩
end Go.Proofs.Yteeolohhmfjafaa

/-! YteeolohhmfjafaaInj -/
namespace Go.Proofs.Yteeolohhmfjafaa
open Go Go.Proofs Go.Sm
attribute [local simp] ti eStr eInt eByte eVal cVal vVal vValS vRow eCol vCol vColS vStrS cDdl vDdl vStmt ePart vPart vPartS eBatch cBatch vBatch cTable vTable
set_option linter.unusedVariables false
set_option linter.unusedSimpArgs false
set_option maxRecDepth 8000


def cutL (b : UInt8) : List UInt8 → List (List UInt8)
  | [] => [[]]
  | x :: r => if x = b then [] :: cutL b r else match cutL b r with
    | [] => [[x]]
    | w :: ws => (x :: w) :: ws
theorem cutL_word {b : UInt8} : ∀ {w : List UInt8}, b ∉ w → ∀ r, cutL b (w ++ b :: r) = w :: cutL b r
  | [], _, r => by simp [cutL]
  | x :: w, h, r => by
    simp only [List.mem_cons, not_or] at h
    rw [List.cons_append, cutL, if_neg (fun e => h.1 e.symm), cutL_word h.2 r]
theorem cutL_one {b : UInt8} : ∀ {w : List UInt8}, b ∉ w → cutL b w = [w]
  | [], _ => rfl
  | x :: w, h => by
    simp only [List.mem_cons, not_or] at h
    rw [cutL, if_neg (fun e => h.1 e.symm), cutL_one h.2]
theorem cutL_join : ∀ {w : List UInt8} {l : List (List UInt8)}, (∀ x ∈ w :: l, (32 : UInt8) ∉ x) → cutL 32 (joinT (w :: l)) = w :: l
  | w, [], h => by
    simp only [joinT, List.flatMap_nil, List.append_nil]
    exact cutL_one (h w (by simp))
  | w, a :: l, h => by
    have h1 : joinT (w :: a :: l) = w ++ 32 :: joinT (a :: l) := by simp [joinT]
    rw [h1, cutL_word (h w (by simp)), cutL_join fun x hx => h x (List.mem_cons_of_mem _ hx)]
/-- Words without blanks, put together with blanks between, are read again. -/
theorem wsT_inj {l m : List ByteArray} (hl : l ≠ []) (hm : m ≠ []) (h1 : ∀ w ∈ l, (32 : UInt8) ∉ tx w) (h2 : ∀ w ∈ m, (32 : UInt8) ∉ tx w) (h : wsT l = wsT m) : l = m := by
  have key : ∀ {l : List ByteArray}, l ≠ [] → (∀ w ∈ l, (32 : UInt8) ∉ tx w) → cutL 32 (wsT l) = l.map tx := fun {l} hl h1 => by
    match l, hl with
    | w :: r, _ =>
      unfold wsT
      rw [List.map_cons]
      refine cutL_join fun x hx => ?_
      rw [← List.map_cons] at hx
      obtain ⟨y, hy, rfl⟩ := List.mem_map.1 hx
      exact h1 y hy
  have e : l.map tx = m.map tx := by rw [← key hl h1, ← key hm h2, h]
  exact (List.map_inj_right fun x y e => tx_ext e).1 e
def digV (l : List UInt8) : Nat := l.foldl (fun n b => n * 10 + (b.toNat - 48)) 0
theorem digV_digs (n : Nat) : digV (digs n) = n := by
  induction n using Nat.strongRecOn with
  | ind n ih =>
    by_cases h : n < 10
    · rw [digs_lt h]
      simp [digV]
      omega
    · rw [digs_ge (by omega)]
      have h1 := ih (n / 10) (by omega)
      unfold digV at h1 ⊢
      rw [List.foldl_append, h1]
      simp
      omega
theorem digs_mem (n : Nat) : ∀ b ∈ digs n, 48 ≤ b.toNat ∧ b.toNat ≤ 57 := by
  induction n using Nat.strongRecOn with
  | ind n ih =>
    by_cases h : n < 10
    · rw [digs_lt h]
      intro b hb
      obtain rfl := List.mem_singleton.1 hb
      simp
      omega
    · rw [digs_ge (by omega)]
      intro b hb
      rcases List.mem_append.1 hb with hb | hb
      · exact ih (n / 10) (by omega) b hb
      · obtain rfl := List.mem_singleton.1 hb
        simp
        omega
theorem digs_inj {a b : Nat} (h : digs a = digs b) : a = b := by rw [← digV_digs a, h, digV_digs]
theorem numT_inj {a b : Int} (ha : inN a = true) (hb : inN b = true) (h : numT a = numT b) : a = b := by
  have hd : ∀ n m : Nat, 45 :: digs n ≠ digs m := fun n m e => by
    have := digs_mem m 45 (by rw [← e]; simp)
    have e2 : (45 : UInt8).toNat = 45 := rfl
    omega
  unfold numT at h
  rw [if_pos ha, if_pos hb] at h
  by_cases h1 : a < 0 <;> by_cases h2 : b < 0
  · rw [if_pos h1, if_pos h2] at h
    have := digs_inj (List.cons.inj h).2
    omega
  · rw [if_pos h1, if_neg h2] at h
    exact absurd h (hd _ _)
  · rw [if_neg h1, if_pos h2] at h
    exact absurd h.symm (hd _ _)
  · rw [if_neg h1, if_neg h2] at h
    have := digs_inj h
    omega
theorem numT_mem (n : Int) : ∀ b ∈ numT n, b = 45 ∨ (48 ≤ b.toNat ∧ b.toNat ≤ 57) := fun b hb => by
  unfold numT at hb
  split at hb
  · split at hb
    · rcases List.mem_cons.1 hb with h | h
      · exact .inl h
      · exact .inr (digs_mem _ b h)
    · exact .inr (digs_mem _ b hb)
  · simp at hb
theorem hexB_inj (a b : Nat) (ha : a < 16) (hb : b < 16) (h : hexB a = hexB b) : a = b := by
  have key : ∀ x y : Fin 16, hexB x.val = hexB y.val → x = y := by decide
  have := key ⟨a, ha⟩ ⟨b, hb⟩ h
  injection this
theorem hexB_mem (a : Nat) (ha : a < 16) : 48 ≤ (hexB a).toNat ∧ (hexB a).toNat ≤ 102 := by
  have key : ∀ x : Fin 16, 48 ≤ (hexB x.val).toNat ∧ (hexB x.val).toNat ≤ 102 := by decide
  exact key ⟨a, ha⟩
theorem escB_inj {a b : UInt8} {l m : List UInt8} (h : escB a ++ l = escB b ++ m) : a = b ∧ l = m := by
  have hp : ∀ x : UInt8, plainB x = true → x ≠ 37 := fun x hx e => by
    subst e
    exact absurd hx (by decide)
  have hlt : ∀ x : UInt8, x.toNat < 256 := fun x => x.toNat_lt
  unfold escB at h
  split at h <;> split at h
  · simpa using h
  · rename_i h1 h2
    simp only [List.cons_append, List.nil_append, List.cons.injEq] at h
    exact absurd h.1 (hp a h1)
  · rename_i h1 h2
    simp only [List.cons_append, List.nil_append, List.cons.injEq] at h
    exact absurd h.1.symm (hp b h2)
  · simp only [List.cons_append, List.nil_append, List.cons.injEq, true_and] at h
    obtain ⟨h1, h2, h3⟩ := h
    have e1 := hexB_inj _ _ (by have := hlt a; omega) (by have := hlt b; omega) h1
    have e2 := hexB_inj _ _ (by omega) (by omega) h2
    exact ⟨UInt8.toNat_inj.1 (by omega), h3⟩
theorem escB_ne (a : UInt8) : escB a ≠ [] := by
  unfold escB
  split <;> simp
theorem escT_inj : ∀ {l m : List UInt8}, escT l = escT m → l = m
  | [], [], _ => rfl
  | [], b :: m, h => by
    simp only [escT, List.flatMap_nil, List.flatMap_cons] at h
    exact absurd (List.append_eq_nil_iff.1 h.symm).1 (escB_ne b)
  | a :: l, [], h => by
    simp only [escT, List.flatMap_nil, List.flatMap_cons] at h
    exact absurd (List.append_eq_nil_iff.1 h).1 (escB_ne a)
  | a :: l, b :: m, h => by
    simp only [escT, List.flatMap_cons] at h
    obtain ⟨h1, h2⟩ := escB_inj h
    rw [h1, escT_inj h2]
theorem escB_mem (a : UInt8) : ∀ b ∈ escB a, 33 ≤ b.toNat ∧ b.toNat ≤ 126 := fun b hb => by
  unfold escB at hb
  split at hb
  · rename_i h
    obtain rfl := List.mem_singleton.1 hb
    have := (plainB_iff b).1 h
    omega
  · have hlt := a.toNat_lt
    have h1 := hexB_mem (a.toNat / 16) (by omega)
    have h2 := hexB_mem (a.toNat % 16) (by omega)
    simp only [List.mem_cons, List.not_mem_nil, or_false] at hb
    rcases hb with rfl | rfl | rfl
    · decide
    · omega
    · omega
theorem escT_mem {l : List UInt8} : ∀ b ∈ escT l, 33 ≤ b.toNat ∧ b.toNat ≤ 126 := fun b hb => by
  obtain ⟨a, _, h⟩ := List.mem_flatMap.1 hb
  exact escB_mem a b h
theorem em_nil {s : ByteArray} (h : em s = true) : s = ⟨#[]⟩ := by
  unfold em at h
  rw [List.isEmpty_iff, Lib.toList_data] at h
  obtain ⟨a⟩ := s
  have h : a.toList = [] := h
  rw [Array.toList_eq_nil_iff] at h
  rw [h]
/-- The five kinds of a right value's text. -/
theorem valT_k {v : GVal} (h : valOk v = true) : (v = ⟨0, 0, ⟨#[]⟩⟩ ∧ valT v = [110, 117, 108, 108]) ∨ (v = ⟨1, 1, ⟨#[]⟩⟩ ∧ valT v = [116, 114, 117, 101]) ∨ (v = ⟨1, 0, ⟨#[]⟩⟩ ∧ valT v = [102, 97, 108, 115, 101]) ∨ (v.fTy = 2 ∧ v.fS = ⟨#[]⟩ ∧ inN v.fN = true ∧ valT v = numT v.fN) ∨ (v.fTy = 3 ∧ v.fN = 0 ∧ valT v = 39 :: (escT (tx v.fS) ++ [39])) := by
  have h' := h
  simp only [valOk, Bool.or_eq_true, Bool.and_eq_true, decide_eq_true_eq] at h'
  unfold valT
  rw [if_neg (by simp [h])]
  obtain ⟨ty, n, s⟩ := v
  simp only at h' ⊢
  rcases h' with ((⟨h1, h2, h3⟩ | ⟨h1, h2, h3⟩) | ⟨h1, h2, h3⟩) | ⟨h1, h2, h3⟩
  · subst h1 h2
    left
    rw [em_nil h3]
    simp
  · subst h1
    rw [em_nil h3]
    rcases h2 with rfl | rfl
    · right; right; left; simp [boolT]
    · right; left; simp [boolT]
  · subst h1
    right; right; right; left
    exact ⟨rfl, em_nil h3, h2, by simp⟩
  · subst h1 h2
    right; right; right; right
    exact ⟨rfl, rfl, by simp⟩
/-- A value's text: what stands first tells its kind. -/
theorem valT_inj {v w : GVal} (hv : valOk v = true) (hw : valOk w = true) (h : valT v = valT w) : v = w := by
  have hn : ∀ (n : Int) (b : UInt8) (r : List UInt8), numT n = b :: r → b = 45 ∨ (48 ≤ b.toNat ∧ b.toNat ≤ 57) := fun n b r e => numT_mem n b (by rw [e]; simp)
  have no : ∀ (n : Int) (b : UInt8) (r : List UInt8), (b = 110 ∨ b = 116 ∨ b = 102 ∨ b = 39) → numT n ≠ b :: r := fun n b r hb e => by
    have := hn n b r e
    rcases hb with rfl | rfl | rfl | rfl <;> revert this <;> decide
  rcases valT_k hv with ⟨a1, a2⟩ | ⟨a1, a2⟩ | ⟨a1, a2⟩ | ⟨a1, a2, a3, a4⟩ | ⟨a1, a2, a3⟩ <;> rcases valT_k hw with ⟨b1, b2⟩ | ⟨b1, b2⟩ | ⟨b1, b2⟩ | ⟨b1, b2, b3, b4⟩ | ⟨b1, b2, b3⟩
  case inl.inl | inr.inl.inr.inl | inr.inr.inl.inr.inr.inl => rw [a1, b1]
  case inr.inr.inr.inl.inr.inr.inr.inl =>
    have := numT_inj a3 b3 (by rw [← a4, ← b4, h])
    cases v; cases w
    simp_all
  case inr.inr.inr.inr.inr.inr.inr.inr =>
    rw [a3, b3] at h
    have e := escT_inj (List.append_cancel_right (List.cons.inj h).2)
    have e2 := tx_ext e
    cases v; cases w
    simp_all
  all_goals
    first
    | (rw [a2, b2] at h; exact absurd h (by decide))
    | (rw [a2, b4] at h; exact absurd h.symm (no _ _ _ (by decide)))
    | (rw [a4, b2] at h; exact absurd h (no _ _ _ (by decide)))
    | (rw [a4, b3] at h; exact absurd h (no _ _ _ (by decide)))
    | (rw [a3, b4] at h; exact absurd h.symm (no _ _ _ (by decide)))
    | (rw [a2, b3] at h; exact absurd (List.cons.inj h).1 (by decide))
    | (rw [a3, b2] at h; exact absurd (List.cons.inj h).1 (by decide))
theorem valT_32 (v : GVal) : (32 : UInt8) ∉ valT v := fun h => by
  cases hv : valOk v with
  | false => unfold valT at h; rw [if_pos hv] at h; simp at h
  | true =>
    rcases valT_k hv with ⟨a1, a2⟩ | ⟨a1, a2⟩ | ⟨a1, a2⟩ | ⟨a1, a2, a3, a4⟩ | ⟨a1, a2, a3⟩
    · rw [a2] at h; revert h; decide
    · rw [a2] at h; revert h; decide
    · rw [a2] at h; revert h; decide
    · rw [a4] at h
      have := numT_mem _ _ h
      revert this; decide
    · rw [a3] at h
      simp only [List.mem_cons, List.mem_append, List.not_mem_nil, or_false] at h
      rcases h with h | h | h
      · revert h; decide
      · have := escT_mem _ h
        revert this; decide
      · revert h; decide
theorem word_32 {s : ByteArray} (h : wordOk s = true) : ∀ b ∈ tx s, 97 ≤ b.toNat ∧ b.toNat ≤ 122 := fun b hb => by
  simp only [wordOk, lettersTo, Bool.and_eq_true, List.all_eq_true, List.mem_range] at h
  obtain ⟨i, hi, rfl⟩ := List.getElem_of_mem hb
  have hi' : i < s.size := by rw [← tx_len]; exact hi
  have := h.1 i hi'
  rw [letter_iff] at this
  have e : byteAt s i = ((tx s)[i].toNat : Int) := by
    have h2 : i < s.data.toList.length := hi
    have h3 : s.data[i]? = some s.data.toList[i] := by
      rw [← Array.getElem?_toList, List.getElem?_eq_getElem h2]
    unfold byteAt
    rw [h3]
    rfl
  rw [e] at this
  omega
theorem word_no {s : ByteArray} (h : wordOk s = true) {b : UInt8} (hb : b.toNat < 97) : b ∉ tx s := fun hm => by
  have := word_32 h b hm
  omega
theorem tyT_inj {a b : Int} (ha : 1 ≤ a ∧ a ≤ 3) (hb : 1 ≤ b ∧ b ≤ 3) (h : tyT a = tyT b) : a = b := by
  have h1 : a = 1 ∨ a = 2 ∨ a = 3 := by omega
  have h2 : b = 1 ∨ b = 2 ∨ b = 3 := by omega
  have h' := congrArg tx h
  rcases h1 with rfl | rfl | rfl <;> rcases h2 with rfl | rfl | rfl <;> first | rfl | (exact absurd h' (by decide))
theorem tyT_mem (a : Int) : ∀ b ∈ tx (tyT a), 97 ≤ b.toNat ∧ b.toNat ≤ 122 := by
  unfold tyT
  split
  · decide
  split
  · decide
  split
  · decide
  · decide
theorem colOk_n {c : GCol} (h : colOk c = true) : wordOk c.fName = true ∧ (1 ≤ c.fTy ∧ c.fTy ≤ 3) ∧ (c.fHas = true → valOk c.fDef = true) ∧ (c.fHas = false → c.fDef = dVal) := by
  simp only [colOk, within, Bool.and_eq_true, decide_eq_true_eq] at h
  refine ⟨h.1.1, h.1.2, fun e => ?_, fun e => ?_⟩
  · have := h.2
    rw [if_pos e] at this
    simp only [Bool.and_eq_true] at this
    exact this.1
  · have := h.2
    rw [if_neg (by simp [e])] at this
    simp only [nullV, Bool.and_eq_true, decide_eq_true_eq] at this
    obtain ⟨q1, q2, q3⟩ := this
    have q3 := em_nil q3
    cases hc : c.fDef
    rw [hc] at q1 q2 q3
    simp_all [dVal]
theorem colW_mem {c : GCol} (h : colOk c = true) : ∀ w ∈ colW c, ∀ b ∈ tx w, 33 ≤ b.toNat := fun w hw b hb => by
  have K1 : ∀ b ∈ ([110, 117, 108, 108] : List UInt8), 33 ≤ b.toNat := by decide
  have K2 : ∀ b ∈ ([116, 114, 117, 101] : List UInt8), 33 ≤ b.toNat := by decide
  have K3 : ∀ b ∈ ([102, 97, 108, 115, 101] : List UInt8), 33 ≤ b.toNat := by decide
  obtain ⟨h1, h2, h3, h4⟩ := colOk_n h
  simp only [colW, List.mem_append, List.mem_cons, List.not_mem_nil, or_false] at hw
  rcases hw with (hw | hw) | hw
  · rcases hw with rfl | rfl
    · have := word_32 h1 b hb; omega
    · have := tyT_mem _ b hb; omega
  · split at hw
    · obtain rfl := List.mem_singleton.1 hw
      revert b; decide
    · cases hw
  · split at hw
    · rename_i hh
      obtain rfl := List.mem_singleton.1 hw
      rw [tx_ofT] at hb
      rcases List.mem_cons.1 hb with rfl | hb
      · decide
      · rcases valT_k (h3 hh) with ⟨a1, a2⟩ | ⟨a1, a2⟩ | ⟨a1, a2⟩ | ⟨a1, a2, a3, a4⟩ | ⟨a1, a2, a3⟩
        · rw [a2] at hb; exact K1 b hb
        · rw [a2] at hb; exact K2 b hb
        · rw [a2] at hb; exact K3 b hb
        · rw [a4] at hb
          rcases numT_mem _ _ hb with rfl | h
          · decide
          · omega
        · rw [a3] at hb
          simp only [List.mem_cons, List.mem_append, List.not_mem_nil, or_false] at hb
          rcases hb with rfl | hb | rfl
          · decide
          · exact (escT_mem _ hb).1
          · decide
    · cases hw
theorem tx_eq {a b : ByteArray} (h : a = b) : tx a = tx b := by rw [h]
theorem colW_41 {c : GCol} (h : colOk c = true) : b41 ∉ colW c := fun hm => by
  obtain ⟨h1, h2, h3, h4⟩ := colOk_n h
  simp only [colW, List.mem_append, List.mem_cons, List.not_mem_nil, or_false] at hm
  have e : tx b41 = [41] := rfl
  rcases hm with (hm | hm) | hm
  · rcases hm with hm | hm
    · have := word_32 h1 41 (by rw [← hm, e]; simp)
      revert this; decide
    · have := tyT_mem c.fTy 41 (by rw [← hm, e]; simp)
      revert this; decide
  · split at hm
    · exact absurd (tx_eq (List.mem_singleton.1 hm)) (by decide)
    · cases hm
  · split at hm
    · have := tx_eq (List.mem_singleton.1 hm)
      rw [tx_ofT, e] at this
      exact absurd (List.cons.inj this).1 (by decide)
    · cases hm
theorem colW_inj {c d : GCol} (hc : colOk c = true) (hd : colOk d = true) (h : colW c = colW d) : c = d := by
  obtain ⟨c1, c2, c3, c4⟩ := colOk_n hc
  obtain ⟨d1, d2, d3, d4⟩ := colOk_n hd
  simp only [colW, List.cons_append, List.nil_append, List.cons.injEq] at h
  obtain ⟨e1, e2, e3⟩ := h
  have e2 := tyT_inj c2 d2 e2
  have hno : ∀ (x : List UInt8), (⟨#[110, 111, 116]⟩ : ByteArray) ≠ ofT (61 :: x) := fun x e => by
    have := tx_eq e
    rw [tx_ofT] at this
    exact absurd (List.cons.inj this).1 (by decide)
  have hof : ∀ x y : List UInt8, ofT x = ofT y → x = y := fun x y e => by
    have := tx_eq e
    rwa [tx_ofT, tx_ofT] at this
  have key : c.fNot = d.fNot ∧ c.fHas = d.fHas ∧ c.fDef = d.fDef := by
    cases a1 : c.fNot <;> cases a2 : d.fNot <;> cases a3 : c.fHas <;> cases a4 : d.fHas <;> simp only [a1, a2, a3, a4, if_true, if_false, Bool.false_eq_true, List.nil_append, List.append_nil, List.cons_append, List.cons.injEq, and_true, reduceCtorEq, true_and, and_false, List.cons_ne_nil, List.nil_eq, List.ne_cons_self] at e3
    all_goals first
      | exact e3.elim
      | exact absurd e3.symm (hno _)
      | exact absurd e3 (hno _)
      | exact absurd e3.1.symm (hno _)
      | exact absurd e3.1 (hno _)
      | exact ⟨rfl, rfl, by rw [c4 a3, d4 a4]⟩
      | exact ⟨rfl, rfl, valT_inj (c3 a3) (d3 a4) (List.cons.inj (hof _ _ e3)).2⟩
  obtain ⟨k1, k2, k3⟩ := key
  cases c; cases d
  simp_all
theorem app_inj {α : Type} {x : α} : ∀ {a b r s : List α}, x ∉ a → x ∉ b → a ++ x :: r = b ++ x :: s → a = b ∧ r = s
  | [], [], _, _, _, _, h => ⟨rfl, (List.cons.inj h).2⟩
  | [], y :: b, _, _, _, hb, h => by
    rw [List.nil_append, List.cons_append] at h
    exact absurd (by rw [← (List.cons.inj h).1]; simp) hb
  | y :: a, [], _, _, ha, _, h => by
    rw [List.nil_append, List.cons_append] at h
    exact absurd (by rw [(List.cons.inj h).1]; simp) ha
  | y :: a, z :: b, r, s, ha, hb, h => by
    simp only [List.mem_cons, not_or] at ha hb
    obtain ⟨e1, e2⟩ := List.cons.inj h
    obtain ⟨e3, e4⟩ := app_inj ha.2 hb.2 e2
    exact ⟨by rw [e1, e3], e4⟩
theorem colsW_inj : ∀ {l m : List GCol} {k k' : List ByteArray}, (∀ c ∈ l, colOk c = true) → (∀ c ∈ m, colOk c = true) → colsW l ++ bKey :: k = colsW m ++ bKey :: k' → l = m ∧ k = k'
  | [], [], _, _, _, _, h => ⟨rfl, (List.cons.inj h).2⟩
  | [], d :: m, _, _, _, _, h => by
    simp only [colsW, List.flatMap_nil, List.nil_append, List.flatMap_cons, List.cons_append] at h
    exact absurd (tx_eq (List.cons.inj h).1) (by decide)
  | c :: l, [], _, _, _, _, h => by
    simp only [colsW, List.flatMap_nil, List.nil_append, List.flatMap_cons, List.cons_append] at h
    exact absurd (tx_eq (List.cons.inj h).1) (by decide)
  | c :: l, d :: m, k, k', hl, hm, h => by
    simp only [colsW, List.flatMap_cons, List.cons_append, List.append_assoc, List.nil_append] at h
    obtain ⟨e1, e2⟩ := app_inj (colW_41 (hl c (by simp))) (colW_41 (hm d (by simp))) (List.cons.inj h).2
    obtain ⟨e3, e4⟩ := colsW_inj (fun c hc => hl c (List.mem_cons_of_mem _ hc)) (fun c hc => hm c (List.mem_cons_of_mem _ hc)) e2
    exact ⟨by rw [colW_inj (hl c (by simp)) (hm d (by simp)) e1, e3], e4⟩
theorem ddl_plain {d : GDdl} (h : ddlOk d = true) : (d.fKind = 1 → (∀ c ∈ d.fCols, colOk c = true) ∧ (∀ k ∈ d.fKeys, wordOk k = true) ∧ d.fName = ⟨#[]⟩ ∧ d.fTo = ⟨#[]⟩) ∧ (d.fKind = 2 → d.fCols = [] ∧ d.fKeys = [] ∧ d.fName = ⟨#[]⟩ ∧ d.fTo = ⟨#[]⟩) ∧ (d.fKind = 3 → ∃ c, d.fCols = [c] ∧ colOk c = true ∧ d.fKeys = [] ∧ d.fName = ⟨#[]⟩ ∧ d.fTo = ⟨#[]⟩) ∧ (d.fKind = 4 → d.fCols = [] ∧ d.fKeys = [] ∧ wordOk d.fName = true ∧ d.fTo = ⟨#[]⟩) ∧ (d.fKind = 5 → d.fCols = [] ∧ d.fKeys = [] ∧ wordOk d.fName = true ∧ wordOk d.fTo = true) := by
  simp only [ddlOk, plain, addOk, Bool.and_eq_true, Bool.or_eq_true, decide_eq_true_eq, List.isEmpty_iff] at h
  obtain ⟨_, h⟩ := h
  refine ⟨fun k => ?_, fun k => ?_, fun k => ?_, fun k => ?_, fun k => ?_⟩
  · rcases h with (((h | h) | h) | h) | h
    · obtain ⟨_, h1, h2, h3⟩ := h
      obtain ⟨t1, t2, t3, t4, t5, t6, t7, t8⟩ := (tableOk_iff _).1 h1
      refine ⟨t5, fun k hk => ?_, em_nil h2, em_nil h3⟩
      obtain ⟨c, hc, rfl⟩ := List.mem_map.1 (t7.mem hk)
      exact (colOk_n (t5 c hc)).1
    · exact absurd h.1 (by omega)
    · exact absurd h.1 (by omega)
    · exact absurd h.1 (by omega)
    · exact absurd h.1 (by omega)
  · rcases h with (((h | h) | h) | h) | h
    · exact absurd h.1 (by omega)
    · exact ⟨h.2.1.1, h.2.1.2, em_nil h.2.2.1, em_nil h.2.2.2⟩
    · exact absurd h.1 (by omega)
    · exact absurd h.1 (by omega)
    · exact absurd h.1 (by omega)
  · rcases h with (((h | h) | h) | h) | h
    · exact absurd h.1 (by omega)
    · exact absurd h.1 (by omega)
    · obtain ⟨_, ⟨h1, h2, _⟩, h3, h4, h5⟩ := h
      obtain ⟨c, hc⟩ : ∃ c, d.fCols = [c] := List.length_eq_one_iff.1 (by omega)
      refine ⟨c, hc, ?_, h3, em_nil h4, em_nil h5⟩
      rw [hc] at h2
      simpa using h2
    · exact absurd h.1 (by omega)
    · exact absurd h.1 (by omega)
  · rcases h with (((h | h) | h) | h) | h
    · exact absurd h.1 (by omega)
    · exact absurd h.1 (by omega)
    · exact absurd h.1 (by omega)
    · exact ⟨h.2.1.1, h.2.1.2, h.2.2.1, em_nil h.2.2.2⟩
    · exact absurd h.1 (by omega)
  · rcases h with (((h | h) | h) | h) | h
    · exact absurd h.1 (by omega)
    · exact absurd h.1 (by omega)
    · exact absurd h.1 (by omega)
    · exact absurd h.1 (by omega)
    · exact ⟨h.2.1.1, h.2.1.2, h.2.2.1, h.2.2.2⟩
theorem ddlW_mem {d : GDdl} (h : ddlOk d = true) : ∀ w ∈ ddlW d, ∀ b ∈ tx w, 33 ≤ b.toNat := fun w hw b hb => by
  have hk := ddl_kind h
  obtain ⟨p1, p2, p3, p4, p5⟩ := ddl_plain h
  have hwd := ddlOk_word h
  have hL : ∀ k : Nat, ∀ b ∈ tx (ddlL[k]?.getD ⟨#[]⟩), 33 ≤ b.toNat := fun k => by
    match k with
    | 0 => decide
    | 1 => decide
    | 2 => decide
    | 3 => decide
    | 4 => decide
    | 5 => decide
    | k + 6 => simp [ddlL, tx]
  have hword : ∀ s : ByteArray, wordOk s = true → ∀ b ∈ tx s, 33 ≤ b.toNat := fun s hs b hb => by have := word_32 hs b hb; omega
  simp only [ddlW, List.mem_append, List.mem_cons, List.not_mem_nil, or_false] at hw
  rcases hw with (rfl | rfl) | hw
  · exact hL _ b hb
  · exact hword _ hwd b hb
  · split at hw
    · rename_i k
      rcases List.mem_append.1 hw with hw | hw
      · obtain ⟨c, hc, hw⟩ := List.mem_flatMap.1 hw
        simp only [List.mem_cons, List.mem_append, List.not_mem_nil, or_false] at hw
        rcases hw with rfl | hw | rfl
        · revert b; decide
        · exact colW_mem ((p1 k).1 c hc) w hw b hb
        · revert b; decide
      · rcases List.mem_cons.1 hw with rfl | hw
        · revert b; decide
        · exact hword _ ((p1 k).2.1 w hw) b hb
    split at hw
    · rename_i k
      obtain ⟨c, hc, q, _⟩ := p3 k
      rw [hc] at hw
      exact colW_mem q w hw b hb
    split at hw
    · rename_i k
      obtain rfl := List.mem_singleton.1 hw
      exact hword _ (p4 k).2.2.1 b hb
    split at hw
    · rename_i k
      simp only [List.mem_cons, List.not_mem_nil, or_false] at hw
      rcases hw with rfl | rfl
      · exact hword _ (p5 k).2.2.1 b hb
      · exact hword _ (p5 k).2.2.2 b hb
    · cases hw
theorem ddlW_inj {d e : GDdl} (hd : ddlOk d = true) (he : ddlOk e = true) (h : ddlW d = ddlW e) : d = e := by
  have kd := ddl_kind hd
  have ke := ddl_kind he
  obtain ⟨d1, d2, d3, d4, d5⟩ := ddl_plain hd
  obtain ⟨e1, e2, e3, e4, e5⟩ := ddl_plain he
  unfold ddlW at h
  simp only [List.cons_append, List.nil_append, List.cons.injEq] at h
  obtain ⟨h1, h2, h3⟩ := h
  have hk : d.fKind = e.fKind := by
    have h1 := tx_eq h1
    rcases kd with k | k | k | k | k <;> rcases ke with k' | k' | k' | k' | k' <;> rw [k, k'] at h1 ⊢ <;> exact absurd h1 (by decide)
  rw [← hk] at h3
  rcases kd with k | k | k | k | k
  · rw [if_pos k, if_pos k] at h3
    obtain ⟨a1, a2, a3, a4⟩ := d1 k
    obtain ⟨b1, b2, b3, b4⟩ := e1 (hk ▸ k)
    obtain ⟨q1, q2⟩ := colsW_inj a1 b1 h3
    cases d; cases e
    simp_all
  · obtain ⟨a1, a2, a3, a4⟩ := d2 k
    obtain ⟨b1, b2, b3, b4⟩ := e2 (hk ▸ k)
    cases d; cases e
    simp_all
  · rw [if_neg (by omega), if_pos k, if_neg (by omega), if_pos k] at h3
    obtain ⟨c, a1, a2, a3, a4, a5⟩ := d3 k
    obtain ⟨c', b1, b2, b3, b4, b5⟩ := e3 (hk ▸ k)
    rw [a1, b1] at h3
    have := colW_inj a2 b2 h3
    cases d; cases e
    simp_all
  · rw [if_neg (by omega), if_neg (by omega), if_pos k, if_neg (by omega), if_neg (by omega), if_pos k] at h3
    obtain ⟨a1, a2, a3, a4⟩ := d4 k
    obtain ⟨b1, b2, b3, b4⟩ := e4 (hk ▸ k)
    cases d; cases e
    simp_all
  · rw [if_neg (by omega), if_neg (by omega), if_neg (by omega), if_pos k, if_neg (by omega), if_neg (by omega), if_neg (by omega), if_pos k] at h3
    obtain ⟨a1, a2, a3, a4⟩ := d5 k
    obtain ⟨b1, b2, b3, b4⟩ := e5 (hk ▸ k)
    cases d; cases e
    simp_all
theorem valsOk_all {l : List GVal} (h : valsOk l = true) : l ≠ [] ∧ ∀ v ∈ l, valOk v = true := by
  simp only [valsOk, within, Bool.and_eq_true, decide_eq_true_eq, Bool.not_eq_true', List.any_eq_false, Bool.not_eq_true] at h
  refine ⟨fun e => by subst e; simp at h, fun v hv => ?_⟩
  have := h.2 v hv
  simpa using this
theorem valW_inj : ∀ {l m : List GVal}, (∀ v ∈ l, valOk v = true) → (∀ v ∈ m, valOk v = true) → valW l = valW m → l = m
  | [], [], _, _, _ => rfl
  | [], _ :: _, _, _, h => by simp [valW] at h
  | _ :: _, [], _, _, h => by simp [valW] at h
  | v :: l, w :: m, hl, hm, h => by
    simp only [valW, List.map_cons, List.cons.injEq] at h
    have h1 := tx_eq h.1
    rw [tx_ofT, tx_ofT] at h1
    rw [valT_inj (hl v (by simp)) (hm w (by simp)) h1, valW_inj (fun x hx => hl x (List.mem_cons_of_mem _ hx)) (fun x hx => hm x (List.mem_cons_of_mem _ hx)) h.2]
theorem valW_to (l : List GVal) : bTo ∉ valW l := fun h => by
  obtain ⟨v, _, e⟩ := List.mem_map.1 h
  have e := tx_eq e
  rw [tx_ofT] at e
  have e : valT v = [116, 111] := e
  cases hv : valOk v with
  | false => unfold valT at e; rw [if_pos hv] at e; cases e
  | true =>
    rcases valT_k hv with ⟨a1, a2⟩ | ⟨a1, a2⟩ | ⟨a1, a2⟩ | ⟨a1, a2, a3, a4⟩ | ⟨a1, a2, a3⟩
    · rw [a2] at e; exact absurd e (by decide)
    · rw [a2] at e; exact absurd e (by decide)
    · rw [a2] at e; exact absurd e (by decide)
    · rw [a4] at e
      have := numT_mem v.fN 116 (by rw [e]; simp)
      revert this; decide
    · rw [a3] at e
      exact absurd (List.cons.inj e).1 (by decide)
theorem valW_32 (l : List GVal) : ∀ w ∈ valW l, (32 : UInt8) ∉ tx w := fun w hw => by
  obtain ⟨v, _, rfl⟩ := List.mem_map.1 hw
  rw [tx_ofT]
  exact valT_32 v
theorem stmtOk_n {s : GStmt} (h : stmtOk s = true) : wordOk s.fTable = true ∧ ((s.fKind = 1 ∧ s.fKey = [] ∧ valsOk s.fRow.fVals = true ∧ noDdl s.fDdl = true) ∨ (s.fKind = 2 ∧ valsOk s.fKey = true ∧ valsOk s.fRow.fVals = true ∧ noDdl s.fDdl = true) ∨ (s.fKind = 3 ∧ valsOk s.fKey = true ∧ s.fRow.fVals = [] ∧ noDdl s.fDdl = true) ∨ (s.fKind = 4 ∧ s.fKey = [] ∧ s.fRow.fVals = [] ∧ noDdl s.fDdl = true) ∨ (s.fKind = 5 ∧ s.fKey = [] ∧ s.fRow.fVals = [] ∧ ddlOk s.fDdl = true ∧ s.fDdl.fTable = s.fTable)) := by
  simp only [stmtOk, Bool.and_eq_true, Bool.or_eq_true, decide_eq_true_eq, List.isEmpty_iff, beq_iff_eq] at h
  refine ⟨h.1, ?_⟩
  rcases h.2 with (((h | h) | h) | h) | h
  · exact .inl ⟨h.1, h.2.1.1, h.2.1.2, h.2.2⟩
  · exact .inr (.inl ⟨h.1, h.2.1.1, h.2.1.2, h.2.2⟩)
  · exact .inr (.inr (.inl ⟨h.1, h.2.1.1, h.2.1.2, h.2.2⟩))
  · exact .inr (.inr (.inr (.inl ⟨h.1, h.2.1.1, h.2.1.2, h.2.2⟩)))
  · refine .inr (.inr (.inr (.inr ⟨h.1, ?_⟩)))
    grind [ba_eq]
theorem stmtW_32 {s : GStmt} (h : stmtOk s = true) : stmtW s ≠ [] ∧ ∀ w ∈ stmtW s, (32 : UInt8) ∉ tx w := by
  obtain ⟨hw, hk⟩ := stmtOk_n h
  have hword : ∀ s : ByteArray, wordOk s = true → (32 : UInt8) ∉ tx s := fun s hs => word_no hs (by decide)
  unfold stmtW
  rcases hk with ⟨k, a1, a2, a3⟩ | ⟨k, a1, a2, a3⟩ | ⟨k, a1, a2, a3⟩ | ⟨k, a1, a2, a3⟩ | ⟨k, a1, a2, a3, a4⟩
  · rw [if_pos k]
    refine ⟨by simp, fun w hw' => ?_⟩
    simp only [List.cons_append, List.nil_append, List.mem_cons] at hw'
    rcases hw' with rfl | rfl | hw'
    · decide
    · exact hword _ hw
    · exact valW_32 _ w hw'
  · rw [if_neg (by omega), if_pos k]
    refine ⟨by simp, fun w hw' => ?_⟩
    simp only [List.cons_append, List.nil_append, List.mem_cons, List.mem_append] at hw'
    rcases hw' with rfl | rfl | hw' | rfl | hw'
    · decide
    · exact hword _ hw
    · exact valW_32 _ w hw'
    · decide
    · exact valW_32 _ w hw'
  · rw [if_neg (by omega), if_neg (by omega), if_pos k]
    refine ⟨by simp, fun w hw' => ?_⟩
    simp only [List.cons_append, List.nil_append, List.mem_cons] at hw'
    rcases hw' with rfl | rfl | hw'
    · decide
    · exact hword _ hw
    · exact valW_32 _ w hw'
  · rw [if_neg (by omega), if_neg (by omega), if_neg (by omega), if_pos k]
    refine ⟨by simp, fun w hw' => ?_⟩
    simp only [List.mem_cons, List.not_mem_nil, or_false] at hw'
    rcases hw' with rfl | rfl
    · decide
    · exact hword _ hw
  · rw [if_neg (by omega), if_neg (by omega), if_neg (by omega), if_neg (by omega)]
    refine ⟨by simp [ddlW], fun w hw' h32 => ?_⟩
    have := ddlW_mem a3 w hw' 32 h32
    revert this; decide
theorem noDdl_e {d : GDdl} (h : noDdl d = true) : d = ⟨0, ⟨#[]⟩, [], [], ⟨#[]⟩, ⟨#[]⟩⟩ := by
  simp only [noDdl, Bool.and_eq_true, decide_eq_true_eq, List.isEmpty_iff] at h
  obtain ⟨h1, h2, h3, h4, h5, h6⟩ := h
  have h2 := em_nil h2
  have h5 := em_nil h5
  have h6 := em_nil h6
  cases d
  simp_all
theorem stmtW_inj {s t : GStmt} (hs : stmtOk s = true) (ht : stmtOk t = true) (h : stmtW s = stmtW t) : s = t := by
  obtain ⟨hw, hk⟩ := stmtOk_n hs
  obtain ⟨hw', hk'⟩ := stmtOk_n ht
  have W1 : ∀ s : GStmt, s.fKind = 1 → stmtW s = bInsert :: s.fTable :: valW s.fRow.fVals := fun s k => by unfold stmtW; rw [if_pos k]; rfl
  have W2 : ∀ s : GStmt, s.fKind = 2 → stmtW s = bUpdate :: s.fTable :: (valW s.fKey ++ bTo :: valW s.fRow.fVals) := fun s k => by unfold stmtW; rw [if_neg (by omega), if_pos k]; rfl
  have W3 : ∀ s : GStmt, s.fKind = 3 → stmtW s = bDelete :: s.fTable :: valW s.fKey := fun s k => by unfold stmtW; rw [if_neg (by omega), if_neg (by omega), if_pos k]; rfl
  have W4 : ∀ s : GStmt, s.fKind = 4 → stmtW s = [bClear, s.fTable] := fun s k => by unfold stmtW; rw [if_neg (by omega), if_neg (by omega), if_neg (by omega), if_pos k]
  have W5 : ∀ s : GStmt, s.fKind = 5 → stmtW s = ddlW s.fDdl := fun s k => by unfold stmtW; rw [if_neg (by omega), if_neg (by omega), if_neg (by omega), if_neg (by omega)]
  have D1 : ∀ d : GDdl, ∃ r, ddlW d = (ddlL[d.fKind.toNat]?.getD ⟨#[]⟩) :: r := fun d => ⟨_, rfl⟩
  have D2 : ∀ (d : GDdl) (w : ByteArray) (r : List ByteArray), ddlOk d = true → (w = bInsert ∨ w = bUpdate ∨ w = bDelete ∨ w = bClear) → ddlW d ≠ w :: r := fun d w r hd hw e => by
    obtain ⟨r', h'⟩ := D1 d
    rw [h'] at e
    have e := tx_eq (List.cons.inj e).1
    rcases ddl_kind hd with k | k | k | k | k <;> rw [k] at e <;> rcases hw with rfl | rfl | rfl | rfl <;> exact absurd e (by decide)
  rcases hk with ⟨k, a1, a2, a3⟩ | ⟨k, a1, a2, a3⟩ | ⟨k, a1, a2, a3⟩ | ⟨k, a1, a2, a3⟩ | ⟨k, a1, a2, a3, a4⟩ <;>
    rcases hk' with ⟨k', b1, b2, b3⟩ | ⟨k', b1, b2, b3⟩ | ⟨k', b1, b2, b3⟩ | ⟨k', b1, b2, b3⟩ | ⟨k', b1, b2, b3, b4⟩
  case inl.inl =>
    rw [W1 s k, W1 t k'] at h
    simp only [List.cons.injEq, true_and] at h
    have := valW_inj (valsOk_all a2).2 (valsOk_all b2).2 h.2
    have e1 := noDdl_e a3
    have e2 := noDdl_e b3
    obtain ⟨_, _, _, ⟨_⟩, _⟩ := s
    obtain ⟨_, _, _, ⟨_⟩, _⟩ := t
    simp_all
  case inr.inl.inr.inl =>
    rw [W2 s k, W2 t k'] at h
    simp only [List.cons.injEq, true_and] at h
    obtain ⟨q1, q2⟩ := app_inj (valW_to _) (valW_to _) h.2
    have q1 := valW_inj (valsOk_all a1).2 (valsOk_all b1).2 q1
    have q2 := valW_inj (valsOk_all a2).2 (valsOk_all b2).2 q2
    have e1 := noDdl_e a3
    have e2 := noDdl_e b3
    obtain ⟨_, _, _, ⟨_⟩, _⟩ := s
    obtain ⟨_, _, _, ⟨_⟩, _⟩ := t
    simp_all
  case inr.inr.inl.inr.inr.inl =>
    rw [W3 s k, W3 t k'] at h
    simp only [List.cons.injEq, true_and] at h
    have := valW_inj (valsOk_all a1).2 (valsOk_all b1).2 h.2
    have e1 := noDdl_e a3
    have e2 := noDdl_e b3
    obtain ⟨_, _, _, ⟨_⟩, _⟩ := s
    obtain ⟨_, _, _, ⟨_⟩, _⟩ := t
    simp_all
  case inr.inr.inr.inl.inr.inr.inr.inl =>
    rw [W4 s k, W4 t k'] at h
    simp only [List.cons.injEq, true_and, and_true] at h
    have e1 := noDdl_e a3
    have e2 := noDdl_e b3
    obtain ⟨_, _, _, ⟨_⟩, _⟩ := s
    obtain ⟨_, _, _, ⟨_⟩, _⟩ := t
    simp_all
  case inr.inr.inr.inr.inr.inr.inr.inr =>
    rw [W5 s k, W5 t k'] at h
    have := ddlW_inj a3 b3 h
    obtain ⟨_, _, _, ⟨_⟩, _⟩ := s
    obtain ⟨_, _, _, ⟨_⟩, _⟩ := t
    simp_all
  all_goals
    first
    | (rw [W5 s k] at h; first
        | (rw [W1 t k'] at h; exact absurd h (D2 _ _ _ a3 (by simp)))
        | (rw [W2 t k'] at h; exact absurd h (D2 _ _ _ a3 (by simp)))
        | (rw [W3 t k'] at h; exact absurd h (D2 _ _ _ a3 (by simp)))
        | (rw [W4 t k'] at h; exact absurd h (D2 _ _ _ a3 (by simp))))
    | (rw [W5 t k'] at h; first
        | (rw [W1 s k] at h; exact absurd h.symm (D2 _ _ _ b3 (by simp)))
        | (rw [W2 s k] at h; exact absurd h.symm (D2 _ _ _ b3 (by simp)))
        | (rw [W3 s k] at h; exact absurd h.symm (D2 _ _ _ b3 (by simp)))
        | (rw [W4 s k] at h; exact absurd h.symm (D2 _ _ _ b3 (by simp))))
    | (exfalso
       first | rw [W1 s k] at h | rw [W2 s k] at h | rw [W3 s k] at h | rw [W4 s k] at h
       first | rw [W1 t k'] at h | rw [W2 t k'] at h | rw [W3 t k'] at h | rw [W4 t k'] at h
       exact absurd (tx_eq (List.cons.inj h).1) (by decide))
/-- Right statements of one text are one. -/
theorem stmtT_inj {s t : GStmt} (hs : stmtOk s = true) (ht : stmtOk t = true) (h : stmtT s = stmtT t) : s = t := by
  unfold stmtT at h
  rw [if_pos hs, if_pos ht] at h
  obtain ⟨a1, a2⟩ := stmtW_32 hs
  obtain ⟨b1, b2⟩ := stmtW_32 ht
  exact stmtW_inj hs ht (wsT_inj a1 b1 a2 b2 h)

end Go.Proofs.Yteeolohhmfjafaa

/-! YteeolohhmfjafaaBd -/
namespace Go.Proofs.Yteeolohhmfjafaa
open Go Go.Proofs Go.Sm
attribute [local simp] ti eStr eInt eByte eVal cVal vVal vValS vRow eCol vCol vColS vStrS cDdl vDdl vStmt ePart vPart vPartS eBatch cBatch vBatch cTable vTable
set_option linter.unusedVariables false
set_option linter.unusedSimpArgs false
set_option maxRecDepth 8000


theorem bdD_of {d : GDdl} (hs : ∀ n ∈ wDdl d, n ≤ 1048576) : bdD d := by
  simp only [wDdl, wColS, wStrS, List.mem_cons, List.mem_append, List.not_mem_nil, or_false] at hs
  refine ⟨hs _ (.inl rfl), hs _ (.inr (.inr (.inr (.inl rfl)))), hs _ (.inr (.inr (.inr (.inr rfl)))), hs _ (.inr (.inr (.inl (.inl rfl)))), fun k hk => hs _ (.inr (.inr (.inl (.inr (List.mem_flatMap.2 ⟨k, hk, by simp [wStr]⟩))))), hs _ (.inr (.inl (.inl rfl)))⟩
theorem bdS_of {s : GStmt} (hs : ∀ n ∈ wStmt s, n ≤ 1048576) : bdS s := by
  simp only [wStmt, List.mem_cons, List.mem_append, List.not_mem_nil, or_false] at hs
  exact ⟨hs _ (.inl rfl), bdD_of fun n hn => hs n (.inr (.inr (.inr hn)))⟩
end Go.Proofs.Yteeolohhmfjafaa

/-! YteeolohhmfjafaaRecText -/
namespace Go.Proofs.Yteeolohhmfjafaa
open Go Go.Proofs Go.Sm
attribute [local simp] ti eStr eInt eByte eVal cVal vVal vValS vRow eCol vCol vColS vStrS cDdl vDdl vStmt ePart vPart vPartS eBatch cBatch vBatch cTable vTable
set_option linter.unusedVariables false
set_option linter.unusedSimpArgs false
set_option maxRecDepth 8000


end Go.Proofs.Yteeolohhmfjafaa

/-! YteeolohhmfjafaaBatch -/
namespace Go.Proofs.Yteeolohhmfjafaa
open Go Go.Proofs Go.Sm
attribute [local simp] ti eStr eInt eByte eVal cVal vVal vValS vRow eCol vCol vColS vStrS cDdl vDdl vStmt ePart vPart vPartS eBatch cBatch vBatch cTable vTable
set_option linter.unusedVariables false
set_option linter.unusedSimpArgs false
set_option maxRecDepth 8000


def wordsOk (l : List ByteArray) : Bool := decide ((l.length : Int) ≤ 8) && !l.any (fun s => !wordOk s)
theorem areWords1_ok (s : ByteArray) (hs : okM s.size) : VC Try.prog 105 [str s] [(false, [(.s, .sc (.bool (!wordOk s)))])] := by
  refine vc_of_ew good hm [0,2] Try.func105 rfl (by kernel_rfl) (by kernel_rfl) rfl ?_
  simp [Try.f105]
  refine .of (wordOkI_ok s hs) ?_
  simp
theorem areWords_ok (l : List ByteArray) (hl : okStrS l) : VC Try.prog 79 [vStrS l] [(false, [(.s, .sc (.bool (wordsOk l)))])] := by
  refine vc_of_ew good hm [0,2] Try.func79 rfl (by kernel_rfl) (by kernel_rfl) rfl ?_
  simp [Try.f79]
  refine .of (fun h => ⟨h, hasStr0_ok l _ (fun s => !wordOk s) hl.1 (fun x hx => areWords1_ok x (hl.2 x hx))⟩) ?_
  simp [wordsOk]
set_option maxHeartbeats 4000000 in
theorem l09Words_ok (l : List ByteArray) (hl : okStrS l) : VC Try.prog 73 [vStrS l] [(false, [(.s, .sc (.bool (wordsOk l)))])] := by
  have hll : l.length ≤ 9223372036854775807 := hl.1
  refine vc_of_ew good hm [0,2,5,6,7,8,4,13] Try.func73 rfl (by kernel_rfl) (by kernel_rfl) rfl ?_
  simp [Try.f73]
  refine ew_loop (fun E => ∃ i : Nat, i ≤ l.length ∧ anyT (fun s => !wordOk s) l i = false ∧ E = { nt := 18, sl := [(0, vStrS l), (5, vStrS l), (6, int .i64 l.length), (7, int .i64 i)], bx := [], rt := [] }) (fun E => l.length - (E.num 7).toNat) _ (Gh.kb _ [0,5,6,7] [] []) ⟨0, by omega, anyT_zero _ _, by simp⟩ ?_
  rintro E1 ⟨i, hi, hall, rfl⟩
  simp
  refine ⟨fun h => ⟨h, .of (wordOkS_ok _ (hl.2 _ (getD_mem ⟨#[]⟩ h))) ?_⟩, fun h => ?_⟩
  · simp
    refine ⟨fun hp => ?_, fun hp => .of _ (Gh.kb _ [0,5,6,7] [] []) ⟨i + 1, by omega, by rw [anyT_succ _ ⟨#[]⟩ h, hall, hp]; rfl, ?_⟩ ?_⟩
    · have : l.any (fun s => !wordOk s) = true := List.any_eq_true.2 ⟨_, getD_mem ⟨#[]⟩ h, by rw [hp]; rfl⟩
      simp only [wordsOk, this, Bool.not_true, Bool.and_false]
    · simp [wrapS (show i < 9223372036854775807 by omega)]
    · simp [wrapS (show i < 9223372036854775807 by omega)]; omega
  · have : i = l.length := by omega
    subst this
    rw [anyT_all] at hall
    simp only [wordsOk, hall, Bool.not_false, Bool.and_true]
def partBad (p : GPart) : Bool := !(stmtOk p.fStmt && (wordsOk p.fCols && wordsOk p.fKeys))
def batchOk (b : GBatch) : Bool := within b.fLsn 1 400 && (within b.fPrev 0 (b.fLsn - 1) && (decide ((b.fParts.length : Int) ≤ 60) && !b.fParts.any partBad))
set_option maxHeartbeats 8000000 in
set_option maxRecDepth 4000 in
theorem batchOkS_ok (b : GBatch) (hb : okBatch b) : VC Try.prog 44 [vBatch b] [(false, [(.s, .sc (.bool (batchOk b)))])] := by
  have hl : b.fParts.length ≤ 9223372036854775807 := hb.2.2.1.1
  refine vc_of_ew good hm [0,1,2,30,32,33,34,35,4,53] Try.func44 rfl (by kernel_rfl) (by kernel_rfl) rfl ?_
  simp [Try.f44, beqI]
  refine ⟨fun h => by grind [batchOk, within], fun a1 a2 a3 a4 a5 => ?_⟩
  refine ew_loop (fun E => ∃ i : Nat, i ≤ b.fParts.length ∧ anyT partBad b.fParts i = false ∧ E = { nt := 55, sl := [(32, vPartS b.fParts), (33, int .i64 b.fParts.length), (34, int .i64 i)], bx := [], rt := [] }) (fun E => b.fParts.length - (E.num 34).toNat) _ (Gh.kb _ [32,33,34] [] []) ⟨0, by omega, anyT_zero _ _, by simp⟩ ?_
  rintro E1 ⟨i, hi, hall, rfl⟩
  simp
  refine ⟨fun h => ⟨h, ?_⟩, fun h => ?_⟩
  · have hp := hb.2.2.1.2 _ (getD_mem dPart h)
    refine .of (stmtOkS_ok _ hp.1) ?_
    simp
    refine .of (fun h => ⟨h, l09Words_ok _ hp.2.1⟩) ?_
    simp
    refine .of (fun h => ⟨h, l09Words_ok _ hp.2.2.1⟩) ?_
    simp
    have hat : partBad (b.fParts[i]?.getD dPart) = !(stmtOk (b.fParts[i]?.getD dPart).fStmt && (wordsOk (b.fParts[i]?.getD dPart).fCols && wordsOk (b.fParts[i]?.getD dPart).fKeys)) := rfl
    refine ⟨fun hbad => ?_, fun h1 h2 h3 => .of _ (Gh.kb _ [32,33,34] [] []) ⟨i + 1, by omega, by rw [anyT_succ _ dPart h, hall, hat, h1, h2, h3]; rfl, ?_⟩ ?_⟩
    · have : b.fParts.any partBad = true := List.any_eq_true.2 ⟨_, getD_mem dPart h, by rw [hat]; grind⟩
      simp only [batchOk, this, Bool.not_true, Bool.and_false]
    · simp [wrapS (show i < 9223372036854775807 by omega)]
    · simp [wrapS (show i < 9223372036854775807 by omega)]; omega
  · have : i = b.fParts.length := by omega
    subst this
    rw [anyT_all] at hall
    grind [batchOk, within]
set_option maxHeartbeats 8000000 in
set_option maxRecDepth 4000 in
theorem batchOkI_ok (b : GBatch) (hb : okBatch b) (hs : ∀ n ∈ wBatch b, n ≤ 1048576) : VC Try.prog 48 [vBatch b] [(false, [(.s, .sc (.bool (batchOk b)))])] := by
  have hl : b.fParts.length ≤ 9223372036854775807 := hb.2.2.1.1
  have hlsn : okI b.fLsn := hb.1
  have hw : 1 ≤ b.fLsn → IntKind.i64.wrap (b.fLsn - 1) = b.fLsn - 1 := fun h => wrapI (by omega) (by unfold okI at hlsn; omega)
  refine vc_of_ew good hm [0,1,2,6,7,8,9,4,27] Try.func48 rfl (by kernel_rfl) (by kernel_rfl) rfl ?_
  simp [Try.f48, beqI]
  refine ew_loop (fun E => ∃ i : Nat, i ≤ b.fParts.length ∧ anyT partBad b.fParts i = false ∧ E = { nt := 46, sl := [(1, .p (.bx 1 0)), (6, vPartS b.fParts), (7, int .i64 b.fParts.length), (8, int .i64 i)], bx := [(1, cBatch b)], rt := [] }) (fun E => b.fParts.length - (E.num 8).toNat) _ (Gh.kb _ [1,6,7,8] [1] []) ⟨0, by omega, anyT_zero _ _, by simp⟩ ?_
  rintro E1 ⟨i, hi, hall, rfl⟩
  simp
  refine ⟨fun h => ⟨h, ?_⟩, fun h => ?_⟩
  · have hm := getD_mem dPart h
    have hp := hb.2.2.1.2 _ hm
    have hsp : ∀ n ∈ wPart (b.fParts[i]?.getD dPart), n ≤ 1048576 := fun n hn => hs n (by
      simp only [wBatch, wPartS, List.append_nil]
      exact List.mem_cons_of_mem _ (List.mem_flatMap.2 ⟨_, hm, hn⟩))
    refine .of (stmtOkI_ok _ hp.1 (hsp _ (by simp [wPart, wStmt, wDdl, wColS])) (hsp _ (by simp [wPart, wStmt, wDdl, wStrS]))) ?_
    simp
    refine .of (fun h => ⟨h, areWords_ok _ hp.2.1⟩) ?_
    simp
    refine .of (fun h => ⟨h, areWords_ok _ hp.2.2.1⟩) ?_
    simp
    have hat : partBad (b.fParts[i]?.getD dPart) = !(stmtOk (b.fParts[i]?.getD dPart).fStmt && (wordsOk (b.fParts[i]?.getD dPart).fCols && wordsOk (b.fParts[i]?.getD dPart).fKeys)) := rfl
    refine ⟨fun hbad => ?_, fun h1 h2 h3 => .of _ (Gh.kb _ [1,6,7,8] [1] []) ⟨i + 1, by omega, by rw [anyT_succ _ dPart h, hall, hat, h1, h2, h3]; rfl, ?_⟩ ?_⟩
    · have : b.fParts.any partBad = true := List.any_eq_true.2 ⟨_, getD_mem dPart h, by rw [hat]; grind⟩
      simp only [batchOk, this, Bool.not_true, Bool.and_false]
    · simp [wrapS (show i < 9223372036854775807 by omega)]
    · simp [wrapS (show i < 9223372036854775807 by omega)]; omega
  · have : i = b.fParts.length := by omega
    subst this
    rw [anyT_all] at hall
    refine .of (within_ok _ _ _) ?_
    simp
    refine .of (fun h => ⟨h, within_ok _ _ _⟩) ?_
    simp
    grind [batchOk, within]
end Go.Proofs.Yteeolohhmfjafaa

/-! YteeolohhmfjafaaBatchText -/
namespace Go.Proofs.Yteeolohhmfjafaa
open Go Go.Proofs Go.Sm
attribute [local simp] ti eStr eInt eByte eVal cVal vVal vValS vRow eCol vCol vColS vStrS cDdl vDdl vStmt ePart vPart vPartS eBatch cBatch vBatch cTable vTable
set_option linter.unusedVariables false
set_option linter.unusedSimpArgs false
set_option maxRecDepth 8000


theorem bdS_part {b : GBatch} (hs : ∀ n ∈ wBatch b, n ≤ 1048576) : b.fParts.length ≤ 1048576 ∧ ∀ p ∈ b.fParts, bdS p.fStmt ∧ p.fCols.length ≤ 1048576 ∧ ∀ c ∈ p.fCols, c.size ≤ 1048576 := by
  have hs' : ∀ n, n = b.fParts.length ∨ (∃ p ∈ b.fParts, n ∈ wPart p) → n ≤ 1048576 := fun n hn => hs n (by
    simp only [wBatch, wPartS, List.mem_append, List.mem_cons, List.mem_flatMap]
    exact .inl hn)
  refine ⟨hs' _ (.inl rfl), fun p hp => ⟨bdS_of fun n hn => hs' n (.inr ⟨p, hp, by simp [wPart, hn]⟩), hs' _ (.inr ⟨p, hp, by simp [wPart, wStrS]⟩), fun c hc => hs' _ (.inr ⟨p, hp, ?_⟩)⟩⟩
  simp only [wPart, wStrS, List.mem_append, List.mem_cons, List.mem_flatMap]
  exact .inr (.inl (.inr ⟨c, hc, by simp [wStr]⟩))
end Go.Proofs.Yteeolohhmfjafaa

/-! YteeolohhmfjafaaSb -/
namespace Go.Proofs.Yteeolohhmfjafaa
open Go Go.Proofs Go.Sm
attribute [local simp] ti eStr eInt eByte eVal cVal vVal vValS vRow eCol vCol vColS vStrS cDdl vDdl vStmt ePart vPart vPartS eBatch cBatch vBatch cTable vTable
set_option linter.unusedVariables false
set_option linter.unusedSimpArgs false
set_option maxRecDepth 8000


theorem eqRowsB {α : Type} {eq : α → α → Bool} {d : α} (h : ∀ x y, eq x y = true ↔ x = y) (a b : List α) : eqRows eq d a b = true ↔ a = b := by
  simp only [eqRows, eqTo, Bool.and_eq_true, decide_eq_true_eq, List.all_eq_true, List.mem_range, h]
  constructor
  · rintro ⟨h1, h2⟩
    refine List.ext_getElem (by omega) fun i hi hj => ?_
    have := h2 i hi
    rwa [List.getElem?_eq_getElem hi, List.getElem?_eq_getElem hj] at this
  · rintro rfl
    exact ⟨rfl, fun _ _ => rfl⟩
theorem eqSB (x y : ByteArray) : eqS x y = true ↔ x = y := tl_beq x y
theorem eqColB (x y : GCol) : eqCol x y = true ↔ x = y := by
  obtain ⟨a, b, c, d, e⟩ := x
  obtain ⟨a', b', c', d', e'⟩ := y
  have hv : eqVal e e' = true ↔ e = e' := veq_iff e e'
  simp only [eqCol, Bool.and_eq_true, beq_iff_eq, GCol.mk.injEq, hv]
  exact ⟨fun ⟨h1, h2, h3, h4, h5⟩ => ⟨tl_inj h1, h2, h3, h4, h5⟩, fun ⟨h1, h2, h3, h4, h5⟩ => ⟨by rw [h1], h2, h3, h4, h5⟩⟩
theorem eqDdlB (a b : GDdl) : eqDdl a b = true ↔ a = b := by
  obtain ⟨k, t, c, ks, n, o⟩ := a
  obtain ⟨k', t', c', ks', n', o'⟩ := b
  simp only [eqDdl, Bool.and_eq_true, beq_iff_eq, eqRowsB eqColB, eqRowsB eqSB, GDdl.mk.injEq]
  exact ⟨fun ⟨h1, h2, h3, h4, h5, h6⟩ => ⟨h1, tl_inj h2, h3, h4, tl_inj h5, tl_inj h6⟩, fun ⟨h1, h2, h3, h4, h5, h6⟩ => ⟨h1, by rw [h2], h3, h4, by rw [h5], by rw [h6]⟩⟩
set_option maxHeartbeats 4000000 in
theorem equalValB_ok (a b : List GVal) (ha : okM a.length) : VC Try.prog 80 [vValS a, vValS b] [(false, [(.s, .sc (.bool (eqRows veq dVal a b)))])] := by
  unfold okM at ha
  refine vc_of_ew good hm [0,1,4,10,12,13,14,5,24] Try.func80 rfl (by kernel_rfl) (by kernel_rfl) rfl ?_
  simp [Try.f80]
  refine ⟨fun h => by simp [eqRows, h], fun hl => ?_⟩
  refine ew_loop (fun E => ∃ i : Nat, i ≤ a.length ∧ eqTo veq dVal a b i = true ∧ E = { nt := 26, sl := [(0, vValS a), (1, vValS b), (12, int .i64 a.length), (13, int .i64 i)], bx := [], rt := [] }) (fun E => a.length - (E.num 13).toNat) _ (Gh.kb _ [0,1,12,13] [] []) ⟨0, by omega, by simp [eqTo], by simp⟩ ?_
  rintro E1 ⟨i, hi, hall, rfl⟩
  simp
  have hat : veq (a[i]?.getD dVal) (b[i]?.getD dVal) = ((a[i]?.getD dVal).fTy == (b[i]?.getD dVal).fTy && ((a[i]?.getD dVal).fN == (b[i]?.getD dVal).fN && (a[i]?.getD dVal).fS.toList == (b[i]?.getD dVal).fS.toList)) := rfl
  refine ⟨fun h => ⟨h, by omega, ?_⟩, fun h => ?_⟩
  · refine ⟨fun hb => ?_, fun h1 h2 h3 => .of _ (Gh.kb _ [0,1,12,13] [] []) ⟨i + 1, by omega, by rw [eqTo_succ, hall, hat]; simp [h1, h2, h3], ?_⟩ ?_⟩
    · have := eqTo_no (eq := veq) (d := dVal) (a := a) (b := b) h (by rw [hat]; grind)
      simp [eqRows, this]
    · simp [wrapS (show i < 9223372036854775807 by omega)]
    · simp [wrapS (show i < 9223372036854775807 by omega)]; omega
  · have : i = a.length := by omega
    subst this
    simp [eqRows, hall, hl]
def eqStmt (a b : GStmt) : Bool := a.fKind == b.fKind && (a.fTable.toList == b.fTable.toList && (eqRows veq dVal a.fKey b.fKey && (eqRows veq dVal a.fRow.fVals b.fRow.fVals && eqDdl a.fDdl b.fDdl)))
theorem eqStmtB (a b : GStmt) : eqStmt a b = true ↔ a = b := by
  obtain ⟨k, t, c, ⟨r⟩, n⟩ := a
  obtain ⟨k', t', c', ⟨r'⟩, n'⟩ := b
  simp only [eqStmt, Bool.and_eq_true, beq_iff_eq, eqRowsB veq_iff, eqDdlB, GStmt.mk.injEq, GRow.mk.injEq]
  exact ⟨fun ⟨h1, h2, h3, h4, h5⟩ => ⟨h1, tl_inj h2, h3, h4, h5⟩, fun ⟨h1, h2, h3, h4, h5⟩ => ⟨h1, by rw [h2], h3, h4, h5⟩⟩
set_option maxHeartbeats 8000000 in
set_option maxRecDepth 4000 in
theorem equalStmts_ok (a b : GStmt) (ha : okStmt a) : VC Try.prog 51 [vStmt a, vStmt b] [(false, [(.s, .sc (.bool (eqStmt a b)))])] := by
  obtain ⟨_, ht, hk, hr, hd, _⟩ := id ha
  refine vc_of_ew good hm [0,1,2,3,4] Try.func51 rfl (by kernel_rfl) (by kernel_rfl) rfl ?_
  simp [Try.f51]
  refine .of (fun h => ⟨h, equalValB_ok a.fKey b.fKey hk.1⟩) ?_
  simp
  refine .of (fun h => ⟨h, equalValB_ok a.fRow.fVals b.fRow.fVals hr.1.1⟩) ?_
  simp
  refine .of (fun h => ⟨h, equalDdl_ok a.fDdl b.fDdl hd⟩) ?_
  simp
  grind [eqStmt]
def eqPart (a b : GPart) : Bool := eqStmt a.fStmt b.fStmt && (eqRows eqS ⟨#[]⟩ a.fCols b.fCols && eqRows eqS ⟨#[]⟩ a.fKeys b.fKeys)
set_option maxHeartbeats 8000000 in
theorem sameBatch1_ok (a b : GPart) (ha : okPart a) : VC Try.prog 50 [vPart a, vPart b] [(false, [(.s, .sc (.bool (eqPart a b)))])] := by
  refine vc_of_ew good hm [0,1,2,3,4] Try.func50 rfl (by kernel_rfl) (by kernel_rfl) rfl ?_
  simp [Try.f50]
  refine .of (equalStmts_ok a.fStmt b.fStmt ha.1) ?_
  simp
  refine .of (fun h => ⟨h, equalStr_ok a.fCols b.fCols ha.2.1.1⟩) ?_
  simp
  refine .of (fun h => ⟨h, equalStr_ok a.fKeys b.fKeys ha.2.2.1.1⟩) ?_
  simp
  grind [eqPart]
set_option maxHeartbeats 8000000 in
theorem equalPart_ok (a b : List GPart) (hl : okM a.length) (ha : ∀ p ∈ a, okPart p) : VC Try.prog 49 [vPartS a, vPartS b, .fn 50 []] [(false, [(.s, .sc (.bool (eqRows eqPart dPart a b)))])] := by
  unfold okM at hl
  refine vc_of_ew good hm [0,1,2,6,14,15,16,17,18,8,7,9,30] Try.func49 rfl (by kernel_rfl) (by kernel_rfl) rfl ?_
  simp [Try.f49]
  refine ⟨fun h => by simp [eqRows, h], fun hl2 => ?_⟩
  refine ew_loop (fun E => ∃ i : Nat, i ≤ a.length ∧ eqTo eqPart dPart a b i = true ∧ E = { nt := 32, sl := [(1, vPartS b), (2, .fn 50 []), (15, vPartS a), (16, int .i64 a.length), (17, int .i64 i)], bx := [], rt := [] }) (fun E => a.length - (E.num 17).toNat) _ (Gh.kb _ [1,2,15,16,17] [] []) ⟨0, by omega, by simp [eqTo], by simp⟩ ?_
  rintro E1 ⟨i, hi, hall, rfl⟩
  simp
  refine ⟨fun h => ⟨h, by omega, .of (sameBatch1_ok _ _ (ha _ (getD_mem dPart h))) ?_⟩, fun h => ?_⟩
  · simp
    refine ⟨fun hb => ?_, fun hb => .of _ (Gh.kb _ [1,2,15,16,17] [] []) ⟨i + 1, by omega, by rw [eqTo_succ, hall, hb]; rfl, ?_⟩ ?_⟩
    · have := eqTo_no (eq := eqPart) (d := dPart) (a := a) (b := b) h hb
      simp [eqRows, this]
    · simp [wrapS (show i < 9223372036854775807 by omega)]
    · simp [wrapS (show i < 9223372036854775807 by omega)]; omega
  · have : i = a.length := by omega
    subst this
    simp [eqRows, hall, hl2]
def sameBatch (a b : GBatch) : Bool := batchOk a && (batchOk b && (decide (a.fLsn = b.fLsn) && (decide (a.fPrev = b.fPrev) && eqRows eqPart dPart a.fParts b.fParts)))
set_option maxHeartbeats 8000000 in
theorem l09Same_ok (a b : List ByteArray) (ha : okM a.length) : VC Try.prog 46 [vStrS a, vStrS b] [(false, [(.s, .sc (.bool (eqRows eqS ⟨#[]⟩ a b)))])] := by
  unfold okM at ha
  refine vc_of_ew good hm [0,1,4,10,12,13,14,5,24] Try.func46 rfl (by kernel_rfl) (by kernel_rfl) rfl ?_
  simp [Try.f46]
  refine ⟨fun h => by simp [eqRows, h], fun hl => ?_⟩
  refine ew_loop (fun E => ∃ i : Nat, i ≤ a.length ∧ eqTo eqS ⟨#[]⟩ a b i = true ∧ E = { nt := 26, sl := [(0, vStrS a), (1, vStrS b), (12, int .i64 a.length), (13, int .i64 i)], bx := [], rt := [] }) (fun E => a.length - (E.num 13).toNat) _ (Gh.kb _ [0,1,12,13] [] []) ⟨0, by omega, by simp [eqTo], by simp⟩ ?_
  rintro E1 ⟨i, hi, hall, rfl⟩
  simp
  refine ⟨fun h => ⟨h, by omega, ?_⟩, fun h => ?_⟩
  · refine ⟨fun hp => ?_, fun hp => .of _ (Gh.kb _ [0,1,12,13] [] []) ⟨i + 1, by omega, ?_, ?_⟩ ?_⟩
    · have := eqTo_no (eq := eqS) (d := ⟨#[]⟩) (a := a) (b := b) h (by simpa [eqS] using hp)
      simp [eqRows, this]
    · rw [eqTo_succ, hall]; simpa [eqS] using hp
    · simp [wrapS (show i < 9223372036854775807 by omega)]
    · simp [wrapS (show i < 9223372036854775807 by omega)]; omega
  · have : i = a.length := by omega
    subst this
    simp [eqRows, hall, hl]
theorem stmtT_eqB {s t : GStmt} (hs : stmtOk s = true) (ht : stmtOk t = true) : ((ofT (stmtT s)).toList = (ofT (stmtT t)).toList) ↔ eqStmt s t = true := by
  rw [eqStmtB]
  constructor
  · intro h
    have h2 := congrArg tx (tl_inj h)
    rw [tx_ofT, tx_ofT] at h2
    exact stmtT_inj hs ht h2
  · rintro rfl
    rfl
set_option maxHeartbeats 8000000 in
set_option maxRecDepth 4000 in
theorem I_SameBatch_ok (a b : GBatch) (o0 : okBatch a) (hs0 : ∀ n ∈ wBatch a, n ≤ 1048576) (_ : (wBatch a).sum ≤ 1048576) (o1 : okBatch b) (hs1 : ∀ n ∈ wBatch b, n ≤ 1048576) (_ : (wBatch b).sum ≤ 1048576) : VC Try.prog 19 [vBatch a, vBatch b] [(false, [(.s, .sc (.bool (sameBatch a b)))])] := by
  refine vc_of_ew good hm [0,1,2,3,4] Try.func19 rfl (by kernel_rfl) (by kernel_rfl) rfl ?_
  simp [Try.f19, beqI]
  refine .of (batchOkI_ok a o0 hs0) ?_
  simp [beqI]
  refine .of (fun h => ⟨h, batchOkI_ok b o1 hs1⟩) ?_
  simp [beqI]
  refine .of (fun h => ⟨h, equalPart_ok a.fParts b.fParts o0.2.2.1.1 o0.2.2.1.2⟩) ?_
  simp [beqI]
  grind [sameBatch]
set_option maxHeartbeats 8000000 in
set_option maxRecDepth 4000 in
theorem S_SameBatch_ok (a b : GBatch) (o0 : okBatch a) (hs0 : ∀ n ∈ wBatch a, n ≤ 1048576) (_ : (wBatch a).sum ≤ 1048576) (o1 : okBatch b) (hs1 : ∀ n ∈ wBatch b, n ≤ 1048576) (_ : (wBatch b).sum ≤ 1048576) : VC Try.prog 17 [vBatch a, vBatch b] [(false, [(.s, .sc (.bool (sameBatch a b)))])] := by
  have hE : sameBatch a b = (batchOk a && (batchOk b && (decide (a.fLsn = b.fLsn) && (decide (a.fPrev = b.fPrev) && eqRows eqPart dPart a.fParts b.fParts)))) := rfl
  have hla : a.fParts.length ≤ 9223372036854775807 := o0.2.2.1.1
  refine vc_of_ew good hm [0,1,2,3,4,38,41,42,43,5,6,7,77] Try.func17 rfl (by kernel_rfl) (by kernel_rfl) rfl ?_
  simp [Try.f17, beqI]
  refine .of (batchOkS_ok a o0) ?_
  simp [beqI]
  refine .of (fun h => ⟨h, batchOkS_ok b o1⟩) ?_
  simp [beqI]
  refine ⟨fun h => by rw [hE]; grind [eqRows], fun h1 h2 h3 h4 h5 => ?_⟩
  have hst : ∀ x : GBatch, batchOk x = true → ∀ p ∈ x.fParts, stmtOk p.fStmt = true := fun x hx p hp => by
    simp only [batchOk, Bool.and_eq_true, Bool.not_eq_true', List.any_eq_false] at hx
    have := hx.2.2.2 p hp
    simp only [partBad, Bool.not_eq_true', Bool.not_eq_false, Bool.and_eq_true] at this
    exact this.1
  have hb := bdS_part hs0
  have hb' := bdS_part hs1
  refine ew_loop (fun E => ∃ i : Nat, i ≤ a.fParts.length ∧ eqTo eqPart dPart a.fParts b.fParts i = true ∧ E = { nt := 79, sl := [(2, .p (.bx 2 0)), (3, .p (.bx 3 0)), (41, int .i64 a.fParts.length), (42, int .i64 i)], bx := [(2, cBatch a), (3, cBatch b)], rt := [] }) (fun E => a.fParts.length - (E.num 42).toNat) _ (Gh.kb _ [2,3,41,42] [2, 3] []) ⟨0, by omega, by simp [eqTo], by simp⟩ ?_
  rintro E1 ⟨i, hi, hall, rfl⟩
  simp
  refine ⟨fun h => ⟨h, by omega, ?_⟩, fun h => ?_⟩
  · have hm := getD_mem dPart h
    have hm' := getD_mem dPart (show i < b.fParts.length by omega)
    have q1 := hst a h1 _ hm
    have q2 := hst b h2 _ hm'
    have hP : eqPart (a.fParts[i]?.getD dPart) (b.fParts[i]?.getD dPart) = (eqStmt (a.fParts[i]?.getD dPart).fStmt (b.fParts[i]?.getD dPart).fStmt && (eqRows eqS ⟨#[]⟩ (a.fParts[i]?.getD dPart).fCols (b.fParts[i]?.getD dPart).fCols && eqRows eqS ⟨#[]⟩ (a.fParts[i]?.getD dPart).fKeys (b.fParts[i]?.getD dPart).fKeys)) := rfl
    have hT := stmtT_eqB q1 q2
    refine .of (stmtTextS_ok _ (o0.2.2.1.2 _ hm).1 (hb.2 _ hm).1) ?_
    simp
    refine .of (stmtTextS_ok _ (o1.2.2.1.2 _ hm').1 (hb'.2 _ hm').1) ?_
    simp
    refine .of (fun g => ⟨g, l09Same_ok _ _ (o0.2.2.1.2 _ hm).2.1.1⟩) ?_
    simp
    refine .of (fun g => ⟨g, l09Same_ok _ _ (o0.2.2.1.2 _ hm).2.2.1.1⟩) ?_
    simp
    refine ⟨fun hbad => ?_, fun g1 g2 g3 => .of _ (Gh.kb _ [2,3,41,42] [2, 3] []) ⟨i + 1, by omega, by rw [eqTo_succ, hall, hP, hT.1 g1, g2, g3]; rfl, ?_⟩ ?_⟩
    · have hp : eqPart (a.fParts[i]?.getD dPart) (b.fParts[i]?.getD dPart) = false := by
        rw [hP]
        cases hc : eqStmt (a.fParts[i]?.getD dPart).fStmt (b.fParts[i]?.getD dPart).fStmt with
        | false => rfl
        | true =>
          have := hT.2 hc
          grind
      rw [hE]
      simp [eqRows, eqTo_no h hp]
    · simp [wrapS (show i < 9223372036854775807 by omega)]
    · simp [wrapS (show i < 9223372036854775807 by omega)]; omega
  · have : i = a.fParts.length := by omega
    subst this
    rw [hE, h1, h2]
    simp [eqRows, hall, h3, h4, h5]

end Go.Proofs.Yteeolohhmfjafaa

