import Derived.Test.YtkbknmcafiepgaaMapKey
import Derived.Test.YtkbknmcafiepgaaSmR
namespace Go.Proofs.Ytkbknmcafiepgaa
open Go Go.Proofs Go.Sm
attribute [local simp] ti eStr eInt eByte eVal cVal vVal eValS vValS eRow cRow vRow eCol cCol vCol eColS vColS eStrS vStrS eDdl cDdl vDdl eStmt cStmt vStmt ePart cPart vPart ePartS vPartS eBatch cBatch vBatch eTable cTable vTable eTableS vTableS eCat cCat vCat eRowS vRowS eRows cRows vRows eRowsS vRowsS eDb cDb vDb eRec cRec vRec eRecS vRecS eStmtS vStmtS
set_option linter.unusedVariables false
set_option linter.unusedSimpArgs false


def byName (cols : List ByteArray) (t : GTable) (vals other : List GVal) (i : Nat) : GVal :=
  if 0 ≤ idxS cols (t.fCols[i]?.getD dCol).fName then vals[(idxS cols (t.fCols[i]?.getD dCol).fName).toNat]?.getD dVal else if (other.length : Int) = t.fCols.length then other[i]?.getD dVal else (t.fCols[i]?.getD dCol).fDef
def rowBy (cols : List ByteArray) (t : GTable) (vals other : List GVal) (n : Nat) : List GVal := (List.range n).map (byName cols t vals other)
theorem rowBy_succ (cols : List ByteArray) (t : GTable) (vals other : List GVal) (n : Nat) : rowBy cols t vals other (n + 1) = rowBy cols t vals other n ++ [byName cols t vals other n] := by
  simp [rowBy, List.range_succ]
theorem rowBy_len (cols : List ByteArray) (t : GTable) (vals other : List GVal) (n : Nat) : (rowBy cols t vals other n).length = n := by simp [rowBy]
set_option maxHeartbeats 8000000 in
set_option maxRecDepth 4000 in
theorem l10Row_ok (cols : List ByteArray) (t : GTable) (vals other : List GVal) (hc : okM cols.length) (ht : t.fCols.length ≤ 1048576) (hcv : (cols.length : Int) = vals.length) :
    VC Try.prog 110 [vStrS cols, vTable t, vValS vals, vRow ⟨other⟩] [(true, mRow ⟨rowBy cols t vals other t.fCols.length⟩)] := by
  refine vc_of_ew good hm [0,1,2,3,5,7,8,9,16,17,18,19,11,10,12,31,13,42] Try.func110 rfl (by kernel_rfl) (by kernel_rfl) rfl ?_
  simp [Try.f110, mRow]
  refine ew_loop (fun E => ∃ i : Nat, i ≤ t.fCols.length ∧ E = { nt := 55, sl := [(0, vStrS cols), (2, vValS vals), (5, .p (.bx 5 0)), (7, .p (.bx 7 0)), (8, .p (.bx 8 0)), (9, .p (.bx 9 0)), (16, vColS t.fCols), (17, int .i64 t.fCols.length), (18, int .i64 i)], bx := [(5, cTable t), (7, cRow ⟨other⟩), (8, [.n [.sc (.int .i64 0), .sc (.int .i64 0), .sc (.string ⟨#[]⟩)]]), (9, [.r [990]])], rt := (mValS (rowBy cols t vals other i)).map fun y => (990, y) }) (fun E => t.fCols.length - (E.num 18).toNat) _ ((Gh.nlB _ 9 0 990 99 (fun _ => [.s, .s, .s]) [.sc (.int .i64 0), .sc (.int .i64 0), .sc (.string ⟨#[]⟩)]).trans (Gh.kb _ [0,2,5,7,8,9,16,17,18] [5, 7, 8, 9] [990])) ⟨0, by omega, by simp [mValS, rowBy]⟩ ?_
  rintro E1 ⟨i, hi, rfl⟩
  have hsl := rowBy_len cols t vals other i
  simp [mValS]
  refine ⟨fun h => ⟨h, ?_⟩, fun h => ?_⟩
  · have hb := idxS_bd cols (t.fCols[i]?.getD dCol).fName
    have hn : byName cols t vals other i = if 0 ≤ idxS cols (t.fCols[i]?.getD dCol).fName then vals[(idxS cols (t.fCols[i]?.getD dCol).fName).toNat]?.getD dVal else if (other.length : Int) = t.fCols.length then other[i]?.getD dVal else (t.fCols[i]?.getD dCol).fDef := rfl
    refine ⟨fun ho => ⟨by omega, .of (l10At_ok cols _ hc) ?_⟩, fun ho => .of (l10At_ok cols _ hc) ?_⟩
    · simp
      refine ⟨fun hp => ⟨⟨hp, by omega⟩, by omega, .of _ ((Gh.kb _ [0,2,5,7,8,9,16,17,18] [5, 7, 8, 9] [51]).trans (Gh.rn _ 51 990)) ⟨i + 1, by omega, ?_⟩ ?_⟩, fun hp => ⟨by omega, .of _ ((Gh.kb _ [0,2,5,7,8,9,16,17,18] [5, 7, 8, 9] [51]).trans (Gh.rn _ 51 990)) ⟨i + 1, by omega, ?_⟩ ?_⟩⟩
      · rw [rowBy_succ, hn, if_pos hp]
        simp [wrapS (show i < 9223372036854775807 by omega), mValS]
      · simp [wrapS (show i < 9223372036854775807 by omega)]; omega
      · rw [rowBy_succ, hn, if_neg (by omega), if_pos ho]
        simp [wrapS (show i < 9223372036854775807 by omega), mValS]
      · simp [wrapS (show i < 9223372036854775807 by omega)]; omega
    · simp
      refine ⟨fun hp => ⟨⟨hp, by omega⟩, by omega, .of _ ((Gh.kb _ [0,2,5,7,8,9,16,17,18] [5, 7, 8, 9] [51]).trans (Gh.rn _ 51 990)) ⟨i + 1, by omega, ?_⟩ ?_⟩, fun hp => ⟨by omega, .of _ ((Gh.kb _ [0,2,5,7,8,9,16,17,18] [5, 7, 8, 9] [51]).trans (Gh.rn _ 51 990)) ⟨i + 1, by omega, ?_⟩ ?_⟩⟩
      · rw [rowBy_succ, hn, if_pos hp]
        simp [wrapS (show i < 9223372036854775807 by omega), mValS]
      · simp [wrapS (show i < 9223372036854775807 by omega)]; omega
      · rw [rowBy_succ, hn, if_neg (by omega), if_neg ho]
        simp [wrapS (show i < 9223372036854775807 by omega), mValS]
      · simp [wrapS (show i < 9223372036854775807 by omega)]; omega
  · have : i = t.fCols.length := by omega
    subst this
    simp
def mapRow (cols : List ByteArray) (t : GTable) (vals other : List GVal) : GRow × Int :=
  if !(tableOk t && once cols && decide ((cols.length : Int) = vals.length)) then (⟨[]⟩, 1) else if unk t cols then (⟨[]⟩, 11) else if rowFit t ⟨rowBy cols t vals other t.fCols.length⟩ then (⟨rowBy cols t vals other t.fCols.length⟩, 0) else (⟨[]⟩, 14)
set_option maxHeartbeats 8000000 in
set_option maxRecDepth 4000 in
theorem l10Map_ok (cols : List ByteArray) (t : GTable) (vals other : List GVal) (o0 : okStrS cols) (o1 : okTable t) (ht : t.fCols.length ≤ 1048576) :
    VC Try.prog 68 [vStrS cols, vTable t, vValS vals, vRow ⟨other⟩] [(true, mRow (mapRow cols t vals other).1), (false, [(.s, .sc (.int .i64 (mapRow cols t vals other).2))])] := by
  have hcl : cols.length ≤ 9223372036854775807 := o0.1
  refine vc_of_ew good hm [0,1,2,3,5,7,8,9,27,29,30,31,32,11,38,12,49] Try.func68 rfl (by kernel_rfl) (by kernel_rfl) rfl ?_
  simp [Try.f68, mRow]
  refine .of (tableOkS_ok t o1) ?_
  simp
  refine .of (fun h => ⟨h, l10Once_ok cols o0⟩) ?_
  simp
  refine ⟨fun h => ?_, fun a1 a2 a3 => ?_⟩
  · have : mapRow cols t vals other = (⟨[]⟩, 1) := by grind [mapRow]
    simp [this]
  refine ew_loop (fun E => ∃ i : Nat, i ≤ cols.length ∧ anyT (fun c => decide (colAt t c < 0)) cols i = false ∧ E = { nt := 52, sl := [(0, vStrS cols), (2, vValS vals), (5, .p (.bx 5 0)), (7, .p (.bx 7 0)), (8, .p (.bx 8 0)), (29, vStrS cols), (30, int .i64 cols.length), (31, int .i64 i)], bx := [(5, cTable t), (7, cRow ⟨other⟩), (8, [.n [.sc (.int .i64 0), .sc (.int .i64 0), .sc (.string ⟨#[]⟩)]])], rt := [] }) (fun E => cols.length - (E.num 31).toNat) _ (Gh.kb _ [0,2,5,7,8,29,30,31] [5, 7, 8] []) ⟨0, by omega, anyT_zero _ _, by simp⟩ ?_
  rintro E1 ⟨i, hi, hall, rfl⟩
  simp
  refine ⟨fun h => ⟨h, .of (colAtS_ok t _ o1.2.1.1) ?_⟩, fun h => ?_⟩
  · simp
    refine ⟨fun hp => ?_, fun hp => .of _ (Gh.kb _ [0,2,5,7,8,29,30,31] [5, 7, 8] []) ⟨i + 1, by omega, by rw [anyT_succ _ ⟨#[]⟩ h, hall]; simpa using hp, ?_⟩ ?_⟩
    · have hu : unk t cols = true := List.any_eq_true.2 ⟨_, getD_mem ⟨#[]⟩ h, by simpa using hp⟩
      have : mapRow cols t vals other = (⟨[]⟩, 11) := by simp [mapRow, hu, a1, a2, a3]
      simp [this]
    · simp [wrapS (show i < 9223372036854775807 by omega)]
    · simp [wrapS (show i < 9223372036854775807 by omega)]; omega
  · have : i = cols.length := by omega
    subst this
    have hu : unk t cols = false := by rw [anyT_all] at hall; exact hall
    refine .of (l10Row_ok cols t vals other o0.1 ht a3) ?_
    simp [mRow]
    refine .of (rowOkS_ok t ⟨rowBy cols t vals other t.fCols.length⟩ o1 (by simp [rowBy_len, okM]; omega)) ?_
    simp [a1]
    refine ⟨fun hf => ?_, fun hf => ?_⟩
    · have : mapRow cols t vals other = (⟨[]⟩, 14) := by simp [mapRow, hu, a1, a2, a3, hf]
      simp [this]
    · have : mapRow cols t vals other = (⟨rowBy cols t vals other t.fCols.length⟩, 0) := by simp [mapRow, hu, a1, a2, a3, hf]
      simp [this]
set_option maxHeartbeats 8000000 in
theorem S_MapRow_ok (cols : List ByteArray) (t : GTable) (vals : List GVal) (o0 : okStrS cols) (h0 : ∀ n ∈ wStrS cols, n ≤ 1048576) (_ : (wStrS cols).sum ≤ 1048576) (o1 : okTable t) (h1 : ∀ n ∈ wTable t, n ≤ 1048576) (_ : (wTable t).sum ≤ 1048576) (o2 : okValS vals) (_ : ∀ n ∈ wValS vals, n ≤ 1048576) (_ : (wValS vals).sum ≤ 1048576) :
    VC Try.prog 23 [vStrS cols, vTable t, vValS vals] [(true, mRow (mapRow cols t vals []).1), (false, [(.s, .sc (.int .i64 (mapRow cols t vals []).2))])] := by
  refine vc_of_ew good hm [0,1,2,4,6,7] Try.func23 rfl (by kernel_rfl) (by kernel_rfl) rfl ?_
  simp [Try.f23, mRow]
  refine .of (l10Map_ok cols t vals [] o0 o1 (h1 _ (by simp [wTable, wColS]))) ?_
  simp [mRow]
set_option maxHeartbeats 8000000 in
set_option maxRecDepth 4000 in
theorem I_MapRow_ok (cols : List ByteArray) (t : GTable) (vals : List GVal) (o0 : okStrS cols) (h0 : ∀ n ∈ wStrS cols, n ≤ 1048576) (_ : (wStrS cols).sum ≤ 1048576) (o1 : okTable t) (h1 : ∀ n ∈ wTable t, n ≤ 1048576) (_ : (wTable t).sum ≤ 1048576) (o2 : okValS vals) (_ : ∀ n ∈ wValS vals, n ≤ 1048576) (_ : (wValS vals).sum ≤ 1048576) :
    VC Try.prog 24 [vStrS cols, vTable t, vValS vals] [(true, mRow (mapRow cols t vals []).1), (false, [(.s, .sc (.int .i64 (mapRow cols t vals []).2))])] := by
  have ht : t.fCols.length ≤ 1048576 := h1 _ (by simp [wTable, wColS])
  refine vc_of_ew good hm [0,1,2,4,6,7,13,29,8,36,37,38,39,10,11,12,49,64] Try.func24 rfl (by kernel_rfl) (by kernel_rfl) rfl ?_
  simp [Try.f24, mRow]
  refine .of (tableOkI_ok t o1) ?_
  simp
  refine .of (fun h => ⟨h, isTwice_ok cols o0⟩) ?_
  simp
  refine ⟨fun h => ?_, fun a1 a2 a3 => .of (isUnknown_ok t cols o1.2.1.1 o0.1) ?_⟩
  · have : mapRow cols t vals [] = (⟨[]⟩, 1) := by grind [mapRow]
    simp [this]
  simp
  refine ⟨fun h => ?_, fun a4 => ?_⟩
  · have : mapRow cols t vals [] = (⟨[]⟩, 11) := by grind [mapRow]
    simp [this]
  have hpos : ¬ (([] : List GVal).length : Int) = t.fCols.length := by
    simp only [tableOk, within, Bool.and_eq_true, decide_eq_true_eq] at a1
    simp
    omega
  refine ew_loop (fun E => ∃ i : Nat, i ≤ t.fCols.length ∧ E = { nt := 67, sl := [(0, vStrS cols), (2, vValS vals), (4, .p (.bx 4 0)), (6, .p (.bx 6 0)), (8, .p (.bx 8 0)), (36, vColS t.fCols), (37, int .i64 t.fCols.length), (38, int .i64 i)], bx := [(4, cTable t), (6, [.n [.sc (.int .i64 0), .sc (.int .i64 0), .sc (.string ⟨#[]⟩)]]), (8, [.r [990]])], rt := (mValS (rowBy cols t vals [] i)).map fun y => (990, y) }) (fun E => t.fCols.length - (E.num 38).toNat) _ ((Gh.nlB _ 8 0 990 99 (fun _ => [.s, .s, .s]) [.sc (.int .i64 0), .sc (.int .i64 0), .sc (.string ⟨#[]⟩)]).trans (Gh.kb _ [0,2,4,6,8,36,37,38] [4, 6, 8] [990])) ⟨0, by omega, by simp [mValS, rowBy]⟩ ?_
  rintro E1 ⟨i, hi, rfl⟩
  have hsl := rowBy_len cols t vals [] i
  simp [mValS]
  refine ⟨fun h => ⟨h, .of (indexStr_ok cols _ o0.1) ?_⟩, fun h => ?_⟩
  · rw [idxS_flip]
    have hb := idxS_bd cols (t.fCols[i]?.getD dCol).fName
    have hn : byName cols t vals [] i = if 0 ≤ idxS cols (t.fCols[i]?.getD dCol).fName then vals[(idxS cols (t.fCols[i]?.getD dCol).fName).toNat]?.getD dVal else if (([] : List GVal).length : Int) = t.fCols.length then ([] : List GVal)[i]?.getD dVal else (t.fCols[i]?.getD dCol).fDef := rfl
    simp
    refine ⟨fun hp => ⟨⟨hp, by omega⟩, by omega, .of _ ((Gh.kb _ [0,2,4,6,8,36,37,38] [4, 6, 8] [58]).trans (Gh.rn _ 58 990)) ⟨i + 1, by omega, ?_⟩ ?_⟩, fun hp => ⟨by omega, .of _ ((Gh.kb _ [0,2,4,6,8,36,37,38] [4, 6, 8] [58]).trans (Gh.rn _ 58 990)) ⟨i + 1, by omega, ?_⟩ ?_⟩⟩
    · rw [rowBy_succ, hn, if_pos hp]
      simp [wrapS (show i < 9223372036854775807 by omega), mValS]
    · simp [wrapS (show i < 9223372036854775807 by omega)]; omega
    · rw [rowBy_succ, hn, if_neg (by omega), if_neg hpos]
      simp [wrapS (show i < 9223372036854775807 by omega), mValS]
    · simp [wrapS (show i < 9223372036854775807 by omega)]; omega
  · have : i = t.fCols.length := by omega
    subst this
    refine .of (rowOkI_ok t ⟨rowBy cols t vals [] t.fCols.length⟩ o1 (by simp [rowBy_len, okM]; omega)) ?_
    simp
    refine ⟨fun hf => ?_, fun hf => ?_⟩
    · have : mapRow cols t vals [] = (⟨[]⟩, 14) := by grind [mapRow]
      simp [this]
    · have : mapRow cols t vals [] = (⟨rowBy cols t vals [] t.fCols.length⟩, 0) := by grind [mapRow]
      simp [this]
theorem List.single_le_sum'' {l : List Nat} {n : Nat} (h : n ∈ l) : n ≤ l.sum := by
  induction l with
  | nil => cases h
  | cons x r ih =>
    rcases List.mem_cons.1 h with rfl | h
    · simp
    · have := ih h; simp; omega
theorem sum_flat_mem {α : Type} {w : α → List Nat} {l : List α} {v : α} (hv : v ∈ l) : (w v).sum ≤ (l.flatMap w).sum := by
  induction l with
  | nil => cases hv
  | cons x r ih =>
    simp only [List.flatMap_cons, List.sum_append]
    rcases List.mem_cons.1 hv with rfl | hv
    · omega
    · have := ih hv; omega
theorem sum_flat_le {α : Type} {w : α → List Nat} {l : List α} {B : Nat} (h : ∀ v ∈ l, (w v).sum ≤ B) : (l.flatMap w).sum ≤ l.length * B := by
  induction l with
  | nil => simp
  | cons x r ih =>
    simp only [List.flatMap_cons, List.sum_append, List.length_cons, Nat.add_mul]
    have h1 := h x (by simp)
    have h2 := ih fun v hv => h v (by simp [hv])
    omega
theorem colDef_w {t : GTable} (h : (wTable t).sum ≤ 1048576) (i : Nat) : (wVal (t.fCols[i]?.getD dCol).fDef).sum ≤ 1048575 := by
  by_cases hi : i < t.fCols.length
  · have h1 := sum_flat_mem (w := wCol) (getD_mem dCol hi)
    have h2 : (wVal (t.fCols[i]?.getD dCol).fDef).sum ≤ (wCol (t.fCols[i]?.getD dCol)).sum := by simp [wCol]
    have h3 : t.fCols.length + (t.fCols.flatMap wCol).sum ≤ 1048576 := by
      have : (wTable t).sum = t.fName.size + ((t.fCols.length + (t.fCols.flatMap wCol).sum) + (wStrS t.fKeys).sum) := by simp [wTable, wColS]; omega
      omega
    omega
  · rw [List.getElem?_eq_none (by omega)]
    exact Nat.zero_le _
theorem rowBy_w (cols : List ByteArray) (t : GTable) (vals : List GVal) (ht : (wTable t).sum ≤ 1048576) (hz : (wValS vals).sum ≤ 1048576) (n : Nat) : ∀ v ∈ rowBy cols t vals [] n, (wVal v).sum ≤ 1048575 := by
  intro v hv
  obtain ⟨i, _, rfl⟩ := List.mem_map.1 hv
  unfold byName
  split
  · cases hx : vals[(idxS cols (t.fCols[i]?.getD dCol).fName).toNat]? with
    | none => exact Nat.zero_le _
    | some v => exact valS_w hz v (List.mem_of_getElem? hx)
  split
  · exact Nat.zero_le _
  · exact colDef_w ht i
theorem valS_r0 {l : List GVal} (hl : l.length ≤ 1048576) (h : ∀ v ∈ l, (wVal v).sum ≤ 1048575) : (∀ n' ∈ wValS l, n' ≤ 1048576) ∧ (wValS l).sum ≤ 1099511627776 := by
  refine ⟨fun n hn => ?_, ?_⟩
  · simp only [wValS, List.mem_cons] at hn
    rcases hn with rfl | hn
    · exact hl
    · obtain ⟨v, hv, hn⟩ := List.mem_flatMap.1 hn
      have := List.single_le_sum'' hn
      have := h v hv
      omega
  · have := sum_flat_le h
    simp only [wValS, List.sum_cons]
    omega
theorem MapRow_r0 (cols : List ByteArray) (t : GTable) (vals : List GVal) (o0 : okStrS cols) (h0 : ∀ n ∈ wStrS cols, n ≤ 1048576) (_ : (wStrS cols).sum ≤ 1048576) (o1 : okTable t) (h1 : ∀ n ∈ wTable t, n ≤ 1048576) (hz1 : (wTable t).sum ≤ 1048576) (o2 : okValS vals) (_ : ∀ n ∈ wValS vals, n ≤ 1048576) (hz : (wValS vals).sum ≤ 1048576) :
    (∀ n' ∈ wRow (mapRow cols t vals []).1, n' ≤ 1048576) ∧ (wRow (mapRow cols t vals []).1).sum ≤ 1099511627776 := by
  have ht : t.fCols.length ≤ 1048576 := h1 _ (by simp [wTable, wColS])
  have key : ∀ l : List GVal, (∀ n' ∈ wValS l, n' ≤ 1048576) ∧ (wValS l).sum ≤ 1099511627776 → (∀ n' ∈ wRow ⟨l⟩, n' ≤ 1048576) ∧ (wRow ⟨l⟩).sum ≤ 1099511627776 := fun l h => by simpa [wRow] using h
  unfold mapRow
  split
  · exact key [] (valS_r0 (by simp) (by simp))
  split
  · exact key [] (valS_r0 (by simp) (by simp))
  split
  · exact key _ (valS_r0 (by rw [rowBy_len]; exact ht) (rowBy_w cols t vals hz1 hz _))
  · exact key [] (valS_r0 (by simp) (by simp))
-- r0 MapRow (mapRow p0 p1 p2 []).1

end Go.Proofs.Ytkbknmcafiepgaa
