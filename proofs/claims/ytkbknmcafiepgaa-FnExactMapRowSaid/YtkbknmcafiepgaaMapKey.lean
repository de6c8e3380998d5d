import Derived.Test.YtkbknmcafiepgaaKeyOk
import Derived.Test.YtkbknmcafiepgaaDrift
namespace Go.Proofs.Ytkbknmcafiepgaa
open Go Go.Proofs Go.Sm
attribute [local simp] ti eStr eInt eByte eVal cVal vVal eValS vValS eRow cRow vRow eCol cCol vCol eColS vColS eStrS vStrS eDdl cDdl vDdl eStmt cStmt vStmt ePart cPart vPart ePartS vPartS eBatch cBatch vBatch eTable cTable vTable eTableS vTableS eCat cCat vCat eRowS vRowS eRows cRows vRows eRowsS vRowsS eDb cDb vDb eRec cRec vRec eRecS vRecS eStmtS vStmtS
set_option linter.unusedVariables false
set_option linter.unusedSimpArgs false


def idxS (l : List ByteArray) (s : ByteArray) : Int := idxF (fun x => x.toList == s.toList) l
theorem idxS_flip (l : List ByteArray) (s : ByteArray) : idxF (fun x => s.toList == x.toList) l = idxS l s := by
  unfold idxS
  congr 1
  funext x
  exact Bool.beq_comm
theorem idxS_bd (l : List ByteArray) (s : ByteArray) : -1 ≤ idxS l s ∧ idxS l s < l.length := idxF_bd _ _
theorem idxS_has (l : List ByteArray) (s : ByteArray) : decide (0 ≤ idxS l s) = has l s := by
  rw [← has_flip]
  exact idxF_ge _ _
theorem idxS_in {l : List ByteArray} {s : ByteArray} (h : has l s = true) : 0 ≤ idxS l s := by
  rw [← idxS_has] at h
  simpa using h
set_option maxHeartbeats 4000000 in
theorem l10At_ok (l : List ByteArray) (s : ByteArray) (hl : okM l.length) : VC Try.prog 55 [vStrS l, str s] [(false, [(.s, .sc (.int .i64 (idxS l s)))])] := by
  unfold okM at hl
  refine vc_of_ew good hm [0,1,4,7,8,9,10,5,6,16] Try.func55 rfl (by kernel_rfl) (by kernel_rfl) rfl ?_
  simp [Try.f55]
  refine ew_loop (fun E => ∃ i : Nat, i ≤ l.length ∧ anyT (fun x => x.toList == s.toList) l i = false ∧ E = { nt := 19, sl := [(1, str s), (7, vStrS l), (8, int .i64 l.length), (9, int .i64 i)], bx := [], rt := [] }) (fun E => l.length - (E.num 9).toNat) _ (Gh.kb _ [1,7,8,9] [] []) ⟨0, by omega, anyT_zero _ _, by simp⟩ ?_
  rintro E1 ⟨i, hi, hall, rfl⟩
  simp
  refine ⟨fun h => ⟨h, fun hp => (idxF_at _ ⟨#[]⟩ h hall (by simpa using hp)).symm, fun hp => .of _ (Gh.kb _ [1,7,8,9] [] []) ⟨i + 1, by omega, by rw [anyT_succ _ ⟨#[]⟩ h, hall]; simpa using hp, ?_⟩ ?_⟩, fun h => ?_⟩
  · simp [wrapS (show i < 9223372036854775807 by omega)]
  · simp [wrapS (show i < 9223372036854775807 by omega)]; omega
  · have : i = l.length := by omega
    subst this
    rw [anyT_all] at hall
    exact (idxF_no _ hall).symm
def keyMap (keys : List ByteArray) (vals : List GVal) (l : List ByteArray) : List GVal := l.map fun k => vals[(idxS keys k).toNat]?.getD dVal
theorem keyMap_succ (keys : List ByteArray) (vals : List GVal) {l : List ByteArray} {i : Nat} (h : i < l.length) : keyMap keys vals (l.take (i + 1)) = keyMap keys vals (l.take i) ++ [vals[(idxS keys (l[i]?.getD ⟨#[]⟩)).toNat]?.getD dVal] := by
  unfold keyMap
  rw [List.take_succ_eq_append_getElem h, List.map_append, List.getElem?_eq_getElem h]
  rfl
def mapKey (keys : List ByteArray) (t : GTable) (vals : List GVal) : List GVal × Int :=
  if !(tableOk t && once keys && decide ((keys.length : Int) = vals.length)) then ([], 1) else if !areKeys t keys then ([], 12) else if keyOk t (keyMap keys vals t.fKeys) then (keyMap keys vals t.fKeys, 0) else ([], 14)
theorem allIn_at {a b : List ByteArray} (h : allIn a b = true) {i : Nat} (hi : i < a.length) : has b (a[i]?.getD ⟨#[]⟩) = true := by
  unfold allIn at h
  rw [Bool.not_eq_true', List.any_eq_false] at h
  have := h _ (getD_mem ⟨#[]⟩ hi)
  simpa using this
set_option maxHeartbeats 8000000 in
set_option maxRecDepth 4000 in
theorem I_MapKey_ok (keys : List ByteArray) (t : GTable) (vals : List GVal) (o0 : okStrS keys) (h0 : ∀ n ∈ wStrS keys, n ≤ 1048576) (_ : (wStrS keys).sum ≤ 1048576) (o1 : okTable t) (h1 : ∀ n ∈ wTable t, n ≤ 1048576) (_ : (wTable t).sum ≤ 1048576) (o2 : okValS vals) (_ : ∀ n ∈ wValS vals, n ≤ 1048576) (_ : (wValS vals).sum ≤ 1048576) :
    VC Try.prog 15 [vStrS keys, vTable t, vValS vals] [(false, mValS (mapKey keys t vals).1), (false, [(.s, .sc (.int .i64 (mapKey keys t vals).2))])] := by
  have hkl : t.fKeys.length ≤ 1048576 := h1 _ (by simp [wTable, wStrS])
  refine vc_of_ew good hm [0,1,2,4,6,7,11,26,8,33,34,35,36,10,52] Try.func15 rfl (by kernel_rfl) (by kernel_rfl) rfl ?_
  simp [Try.f15, mValS]
  refine .of (tableOkI_ok t o1) ?_
  simp
  refine .of (fun h => ⟨h, isTwice_ok keys o0⟩) ?_
  simp
  refine ⟨fun h => ?_, fun a1 a2 a3 => .of (areKeys_ok t keys o1.2.2.1.1 o0.1) ?_⟩
  · have : mapKey keys t vals = ([], 1) := by grind [mapKey]
    simp [this]
  simp
  refine ⟨fun h => ?_, fun a4 => ?_⟩
  · have : mapKey keys t vals = ([], 12) := by grind [mapKey]
    simp [this]
  have hin : allIn t.fKeys keys = true := by
    unfold areKeys at a4
    simp only [Bool.and_eq_true] at a4
    exact a4.2
  refine ew_loop (fun E => ∃ i : Nat, i ≤ t.fKeys.length ∧ E = { nt := 54, sl := [(0, vStrS keys), (2, vValS vals), (4, .p (.bx 4 0)), (8, .v false [.r [31]]), (33, vStrS t.fKeys), (34, int .i64 t.fKeys.length), (35, int .i64 i)], bx := [(4, cTable t)], rt := (mValS (keyMap keys vals (t.fKeys.take i))).map fun y => (31, y) }) (fun E => t.fKeys.length - (E.num 35).toNat) _ (Gh.kb _ [0,2,4,8,33,34,35] [4] [31]) ⟨0, by omega, by simp [mValS, keyMap]⟩ ?_
  rintro E1 ⟨i, hi, rfl⟩
  have hsl : (keyMap keys vals (t.fKeys.take i)).length = i := by simp [keyMap]; omega
  simp [mValS]
  refine ⟨fun h => ⟨h, .of (indexStr_ok keys _ o0.1) ?_⟩, fun h => ?_⟩
  · rw [idxS_flip]
    have hb := idxS_bd keys (t.fKeys[i]?.getD ⟨#[]⟩)
    have hg := idxS_in (allIn_at hin h)
    simp
    refine ⟨⟨hg, by omega⟩, by omega, .of _ ((Gh.kb _ [0,2,4,8,33,34,35] [4] [47]).trans (Gh.rn _ 47 31)) ⟨i + 1, by omega, ?_⟩ ?_⟩
    · rw [keyMap_succ keys vals h]
      simp [wrapS (show i < 9223372036854775807 by omega), mValS]
    · simp [wrapS (show i < 9223372036854775807 by omega)]; omega
  · have : i = t.fKeys.length := by omega
    subst this
    simp only [List.take_length]
    refine .of (keyOkI_ok t (keyMap keys vals t.fKeys) o1 (by simp [keyMap, okM]; omega)) ?_
    simp
    refine ⟨fun h => ?_, fun h => ?_⟩
    · have : mapKey keys t vals = ([], 14) := by grind [mapKey]
      simp [this]
    · have : mapKey keys t vals = (keyMap keys vals t.fKeys, 0) := by grind [mapKey]
      simp [this]
set_option maxHeartbeats 8000000 in
set_option maxRecDepth 4000 in
theorem S_MapKey_ok (keys : List ByteArray) (t : GTable) (vals : List GVal) (o0 : okStrS keys) (h0 : ∀ n ∈ wStrS keys, n ≤ 1048576) (_ : (wStrS keys).sum ≤ 1048576) (o1 : okTable t) (h1 : ∀ n ∈ wTable t, n ≤ 1048576) (_ : (wTable t).sum ≤ 1048576) (o2 : okValS vals) (_ : ∀ n ∈ wValS vals, n ≤ 1048576) (_ : (wValS vals).sum ≤ 1048576) :
    VC Try.prog 11 [vStrS keys, vTable t, vValS vals] [(false, mValS (mapKey keys t vals).1), (false, [(.s, .sc (.int .i64 (mapKey keys t vals).2))])] := by
  have hkl : t.fKeys.length ≤ 1048576 := h1 _ (by simp [wTable, wStrS])
  refine vc_of_ew good hm [0,1,2,4,6,7,25,37,8,40,41,42,43,10,59] Try.func11 rfl (by kernel_rfl) (by kernel_rfl) rfl ?_
  simp [Try.f11, mValS]
  refine .of (tableOkS_ok t o1) ?_
  simp
  refine .of (fun h => ⟨h, l10Once_ok keys o0⟩) ?_
  simp
  refine ⟨fun h => ?_, fun a1 a2 a3 => .of (l10All_ok keys t.fKeys o0.1 o1.2.2.1.1) ?_⟩
  · have : mapKey keys t vals = ([], 1) := by grind [mapKey]
    simp [this]
  simp
  refine .of (fun h => ⟨h, l10All_ok t.fKeys keys o1.2.2.1.1 o0.1⟩) ?_
  simp
  have hsame := areKeys_same (keys := keys) a1 a2
  refine ⟨fun h => ?_, fun a4 a5 => ?_⟩
  · have : mapKey keys t vals = ([], 12) := by grind [mapKey]
    simp [this]
  have hin : allIn t.fKeys keys = true := a5
  have a6 : areKeys t keys = true := by rw [hsame, a4, a5]; rfl
  refine ew_loop (fun E => ∃ i : Nat, i ≤ t.fKeys.length ∧ E = { nt := 61, sl := [(0, vStrS keys), (2, vValS vals), (4, .p (.bx 4 0)), (8, .v false [.r [38]]), (40, vStrS t.fKeys), (41, int .i64 t.fKeys.length), (42, int .i64 i)], bx := [(4, cTable t)], rt := (mValS (keyMap keys vals (t.fKeys.take i))).map fun y => (38, y) }) (fun E => t.fKeys.length - (E.num 42).toNat) _ (Gh.kb _ [0,2,4,8,40,41,42] [4] [38]) ⟨0, by omega, by simp [mValS, keyMap]⟩ ?_
  rintro E1 ⟨i, hi, rfl⟩
  have hsl : (keyMap keys vals (t.fKeys.take i)).length = i := by simp [keyMap]; omega
  simp [mValS]
  refine ⟨fun h => ⟨h, .of (l10At_ok keys _ o0.1) ?_⟩, fun h => ?_⟩
  · have hb := idxS_bd keys (t.fKeys[i]?.getD ⟨#[]⟩)
    have hg := idxS_in (allIn_at hin h)
    simp
    refine ⟨⟨hg, by omega⟩, by omega, .of _ ((Gh.kb _ [0,2,4,8,40,41,42] [4] [54]).trans (Gh.rn _ 54 38)) ⟨i + 1, by omega, ?_⟩ ?_⟩
    · rw [keyMap_succ keys vals h]
      simp [wrapS (show i < 9223372036854775807 by omega), mValS]
    · simp [wrapS (show i < 9223372036854775807 by omega)]; omega
  · have : i = t.fKeys.length := by omega
    subst this
    simp only [List.take_length]
    refine .of (keyOkS_ok t (keyMap keys vals t.fKeys) o1 (by simp [keyMap, okM]; omega)) ?_
    simp
    refine ⟨fun h => ?_, fun h => ?_⟩
    · have : mapKey keys t vals = ([], 14) := by grind [mapKey]
      simp [this]
    · have : mapKey keys t vals = (keyMap keys vals t.fKeys, 0) := by grind [mapKey]
      simp [this]
theorem keyMap_w (keys : List ByteArray) (vals : List GVal) (l : List ByteArray) (B : Nat) (hv : ∀ v ∈ vals, (wVal v).sum ≤ B) : ((keyMap keys vals l).flatMap wVal).sum ≤ l.length * B := by
  induction l with
  | nil => simp [keyMap]
  | cons k l ih =>
    simp only [keyMap, List.map_cons, List.flatMap_cons, List.sum_append] at ih ⊢
    have : (wVal (vals[(idxS keys k).toNat]?.getD dVal)).sum ≤ B := by
      cases hx : vals[(idxS keys k).toNat]? with
      | none => exact Nat.zero_le _
      | some v => exact hv v (List.mem_of_getElem? hx)
    rw [List.length_cons, Nat.add_mul]
    omega
theorem valS_w {l : List GVal} (h : (wValS l).sum ≤ 1048576) : ∀ v ∈ l, (wVal v).sum ≤ 1048575 := by
  intro v hv
  have h1 : (wVal v).sum ≤ (l.flatMap wVal).sum := by
    clear h
    induction l with
    | nil => cases hv
    | cons x r ih =>
      simp only [List.flatMap_cons, List.sum_append]
      rcases List.mem_cons.1 hv with rfl | hv
      · omega
      · have := ih hv; omega
  have h2 : l.length + (l.flatMap wVal).sum ≤ 1048576 := by simpa [wValS] using h
  have h3 := List.length_pos_of_mem hv
  omega
theorem MapKey_r0 (keys : List ByteArray) (t : GTable) (vals : List GVal) (o0 : okStrS keys) (h0 : ∀ n ∈ wStrS keys, n ≤ 1048576) (_ : (wStrS keys).sum ≤ 1048576) (o1 : okTable t) (h1 : ∀ n ∈ wTable t, n ≤ 1048576) (_ : (wTable t).sum ≤ 1048576) (o2 : okValS vals) (h2 : ∀ n ∈ wValS vals, n ≤ 1048576) (hz : (wValS vals).sum ≤ 1048576) :
    (∀ n' ∈ wValS (mapKey keys t vals).1, n' ≤ 1048576) ∧ (wValS (mapKey keys t vals).1).sum ≤ 1099511627776 := by
  have hkl : t.fKeys.length ≤ 1048576 := h1 _ (by simp [wTable, wStrS])
  unfold mapKey
  split
  · simp [wValS]
  split
  · simp [wValS]
  split
  · rename_i hok
    have hv := valS_w hz
    refine ⟨fun n hn => ?_, ?_⟩
    · simp only [wValS, List.mem_cons] at hn
      rcases hn with rfl | hn
      · simp [keyMap]; omega
      · obtain ⟨v, hv1, hn⟩ := List.mem_flatMap.1 hn
        unfold keyMap at hv1
        obtain ⟨k, _, rfl⟩ := List.mem_map.1 hv1
        cases hx : vals[(idxS keys k).toNat]? with
        | none =>
          rw [hx] at hn
          simp only [Option.getD_none, dVal, wVal, List.mem_cons, List.not_mem_nil, or_false] at hn
          subst hn
          exact Nat.zero_le _
        | some v =>
          rw [hx] at hn
          exact h2 n (List.mem_cons_of_mem _ (List.mem_flatMap.2 ⟨v, List.mem_of_getElem? hx, hn⟩))
    · have := keyMap_w keys vals t.fKeys 1048575 hv
      simp only [wValS, List.sum_cons]
      have hl : (keyMap keys vals t.fKeys).length = t.fKeys.length := by simp [keyMap]
      omega
  · simp [wValS]
-- r0 MapKey (mapKey p0 p1 p2).1

end Go.Proofs.Ytkbknmcafiepgaa
