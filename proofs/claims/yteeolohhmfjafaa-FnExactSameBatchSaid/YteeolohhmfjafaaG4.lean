import Derived.Test.YteeolohhmfjafaaG3
/-! Sm22 -/
namespace Go.Sm

def szL : List Nat → Int → Int
  | [], left => left
  | s :: r, left => if left - s < 0 then -1 else szL r (left - s)
theorem szL_app : ∀ (a b : List Nat) (left : Int), 0 ≤ left → szL (a ++ b) left = if szL a left < 0 then -1 else szL b (szL a left)
  | [], b, left, h => by simp [szL]; omega
  | s :: r, b, left, h => by
    simp only [List.cons_append, szL]
    split
    · rfl
    · exact szL_app r b _ (by omega)
theorem szL_neg : ∀ (l : List Nat) (left : Int), 0 ≤ left → szL l left < 0 → szL l left = -1
  | [], left, h0, h => by simp [szL] at h; omega
  | s :: r, left, h0, h => by
    simp only [szL] at h ⊢
    split at h
    · rename_i h1; rw [if_pos h1]
    · rename_i h1; rw [if_neg h1]; exact szL_neg r _ (by omega) h
theorem szL_le : ∀ (l : List Nat) (left : Int), 0 ≤ szL l left → 0 ≤ left → szL l left + (l.sum : Nat) ≤ left ∧ ∀ n ∈ l, (n : Int) ≤ left
  | [], left, h, _ => ⟨by simp [szL], fun n h => by cases h⟩
  | s :: r, left, h, h0 => by
    simp only [szL] at h ⊢
    split at h
    · omega
    · rename_i h1
      rw [if_neg h1]
      obtain ⟨q1, q2⟩ := szL_le r _ h (by omega)
      refine ⟨by simp only [List.sum_cons]; omega, fun n hn => ?_⟩
      rcases List.mem_cons.1 hn with rfl | hn
      · omega
      · have := q2 n hn; omega
theorem szL_le' {l : List Nat} {left : Int} (h0 : 0 ≤ left) : szL l left ≤ left := by
  by_cases h : 0 ≤ szL l left
  · have := (szL_le l left h h0).1; omega
  · omega
/-- One round of a loop over rows. -/
theorem szF_step {α : Type} (wt : α → List Nat) {l : List α} {i : Nat} {L : Int} (d : α) (h : i < l.length) (hL : 0 ≤ L) (h0 : 0 ≤ szL ((l.take i).flatMap wt) L) :
    (szL (wt (l[i]?.getD d)) (szL ((l.take i).flatMap wt) L) < 0 → szL (l.flatMap wt) L = -1) ∧
    szL ((l.take (i + 1)).flatMap wt) L = szL (wt (l[i]?.getD d)) (szL ((l.take i).flatMap wt) L) := by
  have e1 : l = l.take i ++ (l[i] :: l.drop (i + 1)) := by simp
  have e2 : l.take (i + 1) = l.take i ++ [l[i]] := by rw [List.take_succ_eq_append_getElem h]
  rw [List.getElem?_eq_getElem h, Option.getD_some]
  have e3 : szL ((l.take (i + 1)).flatMap wt) L = szL (wt l[i]) (szL ((l.take i).flatMap wt) L) := by
    rw [e2, List.flatMap_append, szL_app _ _ _ hL, if_neg (by omega)]
    simp
  refine ⟨fun hn => ?_, e3⟩
  conv => lhs; rw [e1]
  rw [List.flatMap_append, szL_app _ _ _ hL, if_neg (by omega), List.flatMap_cons, szL_app _ _ _ h0, if_pos hn]
theorem mem_flat {α β : Type} {wt : α → List β} {l : List α} {i : Nat} {d : α} {n : β} (h : i < l.length) (hn : n ∈ wt (l[i]?.getD d)) : n ∈ l.flatMap wt := by
  rw [List.getElem?_eq_getElem h] at hn
  exact List.mem_flatMap.2 ⟨_, List.getElem_mem h, hn⟩
theorem getD_mem {α : Type} {l : List α} {i : Nat} (d : α) (h : i < l.length) : l[i]?.getD d ∈ l := by
  rw [List.getElem?_eq_getElem h]
  exact List.getElem_mem h

abbrev zStr : List Lf := [.sc (.string ⟨#[]⟩)]
abbrev zByte : List Lf := [.sc (.int .u8 0)]
abbrev zInt : List Lf := [.sc (.int .i64 0)]
def eStr (s : ByteArray) : List Lf := [.sc (.string s)]
@[simp] theorem rowByte_e (b : UInt8) : rowByte (eByte b) = b := by simp [rowByte, eByte]
@[simp] theorem rowByte_map (l : List UInt8) : (l.map eByte).map rowByte = l := by
  rw [List.map_map]
  conv => rhs; rw [← List.map_id l]
  exact List.map_congr_left fun b _ => rowByte_e b
@[simp] theorem rowByte_l (b : UInt8) : rowByte [.sc (.int .u8 (b.toNat : Int))] = b := rowByte_e b
@[simp] theorem isByteRow_l (b : UInt8) : isByteRow [.sc (.int .u8 (b.toNat : Int))] := ⟨b, rfl⟩
@[simp] theorem isByteRow_e (b : UInt8) : isByteRow (eByte b) := ⟨b, rfl⟩
def eInt (n : Int) : List Lf := [.sc (.int .i64 n)]
@[simp] theorem row_Str (l : List ByteArray) (i : Nat) : (Option.map eStr l[i]?).getD zStr = eStr (l[i]?.getD ⟨#[]⟩) := by cases l[i]? <;> rfl
@[simp] theorem row_Byte (l : List UInt8) (i : Nat) : (Option.map eByte l[i]?).getD zByte = eByte (l[i]?.getD 0) := by cases l[i]? <;> rfl
@[simp] theorem row_Int (l : List Int) (i : Nat) : (Option.map eInt l[i]?).getD zInt = eInt (l[i]?.getD 0) := by cases l[i]? <;> rfl
def okM (n : Nat) : Prop := n ≤ 9223372036854775807
def okI (n : Int) : Prop := -9223372036854775808 ≤ n ∧ n ≤ 9223372036854775807
theorem okI_wf {n : Int} (h : (Lit.int .i64 n).wf = true) : okI n := by
  simp [Lit.wf, IntKind.min, IntKind.max, IntKind.signed, IntKind.bits] at h
  exact h
section
variable {α : Type} (f : Nat → α → α) (ct : α → Nat)
end
theorem wrapU8 (k : Nat) : IntKind.u8.wrap (k : Int) = ((UInt8.ofNat k).toNat : Int) := by
  show (if (false && decide ((k : Int) % 256 ≥ 128)) = true then (k : Int) % 256 - 256 else (k : Int) % 256) = _
  rw [UInt8.toNat_ofNat']
  simp

theorem Ow_rows {α : Type} {e : Nat} {ms : List Md} {z : List Lf} {enc : α → List Lf} (h : ∀ x j, j < z.length → Ow (ms.getD j .x) ((enc x).getD j default)) (l : List α) : Ow (.o e (fun _ => ms)) (.ls z (l.map enc)) := by
  refine .o fun i j hi hj => ?_
  have hi' : i < l.length := by simpa using hi
  have : lf z (l.map enc) i j = (enc l[i]).getD j default := by
    simp only [lf]
    rw [List.getD_eq_getElem?_getD (l := l.map enc), List.getElem?_map, List.getElem?_eq_getElem hi']
    rfl
  rw [this]
  exact h _ _ hj
theorem Full_rows {α : Type} {e : Nat} {ms : List Md} {z : List Lf} {enc : α → List Lf} (h : ∀ x j, j < z.length → Full (ms.getD j .x) ((enc x).getD j default)) (l : List α) : Full (.o e (fun _ => ms)) (.ls z (l.map enc)) := by
  refine .o fun i j hi hj => ?_
  have hi' : i < l.length := by simpa using hi
  have : lf z (l.map enc) i j = (enc l[i]).getD j default := by
    simp only [lf]
    rw [List.getD_eq_getElem?_getD (l := l.map enc), List.getElem?_map, List.getElem?_eq_getElem hi']
    rfl
  rw [this]
  exact h _ _ hj
end Go.Sm

/-! SmR -/
namespace Go.Sm
open Go.RowKit
set_option linter.unusedVariables false
set_option linter.unusedSimpArgs false

def nlL (k : Nat) : List LV → Nat → List LV
  | .n _ :: r, 0 => .r [k] :: r
  | x :: r, 0 => x :: r
  | x :: r, j + 1 => x :: nlL k r j
  | [], _ => []
def nlK (b k j : Nat) : List (Nat × List LV) → List (Nat × List LV)
  | [] => []
  | (c, ls) :: r => if c = b then (c, nlL k ls j) :: r else (c, ls) :: nlK b k j r
def nlT (t k j : Nat) : List (Nat × SV) → List (Nat × SV)
  | [] => []
  | (c, s) :: r => if c = t then (c, match s with | .v ag ls => .v ag (nlL k ls j) | s => s) :: r else (c, s) :: nlT t k j r
def Env.nlB (E : Env) (b j k : Nat) (x : Md × List Lf) : Env := { E.fresh (fun r => r == k) with bx := nlK b k j (E.fresh (fun r => r == k)).bx, rt := (k, x.1, .ls x.2 []) :: (E.fresh (fun r => r == k)).rt }
def Env.nlS (E : Env) (t j k : Nat) (x : Md × List Lf) : Env := { E.fresh (fun r => r == k) with sl := nlT t k j (E.fresh (fun r => r == k)).sl, rt := (k, x.1, .ls x.2 []) :: (E.fresh (fun r => r == k)).rt }
section
variable {E : Env} {tag tag0 : Nat → Tag} {hv : Hv} {a : Act} {w w0 : World} {k : Nat}
theorem nlL_ok (hk : hv [k] = .slice none 0 0) : ∀ {ls : List LV} {cs : List Value} (j : Nat), All2 (LR tag hv w) ls cs → All2 (LR tag hv w) (nlL k ls j) cs
  | [], _, j, h => by cases j <;> exact h
  | x :: r, _, 0, h => by
    cases h with
    | cons h1 h2 =>
      cases x with
      | n z => exact .cons ⟨(show _ = Value.slice none 0 0 from h1).trans hk.symm, none, 0, 0, h1⟩ h2
      | _ => exact .cons h1 h2
  | x :: r, _, j + 1, h => by
    cases h with
    | cons h1 h2 =>
      have := nlL_ok hk j h2
      cases x <;> exact .cons h1 this
theorem nlL_len : ∀ (ls : List LV) (j : Nat), (nlL k ls j).length = ls.length
  | [], j => by cases j <;> rfl
  | x :: r, 0 => by cases x <;> rfl
  | x :: r, j + 1 => by cases x <;> simp [nlL, nlL_len r j]
theorem lkp_nlK {b k j b' : Nat} : ∀ {l : List (Nat × List LV)} {ls : List LV}, lkp (nlK b k j l) b' = some ls → ∃ ls0, lkp l b' = some ls0 ∧ (ls = ls0 ∨ ls = nlL k ls0 j)
  | [], _, h => by simp [nlK, lkp] at h
  | (c, x) :: r, ls, h => by
    simp only [nlK] at h
    split at h
    · simp only [lkp] at h ⊢
      split at h
      · rename_i e
        cases h
        exact ⟨x, by simp [e], .inr rfl⟩
      · rename_i e
        exact ⟨ls, by simp [e, h], .inl rfl⟩
    · simp only [lkp] at h ⊢
      split at h
      · rename_i e
        cases h
        exact ⟨_, by simp [e], .inl rfl⟩
      · rename_i e
        obtain ⟨ls0, h1, h2⟩ := lkp_nlK h
        exact ⟨ls0, by simp [e, h1], h2⟩
theorem lkp_nlT {t k j t' : Nat} : ∀ {l : List (Nat × SV)} {s : SV}, lkp (nlT t k j l) t' = some s → ∃ s0, lkp l t' = some s0 ∧ (s = s0 ∨ ∃ ag ls, s0 = .v ag ls ∧ s = .v ag (nlL k ls j))
  | [], _, h => by simp [nlT, lkp] at h
  | (c, x) :: r, s, h => by
    simp only [nlT] at h
    split at h
    · simp only [lkp] at h ⊢
      split at h
      · rename_i e
        cases h
        refine ⟨x, by simp [e], ?_⟩
        cases x <;> first | exact .inr ⟨_, _, rfl, rfl⟩ | exact .inl rfl
      · rename_i e
        exact ⟨s, by simp [e, h], .inl rfl⟩
    · simp only [lkp] at h ⊢
      split at h
      · rename_i e
        cases h
        exact ⟨_, by simp [e], .inl rfl⟩
      · rename_i e
        obtain ⟨s0, h1, h2⟩ := lkp_nlT h
        exact ⟨s0, by simp [e, h1], h2⟩
theorem St.nil0 (hs : St w0 tag0 E tag hv a w) (k : Nat) : ∃ hv', hv' [k] = .slice none 0 0 ∧ St w0 tag0 (E.fresh (fun r => r == k)) tag hv' a w := by
  refine ⟨fun q => if q = [k] then .slice none 0 0 else hv q, by simp, hs.hop ⟨fun _ _ h => ⟨h, rfl⟩, fun _ _ _ _ h _ => ⟨h, rfl⟩, fun r p hr => ?_⟩ hs.fr hs.hi⟩
  have : r ≠ k := by simpa using hr
  simp [this]
end
theorem Gh.nlB (E : Env) (b j k e : Nat) (cols : Nat → List Md) (z : List Lf) : Gh E (E.nlB b j k (.o e cols, z)) := by
  intro w0 tag0 tag hv a w hs
  obtain ⟨hv', hk, h⟩ := hs.nil0 k
  refine ⟨tag, hv', h.nt, h.df, h.sl, fun b' ls hl => ?_, fun r x hl => ?_, h.fr, h.hi⟩
  · obtain ⟨ls0, h1, h2⟩ := lkp_nlK hl
    obtain ⟨q, cur, e', h3, h4, h5, h6⟩ := h.bx b' ls0 h1
    refine ⟨q, cur, e', h3, h4, h5, ?_⟩
    rcases h2 with rfl | rfl
    · exact h6
    · exact nlL_ok hk j h6
  · simp only [Env.nlB, lkp] at hl
    split at hl
    · rename_i e2
      subst e2
      cases hl
      rw [hk]
      exact .own0 hk
    · exact h.rt r x hl
theorem Gh.nlS (E : Env) (t j k e : Nat) (cols : Nat → List Md) (z : List Lf) : Gh E (E.nlS t j k (.o e cols, z)) := by
  intro w0 tag0 tag hv a w hs
  obtain ⟨hv', hk, h⟩ := hs.nil0 k
  refine ⟨tag, hv', h.nt, h.df, fun t' s hl => ?_, h.bx, fun r x hl => ?_, h.fr, h.hi⟩
  · obtain ⟨s0, h1, h2⟩ := lkp_nlT hl
    have h3 := h.sl t' s0 h1
    rcases h2 with rfl | ⟨ag, ls, rfl, rfl⟩
    · exact h3
    · obtain ⟨cs, q1, q2, q3⟩ := h3
      exact ⟨cs, q1, nlL_ok hk j q2, fun hf => by rw [nlL_len]; exact q3 hf⟩
  · simp only [Env.nlS, lkp] at hl
    split at hl
    · rename_i e2
      subst e2
      cases hl
      rw [hk]
      exact .own0 hk
    · exact h.rt r x hl
attribute [simp] Env.nlB Env.nlS nlL nlK nlT
end Go.Sm

