import Derived.Test.YtkciklpdhhcblaaGreatSm21
/-
  Sizes ('szL'), rows of plain cells, and helps for the contracts that are alike from type to type.
-/
namespace Go.Sm

def szL : List Nat → Int → Int
  | [], left => left
  | s :: r, left => if left - s < 0 then -1 else szL r (left - s)
theorem szL_app : ∀ (a b : List Nat) (left : Int), 0 ≤ left → szL (a ++ b) left = if szL a left < 0 then -1 else szL b (szL a left)
  | [], b, left, h => by simp [szL]; omega
  | s :: r, b, left, h => by
    simp only [List.cons_append, szL]
    split
    · rfl
    · exact szL_app r b _ (by omega)
theorem szL_neg : ∀ (l : List Nat) (left : Int), 0 ≤ left → szL l left < 0 → szL l left = -1
  | [], left, h0, h => by simp [szL] at h; omega
  | s :: r, left, h0, h => by
    simp only [szL] at h ⊢
    split at h
    · rename_i h1; rw [if_pos h1]
    · rename_i h1; rw [if_neg h1]; exact szL_neg r _ (by omega) h
theorem szL_le : ∀ (l : List Nat) (left : Int), 0 ≤ szL l left → 0 ≤ left → szL l left + (l.sum : Nat) ≤ left ∧ ∀ n ∈ l, (n : Int) ≤ left
  | [], left, h, _ => ⟨by simp [szL], fun n h => by cases h⟩
  | s :: r, left, h, h0 => by
    simp only [szL] at h ⊢
    split at h
    · omega
    · rename_i h1
      rw [if_neg h1]
      obtain ⟨q1, q2⟩ := szL_le r _ h (by omega)
      refine ⟨by simp only [List.sum_cons]; omega, fun n hn => ?_⟩
      rcases List.mem_cons.1 hn with rfl | hn
      · omega
      · have := q2 n hn; omega
theorem szL_le' {l : List Nat} {left : Int} (h0 : 0 ≤ left) : szL l left ≤ left := by
  by_cases h : 0 ≤ szL l left
  · have := (szL_le l left h h0).1; omega
  · omega
/-- One round of a loop over rows. -/
theorem szF_step {α : Type} (wt : α → List Nat) {l : List α} {i : Nat} {L : Int} (d : α) (h : i < l.length) (hL : 0 ≤ L) (h0 : 0 ≤ szL ((l.take i).flatMap wt) L) :
    (szL (wt (l[i]?.getD d)) (szL ((l.take i).flatMap wt) L) < 0 → szL (l.flatMap wt) L = -1) ∧
    szL ((l.take (i + 1)).flatMap wt) L = szL (wt (l[i]?.getD d)) (szL ((l.take i).flatMap wt) L) := by
  have e1 : l = l.take i ++ (l[i] :: l.drop (i + 1)) := by simp
  have e2 : l.take (i + 1) = l.take i ++ [l[i]] := by rw [List.take_succ_eq_append_getElem h]
  rw [List.getElem?_eq_getElem h, Option.getD_some]
  have e3 : szL ((l.take (i + 1)).flatMap wt) L = szL (wt l[i]) (szL ((l.take i).flatMap wt) L) := by
    rw [e2, List.flatMap_append, szL_app _ _ _ hL, if_neg (by omega)]
    simp
  refine ⟨fun hn => ?_, e3⟩
  conv => lhs; rw [e1]
  rw [List.flatMap_append, szL_app _ _ _ hL, if_neg (by omega), List.flatMap_cons, szL_app _ _ _ h0, if_pos hn]
theorem mem_flat {α β : Type} {wt : α → List β} {l : List α} {i : Nat} {d : α} {n : β} (h : i < l.length) (hn : n ∈ wt (l[i]?.getD d)) : n ∈ l.flatMap wt := by
  rw [List.getElem?_eq_getElem h] at hn
  exact List.mem_flatMap.2 ⟨_, List.getElem_mem h, hn⟩
theorem getD_mem {α : Type} {l : List α} {i : Nat} (d : α) (h : i < l.length) : l[i]?.getD d ∈ l := by
  rw [List.getElem?_eq_getElem h]
  exact List.getElem_mem h

/-! ### cells -/
abbrev zStr : List Lf := [.sc (.string ⟨#[]⟩)]
abbrev zByte : List Lf := [.sc (.int .u8 0)]
abbrev zInt : List Lf := [.sc (.int .i64 0)]
def eStr (s : ByteArray) : List Lf := [.sc (.string s)]
@[simp] theorem rowByte_e (b : UInt8) : rowByte (eByte b) = b := by simp [rowByte, eByte]
@[simp] theorem rowByte_map (l : List UInt8) : (l.map eByte).map rowByte = l := by
  rw [List.map_map]
  conv => rhs; rw [← List.map_id l]
  exact List.map_congr_left fun b _ => rowByte_e b
@[simp] theorem rowByte_l (b : UInt8) : rowByte [.sc (.int .u8 (b.toNat : Int))] = b := rowByte_e b
@[simp] theorem isByteRow_l (b : UInt8) : isByteRow [.sc (.int .u8 (b.toNat : Int))] := ⟨b, rfl⟩
@[simp] theorem isByteRow_e (b : UInt8) : isByteRow (eByte b) := ⟨b, rfl⟩
def eInt (n : Int) : List Lf := [.sc (.int .i64 n)]
@[simp] theorem row_Str (l : List ByteArray) (i : Nat) : (Option.map eStr l[i]?).getD zStr = eStr (l[i]?.getD ⟨#[]⟩) := by cases l[i]? <;> rfl
@[simp] theorem row_Byte (l : List UInt8) (i : Nat) : (Option.map eByte l[i]?).getD zByte = eByte (l[i]?.getD 0) := by cases l[i]? <;> rfl
@[simp] theorem row_Int (l : List Int) (i : Nat) : (Option.map eInt l[i]?).getD zInt = eInt (l[i]?.getD 0) := by cases l[i]? <;> rfl
def okM (n : Nat) : Prop := n ≤ 9223372036854775807
def okI (n : Int) : Prop := -9223372036854775808 ≤ n ∧ n ≤ 9223372036854775807
theorem okI_wf {n : Int} (h : (Lit.int .i64 n).wf = true) : okI n := by
  simp [Lit.wf, IntKind.min, IntKind.max, IntKind.signed, IntKind.bits] at h
  exact h
theorem okU_wf {n : Int} (h : (Lit.int .u8 n).wf = true) : ∃ b : UInt8, n = (b.toNat : Int) := by
  simp [Lit.wf, IntKind.min, IntKind.max, IntKind.signed, IntKind.bits] at h
  refine ⟨UInt8.ofNat n.toNat, ?_⟩
  rw [UInt8.toNat_ofNat']
  omega

/-! ### marks -/
def dgo : Nat → Nat → ByteArray → ByteArray
  | 0, _, out => out
  | f + 1, k, out => if k = 0 then out else dgo f (k / 10) (⟨#[UInt8.ofNat (48 + k % 10)]⟩ ++ out)
def mtext (k : Nat) : ByteArray := if k = 0 then ⟨#[109, 48]⟩ else ⟨#[109]⟩ ++ dgo k k ⟨#[]⟩
def mkRw {α : Type} (f : Nat → α → α) (ct : α → Nat) : Nat → List α → List α
  | _, [] => []
  | k, x :: r => f k x :: mkRw f ct (k + ct x) r
def ctRw {α : Type} (ct : α → Nat) : List α → Nat
  | [] => 0
  | x :: r => ct x + ctRw ct r
def mixR {α : Type} (f : Nat → α → α) (ct : α → Nat) (k : Nat) (l : List α) (i : Nat) : List α := mkRw f ct k (l.take i) ++ l.drop i
section
variable {α : Type} (f : Nat → α → α) (ct : α → Nat)
theorem mkRw_len : ∀ (k : Nat) (l : List α), (mkRw f ct k l).length = l.length
  | _, [] => rfl
  | k, x :: r => by simp [mkRw, mkRw_len]
theorem mixR_zero (k : Nat) (l : List α) : mixR f ct k l 0 = l := by simp [mixR, mkRw]
theorem mixR_all (k : Nat) (l : List α) : mixR f ct k l l.length = mkRw f ct k l := by simp [mixR]
theorem mixR_len (k : Nat) (l : List α) (i : Nat) : (mixR f ct k l i).length = l.length := by
  simp [mixR, mkRw_len]
  omega
theorem mixR_get (k : Nat) (l : List α) (i : Nat) (h : i < l.length) : (mixR f ct k l i)[i]? = l[i]? := by
  unfold mixR
  have hl : (mkRw f ct k (l.take i)).length = i := by rw [mkRw_len, List.length_take]; omega
  rw [List.getElem?_append_right (by omega), hl]
  simp
theorem mkRw_app : ∀ (k : Nat) (a b : List α), mkRw f ct k (a ++ b) = mkRw f ct k a ++ mkRw f ct (k + ctRw ct a) b
  | k, [], b => by simp [mkRw, ctRw]
  | k, x :: a, b => by
    simp only [List.cons_append, mkRw, mkRw_app _ a b]
    simp [ctRw, Nat.add_assoc]
theorem mixR_set (k : Nat) (l : List α) (i : Nat) (d : α) (h : i < l.length) : (mixR f ct k l i).set i (f (k + ctRw ct (l.take i)) (l[i]?.getD d)) = mixR f ct k l (i + 1) := by
  unfold mixR
  have hl : (mkRw f ct k (l.take i)).length = i := by rw [mkRw_len, List.length_take]; omega
  rw [List.set_append_right _ _ (by omega), hl, Nat.sub_self]
  rw [List.take_succ_eq_append_getElem h, mkRw_app, List.drop_eq_getElem_cons h, List.set_cons_zero, List.getElem?_eq_getElem h, Option.getD_some]
  simp only [mkRw, List.append_assoc, List.cons_append, List.nil_append]
theorem ctRw_app : ∀ (a b : List α), ctRw ct (a ++ b) = ctRw ct a + ctRw ct b
  | [], b => by simp [ctRw]
  | x :: a, b => by simp [ctRw, ctRw_app a b, Nat.add_assoc]
theorem ctRw_succ (d : α) {l : List α} {i : Nat} (h : i < l.length) : ctRw ct (l.take (i + 1)) = ctRw ct (l.take i) + ct (l[i]?.getD d) := by
  rw [List.take_succ_eq_append_getElem h, ctRw_app, List.getElem?_eq_getElem h]
  simp [ctRw]
theorem ctRw_le (l : List α) (i : Nat) : ctRw ct (l.take i) ≤ ctRw ct l := by
  conv => rhs; rw [← List.take_append_drop i l, ctRw_app]
  omega
theorem ctRw_lt (d : α) {l : List α} {i : Nat} (h : i < l.length) : ctRw ct (l.take i) + ct (l[i]?.getD d) ≤ ctRw ct l := by
  rw [← ctRw_succ ct d h]
  exact ctRw_le ct l (i + 1)
theorem mkRw_get (d : α) : ∀ (k : Nat) (l : List α) (i : Nat), i < l.length → (mkRw f ct k l)[i]? = some (f (k + ctRw ct (l.take i)) (l[i]?.getD d))
  | k, [], i, h => by simp at h
  | k, x :: r, 0, h => by simp [mkRw, ctRw]
  | k, x :: r, i + 1, h => by
    have := mkRw_get d (k + ct x) r i (by simpa using h)
    simp only [mkRw, List.getElem?_cons_succ, this]
    simp [ctRw, Nat.add_assoc]
end
theorem ctRw_le64 {α : Type} (ct : α → Nat) (wt : α → List Nat) : ∀ (l : List α), (∀ x ∈ l, ct x ≤ 64 + 64 * (wt x).sum) → ctRw ct l ≤ 64 * (l.length + (l.flatMap wt).sum)
  | [], _ => by simp [ctRw]
  | x :: r, h => by
    have h1 := ctRw_le64 ct wt r (fun y hy => h y (by simp [hy]))
    have h2 := h x (by simp)
    simp only [ctRw, List.length_cons, List.flatMap_cons, List.sum_append]
    omega
theorem ctRw_one {α : Type} (ct : α → Nat) : ∀ (l : List α), (∀ x ∈ l, ct x ≤ 64) → ctRw ct l ≤ 64 * l.length
  | [], _ => by simp [ctRw]
  | x :: r, h => by
    have h1 := ctRw_one ct r (fun y hy => h y (by simp [hy]))
    have h2 := h x (by simp)
    simp only [ctRw, List.length_cons]
    omega
def mkStr (k : Nat) (_ : ByteArray) : ByteArray := mtext k
def mkInt (k : Nat) (_ : Int) : Int := (k : Int)
def mkByte (k : Nat) (_ : UInt8) : UInt8 := UInt8.ofNat k
def mkBool (k : Nat) (_ : Bool) : Bool := (k : Int).tmod 3 == 0
def ctStr (_ : ByteArray) : Nat := 1
def ctInt (_ : Int) : Nat := 1
def ctByte (_ : UInt8) : Nat := 1
theorem wrapU8 (k : Nat) : IntKind.u8.wrap (k : Int) = ((UInt8.ofNat k).toNat : Int) := by
  show (if (false && decide ((k : Int) % 256 ≥ 128)) = true then (k : Int) % 256 - 256 else (k : Int) % 256) = _
  rw [UInt8.toNat_ofNat']
  simp

/-! ### all of it the call's own -/
theorem Ow_rows {α : Type} {e : Nat} {ms : List Md} {z : List Lf} {enc : α → List Lf} (h : ∀ x j, j < z.length → Ow (ms.getD j .x) ((enc x).getD j default)) (l : List α) : Ow (.o e (fun _ => ms)) (.ls z (l.map enc)) := by
  refine .o fun i j hi hj => ?_
  have hi' : i < l.length := by simpa using hi
  have : lf z (l.map enc) i j = (enc l[i]).getD j default := by
    simp only [lf]
    rw [List.getD_eq_getElem?_getD (l := l.map enc), List.getElem?_map, List.getElem?_eq_getElem hi']
    rfl
  rw [this]
  exact h _ _ hj
theorem Full_rows {α : Type} {e : Nat} {ms : List Md} {z : List Lf} {enc : α → List Lf} (h : ∀ x j, j < z.length → Full (ms.getD j .x) ((enc x).getD j default)) (l : List α) : Full (.o e (fun _ => ms)) (.ls z (l.map enc)) := by
  refine .o fun i j hi hj => ?_
  have hi' : i < l.length := by simpa using hi
  have : lf z (l.map enc) i j = (enc l[i]).getD j default := by
    simp only [lf]
    rw [List.getD_eq_getElem?_getD (l := l.map enc), List.getElem?_map, List.getElem?_eq_getElem hi']
    rfl
  rw [this]
  exact h _ _ hj
end Go.Sm
