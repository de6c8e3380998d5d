/-
  A framework of this session's own. VALUES AS TREES, OWNERS OF BLOCKS.
  'Lf': a cell as a tree (a plain value, or a slice with the rows of its elements' cells). 'Md': how it is held ('s': a plain value, or memory that nobody writes; 'x': unknown; 'o': a slice whose array is the call's own).
  'Tag': what a block of memory is ('sh': nobody writes it; 'own p': the array of the slice at the place p; 'off': none of ours).
  'VR': that a value reads as a tree.
-/
import Derived.Below
import Derived.Laws.OwnMore
import Derived.WalkKit
namespace Go.Sm
open Go.RowKit

inductive Lf where
  | sc (v : Value)
  | ls (z : List Lf) (rows : List (List Lf))
instance : Inhabited Lf := ⟨.sc (.int .i64 0)⟩

inductive Md where
  | s
  | x
  | o (e : Nat) (cols : Nat → List Md)
instance : Inhabited Md := ⟨.x⟩

inductive Tag where
  | sh
  | off
  | own (p : List Nat)

abbrev Hv := List Nat → Value

def lf (z : List Lf) (rows : List (List Lf)) (i j : Nat) : Lf := (rows.getD i z).getD j default
def md (cols : Nat → List Md) (i j : Nat) : Md := (cols i).getD j .x

inductive VR (tag : Nat → Tag) (hv : Hv) (w : World) : List Nat → Md → Lf → Value → Prop
  | dead {p l v} (h1 : v.oneCell' = true) : VR tag hv w p .x l v
  | sc {p v} (h1 : v.oneCell' = true) : VR tag hv w p .s (.sc v) v
  | sh0 {p z a c} : VR tag hv w p .s (.ls z []) (.slice a 0 c)
  | sh {p z rows b off n c} (cell : Nat → Nat → Value) (hn : rows.length = n) (hc : n ≤ c) (ht : tag b = .sh)
      (hl : ∀ i, i < n → (rows.getD i z).length = z.length)
      (hcell : ∀ i j, i < n → j < z.length → w.cell? ⟨b, off + (i * z.length + j), none⟩ = some (cell i j))
      (hr : ∀ i j, i < n → j < z.length → VR tag hv w p .s (lf z rows i j) (cell i j)) :
      VR tag hv w p .s (.ls z rows) (.slice (some ⟨b, off, none⟩) n c)
  | own0 {p e cols z} (hh : hv p = .slice none 0 0) : VR tag hv w p (.o e cols) (.ls z []) (.slice none 0 0)
  | own {p e cols z rows b n c} (cur : Array Value) (hn : rows.length = n) (hc : n ≤ c) (hm : c ≤ maxLen) (ht : tag b = .own p) (hh : hv p = .slice (some ⟨b, 0, none⟩) n c)
      (hb : w.heap[b]? = some (.cells cur e (0, 0))) (hs : cur.size = c * z.length)
      (hl : ∀ i, i < n → (rows.getD i z).length = z.length)
      (hr : ∀ i j, i < n → j < z.length → VR tag hv w (p ++ [i, j]) (md cols i j) (lf z rows i j) (cur.getD (i * z.length + j) default)) :
      VR tag hv w p (.o e cols) (.ls z rows) (.slice (some ⟨b, 0, none⟩) n c)

/-- A slice of the call's own stands at this place of the tree. -/
inductive OwnIn : Md → Lf → List Nat → Prop
  | here {e cols z rows} : OwnIn (.o e cols) (.ls z rows) []
  | deep {e cols z rows i j rest} (hi : i < rows.length) (hj : j < z.length) (h : OwnIn (md cols i j) (lf z rows i j) rest) : OwnIn (.o e cols) (.ls z rows) (i :: j :: rest)

/-- Nothing of x in it. -/
inductive Full : Md → Lf → Prop
  | s {l} : Full .s l
  | o {e cols z rows} (h : ∀ i j, i < rows.length → j < z.length → Full (md cols i j) (lf z rows i j)) : Full (.o e cols) (.ls z rows)

section
variable {tag tag' : Nat → Tag} {hv hv' : Hv} {w w' : World} {p p' : List Nat} {m : Md} {l : Lf} {v : Value}

theorem VR.one (h : VR tag hv w p m l v) : v.oneCell' = true := by
  cases h <;> first | assumption | rfl

/-- What is held moves with its blocks: to another world, under another name. -/
theorem VR.move (h : VR tag hv w p m l v) : ∀ p' : List Nat, (∀ b, tag b = .sh → tag' b = .sh ∧ w'.heap[b]? = w.heap[b]?) →
    (∀ rest, OwnIn m l rest → hv' (p' ++ rest) = hv (p ++ rest) ∧ ∀ b, tag b = .own (p ++ rest) → tag' b = .own (p' ++ rest) ∧ w'.heap[b]? = w.heap[b]?) →
    VR tag' hv' w' p' m l v := by
  induction h with
  | dead h1 => exact fun _ _ _ => .dead h1
  | sc h1 => exact fun _ _ _ => .sc h1
  | sh0 => exact fun _ _ _ => .sh0
  | sh cell hn hc ht hl hcell hr ih =>
    intro p' hs ho
    refine .sh cell hn hc (hs _ ht).1 hl (fun i j hi hj => ?_) (fun i j hi hj => ?_)
    · rw [World.cell?_of_block (w := w) (hs _ ht).2]
      exact hcell i j hi hj
    · refine ih i j hi hj p' hs (fun rest hrest => ?_)
      cases hrest
  | own0 hh =>
    intro p' hs ho
    have := (ho [] .here).1
    simp only [List.append_nil] at this
    exact .own0 (this.trans hh)
  | own cur hn hc hm ht hh hb hs hl hr ih =>
    intro p' hs' ho
    have h0 := ho [] .here
    simp only [List.append_nil] at h0
    have h2 := h0.2 _ ht
    refine .own cur hn hc hm h2.1 (h0.1.trans hh) (h2.2.trans hb) hs hl (fun i j hi hj => ih i j hi hj _ hs' (fun rest hrest => ?_))
    have := ho (i :: j :: rest) (.deep (by omega) hj hrest)
    simpa using this

/-- What is the call's own may be looked at as what nobody writes, if its blocks' tags turn so. -/
theorem VR.share (h : VR tag hv w p m l v) : Full m l → (∀ b, tag b = .sh → tag' b = .sh) → (∀ rest b, OwnIn m l rest → tag b = .own (p ++ rest) → tag' b = .sh) → ∀ p', VR tag' hv' w p' .s l v := by
  induction h with
  | dead h1 => intro hf; cases hf
  | sc h1 => exact fun _ _ _ _ => .sc h1
  | sh0 => exact fun _ _ _ _ => .sh0
  | sh cell hn hc ht hl hcell hr ih =>
    intro _ hs ho p'
    refine .sh cell hn hc (hs _ ht) hl hcell (fun i j hi hj => ih i j hi hj .s hs (fun rest b hrest => ?_) p')
    cases hrest
  | own0 hh => exact fun _ _ _ _ => .sh0
  | @own p e cols z rows b n c cur hn hc hm ht hh hb hs hl hr ih =>
    intro hf hs' ho p'
    cases hf with
    | o hf =>
    have h0 := ho [] b .here (by simpa using ht)
    refine .sh (fun i j => cur.getD (i * z.length + j) default) hn hc h0 hl (fun i j hi hj => ?_) (fun i j hi hj => ?_)
    · have hlt : i * z.length + j < cur.size := by
        rw [hs]
        have h1 : (i + 1) * z.length ≤ c * z.length := Nat.mul_le_mul_right _ (by omega)
        rw [Nat.add_mul] at h1
        omega
      simp [World.cell?, hb, Array.getD, hlt]
    · refine ih i j hi hj (hf i j (by omega) hj) hs' (fun rest b' hrest htb => ?_) p'
      exact ho (i :: j :: rest) b' (.deep (by omega) hj hrest) (by simpa using htb)

/-- What is held may be forgotten. -/
theorem VR.forget (h : VR tag hv w p m l v) : ∀ l', VR tag hv w p .x l' v := fun _ => .dead h.one
end
end Go.Sm
