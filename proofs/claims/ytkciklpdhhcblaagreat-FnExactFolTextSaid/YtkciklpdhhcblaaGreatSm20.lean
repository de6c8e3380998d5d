import Derived.Test.YtkciklpdhhcblaaGreatSm19
import Derived.ProofKit
import Derived.Laws.StructEq
/-
  The statement's frame: what an argument reads as, as a tree.
-/
namespace Go.Sm
open Go.RowKit

abbrev fld (n : String) (t off bo : Nat) (p : String) : Field := { name := n, type := t, offset := off, byteOffset := bo, embedded := false, tag := "", pkgPath := p }
def zOk : List Lf → Bool
  | [] => true
  | .sc v :: r => scal v && zOk r
  | .ls _ [] :: r => zOk r
  | _ => false
theorem zOk_ok : ∀ {z : List Lf}, zOk z = true → ∀ l ∈ z, (∃ v, l = .sc v ∧ scal v = true) ∨ ∃ zz, l = .ls zz []
  | [], _, l, hl => by cases hl
  | .sc v :: r, h, l, hl => by
    simp only [zOk, Bool.and_eq_true] at h
    rcases List.mem_cons.1 hl with rfl | hl
    · exact .inl ⟨v, rfl, h.1⟩
    · exact zOk_ok h.2 l hl
  | .ls z [] :: r, h, l, hl => by
    simp only [zOk] at h
    rcases List.mem_cons.1 hl with rfl | hl
    · exact .inr ⟨z, rfl⟩
    · exact zOk_ok h l hl
  | .ls _ (_ :: _) :: _, h, _, _ => by simp [zOk] at h
/-- What a cell holds, by its type. -/
inductive CK where
  | int (k : IntKind)
  | bool
  | str
  | sl (e : Nat)
instance : Inhabited CK := ⟨.bool⟩
def CK.elt : CK → Option Nat
  | .sl e => some e
  | _ => none
abbrev CT := Nat → List CK
def contig (ti : TT) (ck : CT) : List Field → Nat → List CK → Prop
  | [], _, l => l = []
  | f :: r, off, l => f.offset = off ∧ (ti f.type).ok = true ∧ l.take (ti f.type).sz = ck f.type ∧ contig ti ck r (off + (ti f.type).sz) (l.drop (ti f.type).sz)
def ckOk (ti : TT) (ck : CT) (t : Nat) : Prop := (ck t).length = (ti t).sz ∧ match (ti t).desc with
  | .int k => ck t = [.int k]
  | .bool => ck t = [.bool]
  | .string => ck t = [.str]
  | .slice e => ck t = [.sl e] ∧ (ti e).ok = true
  | .struct fs => contig ti ck fs.toList 0 (ck t)
  | _ => False
def CGood (ti : TT) (ck : CT) : Prop := ∀ t, (ti t).ok = true → ckOk ti ck t

/-- A tree that fits a cell's type. -/
inductive FitK (ti : TT) (ck : CT) : CK → Lf → Prop
  | int {k n} (h : (Lit.int k n).wf = true) : FitK ti ck (.int k) (.sc (.int k n))
  | bool {b} : FitK ti ck .bool (.sc (.bool b))
  | str {s : ByteArray} (h : s.size ≤ maxLen) : FitK ti ck .str (.sc (.string s))
  | sl {e rows} (hn : rows.length ≤ maxLen) (hl : ∀ i, i < rows.length → (rows.getD i (ti e).z).length = (ck e).length)
      (h : ∀ i j, i < rows.length → j < (ck e).length → FitK ti ck ((ck e).getD j default) (lf (ti e).z rows i j)) : FitK ti ck (.sl e) (.ls (ti e).z rows)
def Fit (ti : TT) (ck : CT) (t : Nat) (ls : List Lf) : Prop := All2 (FitK ti ck) (ck t) ls

variable {P : Program} {ti : TT} {ck : CT}

def shT (n : Nat) : Nat → Tag := fun b => if b < n then .sh else .off
theorem cellsOf_ok {t : Nat} (g : (ti t).good P t) : P.cellsOf t = (ti t).sz := by
  obtain ⟨x, h1, h2, _⟩ := g.inf
  simp [Program.cellsOf, h1, h2]
theorem cellsVR {H : Type} {enc : TypeId × Value → H} {w : World} {spare : Nat → Bool} {held : Bool} {hv : Hv} {n : Nat} {cs : List Value} (hT : TGood P ti) (hC : CGood ti ck)
    (IH : ∀ (t : Nat) (cs : List Value) (x : DataW H × List MemPlace), (ti t).ok = true → DataW.trod enc P w 0 spare held n t cs = some x → ∃ ls, Fit ti ck t ls ∧ All2 (VR (shT w.heap.size) hv w [] .s) ls cs) :
    ∀ (l : List Field) (off : Nat) (ckl : List CK), contig ti ck l off ckl → (∀ f ∈ l, ∃ y, DataW.trod enc P w 0 spare held n f.type ((cs.drop f.offset).take (P.cellsOf f.type)) = some y) → off + ckl.length = cs.length →
      ∃ ls, All2 (FitK ti ck) ckl ls ∧ All2 (VR (shT w.heap.size) hv w [] .s) ls (cs.drop off)
  | [], off, ckl, h, _, hl => by
    simp only [contig] at h
    subst h
    refine ⟨[], .nil, ?_⟩
    rw [List.drop_of_length_le (by simp at hl; omega)]
    exact .nil
  | f :: r, off, ckl, h, hf, hl => by
    obtain ⟨h1, h2, h3, h4⟩ := h
    have g := hT _ h2
    have c := hC _ h2
    obtain ⟨y, hy⟩ := hf f (by simp)
    rw [h1, cellsOf_ok g] at hy
    obtain ⟨ls1, h5, h6⟩ := IH f.type _ y h2 hy
    have hlen : (ckl.take (ti f.type).sz).length = (ti f.type).sz := by rw [h3]; exact c.1
    rw [List.length_take] at hlen
    obtain ⟨ls2, h7, h8⟩ := cellsVR hT hC IH r (off + (ti f.type).sz) (ckl.drop (ti f.type).sz) h4 (fun f hf' => hf f (by simp [hf'])) (by rw [List.length_drop]; omega)
    refine ⟨ls1 ++ ls2, ?_, ?_⟩
    · rw [← List.take_append_drop (ti f.type).sz ckl, h3]
      exact All2.append h5 h7
    · have h9 := All2.append h6 h8
      rw [← List.drop_drop, List.take_append_drop] at h9
      exact h9

theorem fit_of_trod {H : Type} {enc : TypeId × Value → H} {w : World} {spare : Nat → Bool} {held : Bool} {hv : Hv} (hT : TGood P ti) (hC : CGood ti ck) : ∀ (fuel : Nat) (t : Nat) (cs : List Value) (x : DataW H × List MemPlace), (ti t).ok = true →
    DataW.trod enc P w 0 spare held fuel t cs = some x → ∃ ls, Fit ti ck t ls ∧ All2 (VR (shT w.heap.size) hv w [] .s) ls cs
  | 0, t, cs, x, _, h => by simp [DataW.trod] at h
  | fuel + 1, t, cs, x, ht, h => by
    have g := hT t ht
    have c := hC t ht
    have hu := g.und
    obtain ⟨hlen, hc⟩ := c
    unfold Fit
    split at hc
    · rename_i k hd
      rw [hd] at hu
      obtain ⟨n, rfl, _, hwf⟩ := DataW.trod_int hu h
      rw [hc]
      exact ⟨[.sc (.int k n)], .cons (.int hwf) .nil, .cons (.sc rfl) .nil⟩
    · rename_i hd
      rw [hd] at hu
      obtain ⟨b, rfl, _⟩ := DataW.trod_bool hu h
      rw [hc]
      exact ⟨[.sc (.bool b)], .cons .bool .nil, .cons (.sc rfl) .nil⟩
    · rename_i hd
      rw [hd] at hu
      obtain ⟨s, rfl, _, hs⟩ := DataW.trod_string hu h
      rw [hc]
      exact ⟨[.sc (.string s)], .cons (.str hs) .nil, .cons (.sc rfl) .nil⟩
    · rename_i e hd
      rw [hd] at hu
      obtain ⟨hck, hek⟩ := hc
      have ge := hT e hek
      have ce := (hC e hek).1
      rw [hck]
      rcases DataW.trod_slice hu h with ⟨rfl, _⟩ | ⟨a, len, cap, elems, rest, n, hn, rfl, _, _, hl, hm, hel, helem, _, _⟩
      · exact ⟨[.ls (ti e).z []], .cons (.sl (by simp) (fun i hi => by simp at hi) (fun i j hi => by simp at hi)) .nil, .cons .sh0 .nil⟩
      · have hnf : n = fuel := by omega
        subst hnf
        have key : ∀ i, ∃ ls, i < len → Fit ti ck e ls ∧ ∃ cs', All2 (VR (shT w.heap.size) hv w [] .s) ls cs' ∧ ∀ j, j < (ti e).sz → w.cell? ((a.add (i * (ti e).sz)).add j) = cs'[j]? := fun i => by
          by_cases hi : i < len
          · have h1 := helem i hi
            rw [List.getElem?_eq_getElem (by omega)] at h1
            obtain ⟨cs', h2, h3⟩ := Option.bind_eq_some_iff.1 h1
            rw [cellsOf_ok ge] at h2
            obtain ⟨_, h4, h5⟩ := World.cells?_some h2
            obtain ⟨ls, h6, h7⟩ := fit_of_trod hT hC n e cs' _ hek h3
            exact ⟨ls, fun _ => ⟨h6, cs', h7, h5⟩⟩
          · exact ⟨[], fun h => absurd h hi⟩
        obtain ⟨f, hf⟩ := Classical.axiomOfChoice key
        have hrl : ((List.range len).map f).length = len := by simp
        have hrow : ∀ i, i < len → ((List.range len).map f).getD i (ti e).z = f i := fun i hi => by
          rw [List.getD_eq_getElem?_getD, List.getElem?_map, List.getElem?_eq_getElem (by simpa using hi)]
          simp
        have hzl := ge.zl
        refine ⟨[.ls (ti e).z ((List.range len).map f)], .cons (.sl (by rw [hrl]; omega) (fun i hi => ?_) (fun i j hi hj => ?_)) .nil, .cons ?_ .nil⟩
        · rw [hrl] at hi
          rw [hrow i hi]
          exact ((hf i hi).1).len.symm
        · rw [hrl] at hi
          have h1 := (hf i hi).1
          have hj2 : j < (f i).length := by rw [← All2.len h1]; exact hj
          have h2 := h1.get j _ _ (List.getElem?_eq_getElem hj) (List.getElem?_eq_getElem hj2)
          simp only [lf, hrow i hi]
          rw [List.getD_eq_getElem?_getD, List.getElem?_eq_getElem hj, List.getD_eq_getElem?_getD (l := f i), List.getElem?_eq_getElem hj2]
          exact h2
        · by_cases h0 : len = 0
          · subst h0
            exact .sh0
          · have hpos := ge.pos
            have hcell : ∀ i j, i < len → j < (ti e).z.length → ∃ v, w.cell? ((a.add (i * (ti e).sz)).add j) = some v ∧ VR (shT w.heap.size) hv w [] .s (lf (ti e).z ((List.range len).map f) i j) v := fun i j hi hj => by
              obtain ⟨h1, cs', h2, h3⟩ := hf i hi
              have hj2 : j < (f i).length := by rw [← All2.len h1, ce, ← hzl]; exact hj
              have hj3 : j < cs'.length := by rw [← h2.len]; exact hj2
              refine ⟨cs'[j], by rw [h3 j (by rw [← hzl]; exact hj), List.getElem?_eq_getElem hj3], ?_⟩
              have h4 := h2.get j _ _ (List.getElem?_eq_getElem hj2) (List.getElem?_eq_getElem hj3)
              simp only [lf, hrow i hi]
              rw [List.getD_eq_getElem?_getD (l := f i), List.getElem?_eq_getElem hj2]
              exact h4
            obtain ⟨v00, hv00, _⟩ := hcell 0 0 (by omega) (by omega)
            obtain ⟨b, off, spot⟩ := a
            have hspot : spot = none := by simpa [Addr.add] using World.cell?_spot hv00
            subst hspot
            have hb : b < w.heap.size := by
              rw [add_lit, add_lit] at hv00
              exact World.block_lt_of_cell? _ _ hv00
            refine .sh (fun i j => (w.cell? ⟨b, off + (i * (ti e).z.length + j), none⟩).getD default) hrl hl (by simp [shT, hb]) (fun i hi => ?_) (fun i j hi hj => ?_) (fun i j hi hj => ?_)
            · rw [hrow i hi, ← All2.len (hf i hi).1, ce, hzl]
            · obtain ⟨v, h1, _⟩ := hcell i j hi hj
              rw [add_lit, add_lit, Nat.add_assoc, ← hzl] at h1
              rw [h1]
              rfl
            · obtain ⟨v, h1, h2⟩ := hcell i j hi hj
              rw [add_lit, add_lit, Nat.add_assoc, ← hzl] at h1
              rw [h1]
              exact h2
    · rename_i fs hd
      rw [hd] at hu
      obtain ⟨xs, n, hn, _, hcl, hxl, hfield⟩ := DataW.trod_struct hu h
      have hnf : n = fuel := by omega
      subst hnf
      rw [cellsOf_ok g] at hcl
      have := cellsVR (cs := cs) (enc := enc) (w := w) (spare := spare) (held := held) (hv := hv) hT hC (fun t cs x ht h => fit_of_trod hT hC n t cs x ht h) fs.toList 0 (ck t) hc (fun f hf => ?_) (by rw [Nat.zero_add, hlen, hcl])
      · simpa using this
      · obtain ⟨i, hi⟩ := List.getElem?_of_mem hf
        have hlt : i < xs.length := by rw [hxl]; simpa using (List.getElem?_eq_some_iff.1 hi).1
        exact ⟨xs[i], by rw [hfield i f (by simpa using hi), List.getElem?_eq_getElem hlt]⟩
    · exact hc.elim
/-! ### structs that are compared -/
theorem eqAt_up {i : TI} {t n m : Nat} (h : eqAt P i t n) (hm : n ≤ m) : eqAt P i t m := fun d w xs ys h1 h2 => by
  have := h (d + (m - n)) w xs ys h1 h2
  rwa [show d + (m - n) + n = d + m by omega] at this
theorem eqAt_int {i : TI} {t : Nat} {k : IntKind} {n : Int} (hz : i.z = [.sc (.int k n)]) (ha : i.agg = false) (hu : P.underlying t = some (.int k)) : eqAt P i t 1 := fun d w xs ys h1 h2 => by
  rw [hz] at h1 h2
  match xs, ys, h1, h2 with
  | [.int _ a], [.int _ b], h1, h2 =>
    obtain ⟨rfl, _⟩ := h1
    obtain ⟨rfl, _⟩ := h2
    rw [ha]
    simp only [mkV, eqV, Bool.and_true]
    exact run_equalIn_int w d t _ _ a b hu
  | .int _ _ :: _ :: _, _, h1, _ => exact h1.2.elim
  | _, .int _ _ :: _ :: _, _, h2 => exact h2.2.elim
theorem eqAt_str {i : TI} {t : Nat} {s : ByteArray} (hz : i.z = [.sc (.string s)]) (ha : i.agg = false) (hu : P.underlying t = some .string) : eqAt P i t 1 := fun d w xs ys h1 h2 => by
  rw [hz] at h1 h2
  match xs, ys, h1, h2 with
  | [.string a], [.string b], h1, h2 =>
    rw [ha]
    simp only [mkV, eqV, Bool.and_true]
    exact run_equalIn_string w d t a b hu
  | .string _ :: _ :: _, _, h1, _ => exact h1.elim
  | _, .string _ :: _ :: _, _, h2 => exact h2.elim
theorem eqAt_bool {i : TI} {t : Nat} {s : Bool} (hz : i.z = [.sc (.bool s)]) (ha : i.agg = false) (hu : P.underlying t = some .bool) : eqAt P i t 1 := fun d w xs ys h1 h2 => by
  rw [hz] at h1 h2
  match xs, ys, h1, h2 with
  | [.bool a], [.bool b], h1, h2 =>
    rw [ha]
    simp only [mkV, eqV, Bool.and_true]
    exact run_equalIn_bool' w d t a b hu
  | .bool _ :: _ :: _, _, h1, _ => exact h1.elim
  | _, .bool _ :: _ :: _, _, h2 => exact h2.elim
theorem sameK_len : ∀ {z : List Lf} {xs : List Value}, sameK z xs → xs.length = z.length
  | [], [], _ => rfl
  | .sc (.int _ _) :: z, .int _ _ :: xs, h => by simp [sameK_len h.2]
  | .sc (.string _) :: z, .string _ :: xs, h => by simp [sameK_len (z := z) (xs := xs) h]
  | .sc (.bool _) :: z, .bool _ :: xs, h => by simp [sameK_len (z := z) (xs := xs) h]
theorem sameK_cons {z0 : Lf} {z : List Lf} {x : Value} {xs : List Value} (h : sameK (z0 :: z) (x :: xs)) : sameK [z0] [x] ∧ sameK z xs := by
  unfold sameK at h
  split at h
  · rename_i h1 h2; cases h1
  · rename_i h1 h2; cases h1; cases h2; exact ⟨⟨h.1, trivial⟩, h.2⟩
  · rename_i h1 h2; cases h1; cases h2; exact ⟨trivial, h⟩
  · rename_i h1 h2; cases h1; cases h2; exact ⟨trivial, h⟩
  · exact h.elim
theorem sameK_cons' {z0 : Lf} {z : List Lf} {x : Value} {xs : List Value} (h1 : sameK [z0] [x]) (h2 : sameK z xs) : sameK (z0 :: z) (x :: xs) := by
  unfold sameK at h1
  split at h1
  · rename_i q1 q2; cases q1
  · rename_i q1 q2; cases q1; cases q2; exact ⟨h1.1, h2⟩
  · rename_i q1 q2; cases q1; cases q2; exact h2
  · rename_i q1 q2; cases q1; cases q2; exact h2
  · exact h1.elim
theorem sameK_split : ∀ {n : Nat} {z : List Lf} {xs : List Value}, sameK z xs → sameK (z.take n) (xs.take n) ∧ sameK (z.drop n) (xs.drop n)
  | 0, z, xs, h => ⟨by simp [sameK], by simpa using h⟩
  | n + 1, [], [], h => by simp [sameK]
  | n + 1, [], _ :: _, h => by simp [sameK] at h
  | n + 1, z0 :: z, [], h => by have := sameK_len h; simp at this
  | n + 1, z0 :: z, x :: xs, h => by
    obtain ⟨h1, h2⟩ := sameK_cons h
    obtain ⟨h3, h4⟩ := sameK_split (n := n) h2
    exact ⟨sameK_cons' h1 h3, h4⟩
theorem eqV_app : ∀ {z : List Lf} {a c b d : List Value}, sameK z a → sameK z c → eqV (a ++ b) (c ++ d) = (eqV a c && eqV b d)
  | [], [], [], b, d, _, _ => by simp [eqV]
  | .sc (.int _ _) :: z, .int _ _ :: a, .int _ _ :: c, b, d, h1, h2 => by simp [eqV, eqV_app h1.2 h2.2, Bool.and_assoc]
  | .sc (.string _) :: z, .string _ :: a, .string _ :: c, b, d, h1, h2 => by simp [eqV, eqV_app (z := z) (a := a) (c := c) h1 h2, Bool.and_assoc]
  | .sc (.bool _) :: z, .bool _ :: a, .bool _ :: c, b, d, h1, h2 => by simp [eqV, eqV_app (z := z) (a := a) (c := c) h1 h2, Bool.and_assoc]
def fieldsEq (P : Program) (ti : TT) (n : Nat) : List Field → Nat → List Lf → Prop
  | [], _, z => z = []
  | f :: r, off, z => f.name ≠ "_" ∧ f.offset = off ∧ (ti f.type).good P f.type ∧ (ti f.type).sz = (ti f.type).z.length ∧ z.take (ti f.type).sz = (ti f.type).z ∧ eqAt P (ti f.type) f.type n ∧ fieldsEq P ti n r (off + (ti f.type).sz) (z.drop (ti f.type).sz)
theorem eqFields_ok {n : Nat} : ∀ (fs : List Field) (off : Nat) (z : List Lf) (d : Nat) (w : World) (xs ys : List Value), fieldsEq P ti n fs off z → sameK z (xs.drop off) → sameK z (ys.drop off) →
    (Op.eqFields (d + n) xs.toArray ys.toArray fs).run P w = .ok (eqV (xs.drop off) (ys.drop off)) w
  | [], off, z, d, w, xs, ys, h, h1, h2 => by
    simp only [fieldsEq] at h
    subst h
    have e1 : xs.drop off = [] := List.length_eq_zero_iff.1 (by simpa using sameK_len h1)
    have e2 : ys.drop off = [] := List.length_eq_zero_iff.1 (by simpa using sameK_len h2)
    rw [e1, e2]
    rfl
  | f :: r, off, z, d, w, xs, ys, h, h1, h2 => by
    obtain ⟨hn, ho, g, hsz, hz, he, hr⟩ := h
    have hlen : (ti f.type).sz ≤ z.length := by
      have := congrArg List.length hz
      rw [List.length_take] at this
      omega
    have hx := sameK_len h1
    have hy := sameK_len h2
    rw [List.length_drop] at hx hy
    have hpos := g.pos
    obtain ⟨a1, a2⟩ := sameK_split (n := (ti f.type).sz) h1
    obtain ⟨b1, b2⟩ := sameK_split (n := (ti f.type).sz) h2
    rw [hz] at a1 b1
    have p1 := run_part (P := P) (w := w) (cs := xs) (off := off) g (by omega)
    have p2 := run_part (P := P) (w := w) (cs := ys) (off := off) g (by omega)
    have e := he d w _ _ a1 b1
    have ih := eqFields_ok r (off + (ti f.type).sz) _ d w xs ys hr (by rw [← List.drop_drop]; exact a2) (by rw [← List.drop_drop]; exact b2)
    have hsplit : eqV (xs.drop off) (ys.drop off) = (eqV ((xs.drop off).take (ti f.type).sz) ((ys.drop off).take (ti f.type).sz) && eqV (xs.drop (off + (ti f.type).sz)) (ys.drop (off + (ti f.type).sz))) := by
      rw [← List.drop_drop, ← List.drop_drop, ← eqV_app a1 b1, List.take_append_drop, List.take_append_drop]
    subst ho
    simp only [Op.eqFields, if_pos hn, Sem.run_bind, p1, p2, e, Result.andThen_ok]
    rw [hsplit]
    cases eqV ((xs.drop f.offset).take (ti f.type).sz) ((ys.drop f.offset).take (ti f.type).sz) with
    | true => simpa using ih
    | false => rfl
theorem eqAt_st {t n : Nat} {fs : List Field} (hf : (P.fieldsOf t).toList = fs) (hu : P.underlying t = some (.struct (P.fieldsOf t))) (hp : P.stoodInHeld t = false) (ha : (ti t).agg = true) (h : fieldsEq P ti n fs 0 (ti t).z) : eqAt P (ti t) t (n + 1) := fun d w xs ys h1 h2 => by
  rw [ha]
  simp only [mkV]
  rw [← Nat.add_assoc, run_equalIn_struct w (d + n) t _ _ hu hp, hf]
  have := eqFields_ok fs 0 _ d w xs ys h (by simpa using h1) (by simpa using h2)
  simpa using this
end Go.Sm
