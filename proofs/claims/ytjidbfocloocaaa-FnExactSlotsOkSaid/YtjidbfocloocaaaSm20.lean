import Derived.Test.YtjidbfocloocaaaSm19
import Derived.ProofKit
/-
  The statement's frame: what an argument reads as, as a tree.
-/
namespace Go.Sm
open Go.RowKit

abbrev fld (n : String) (t off bo : Nat) (p : String) : Field := { name := n, type := t, offset := off, byteOffset := bo, embedded := false, tag := "", pkgPath := p }
def zOk : List Lf → Bool
  | [] => true
  | .sc v :: r => scal v && zOk r
  | .ls _ [] :: r => zOk r
  | _ => false
theorem zOk_ok : ∀ {z : List Lf}, zOk z = true → ∀ l ∈ z, (∃ v, l = .sc v ∧ scal v = true) ∨ ∃ zz, l = .ls zz []
  | [], _, l, hl => by cases hl
  | .sc v :: r, h, l, hl => by
    simp only [zOk, Bool.and_eq_true] at h
    rcases List.mem_cons.1 hl with rfl | hl
    · exact .inl ⟨v, rfl, h.1⟩
    · exact zOk_ok h.2 l hl
  | .ls z [] :: r, h, l, hl => by
    simp only [zOk] at h
    rcases List.mem_cons.1 hl with rfl | hl
    · exact .inr ⟨z, rfl⟩
    · exact zOk_ok h l hl
  | .ls _ (_ :: _) :: _, h, _, _ => by simp [zOk] at h
/-- What a cell holds, by its type. -/
inductive CK where
  | int (k : IntKind)
  | bool
  | str
  | sl (e : Nat)
instance : Inhabited CK := ⟨.bool⟩
def CK.elt : CK → Option Nat
  | .sl e => some e
  | _ => none
abbrev CT := Nat → List CK
def contig (ti : TT) (ck : CT) : List Field → Nat → List CK → Prop
  | [], _, l => l = []
  | f :: r, off, l => f.offset = off ∧ (ti f.type).ok = true ∧ l.take (ti f.type).sz = ck f.type ∧ contig ti ck r (off + (ti f.type).sz) (l.drop (ti f.type).sz)
def ckOk (ti : TT) (ck : CT) (t : Nat) : Prop := (ck t).length = (ti t).sz ∧ match (ti t).desc with
  | .int k => ck t = [.int k]
  | .bool => ck t = [.bool]
  | .string => ck t = [.str]
  | .slice e => ck t = [.sl e] ∧ (ti e).ok = true
  | .struct fs => contig ti ck fs.toList 0 (ck t)
  | _ => False
def CGood (ti : TT) (ck : CT) : Prop := ∀ t, (ti t).ok = true → ckOk ti ck t

/-- A tree that fits a cell's type. -/
inductive FitK (ti : TT) (ck : CT) : CK → Lf → Prop
  | int {k n} (h : (Lit.int k n).wf = true) : FitK ti ck (.int k) (.sc (.int k n))
  | bool {b} : FitK ti ck .bool (.sc (.bool b))
  | str {s : ByteArray} (h : s.size ≤ maxLen) : FitK ti ck .str (.sc (.string s))
  | sl {e rows} (hn : rows.length ≤ maxLen) (hl : ∀ i, i < rows.length → (rows.getD i (ti e).z).length = (ck e).length)
      (h : ∀ i j, i < rows.length → j < (ck e).length → FitK ti ck ((ck e).getD j default) (lf (ti e).z rows i j)) : FitK ti ck (.sl e) (.ls (ti e).z rows)
def Fit (ti : TT) (ck : CT) (t : Nat) (ls : List Lf) : Prop := All2 (FitK ti ck) (ck t) ls

variable {P : Program} {ti : TT} {ck : CT}

def shT (n : Nat) : Nat → Tag := fun b => if b < n then .sh else .off
theorem cellsOf_ok {t : Nat} (g : (ti t).good P t) : P.cellsOf t = (ti t).sz := by
  obtain ⟨x, h1, h2, _⟩ := g.inf
  simp [Program.cellsOf, h1, h2]
theorem cellsVR {H : Type} {enc : TypeId × Value → H} {w : World} {spare : Nat → Bool} {held : Bool} {hv : Hv} {n : Nat} {cs : List Value} (hT : TGood P ti) (hC : CGood ti ck)
    (IH : ∀ (t : Nat) (cs : List Value) (x : DataW H × List MemPlace), (ti t).ok = true → DataW.trod enc P w 0 spare held n t cs = some x → ∃ ls, Fit ti ck t ls ∧ All2 (VR (shT w.heap.size) hv w [] .s) ls cs) :
    ∀ (l : List Field) (off : Nat) (ckl : List CK), contig ti ck l off ckl → (∀ f ∈ l, ∃ y, DataW.trod enc P w 0 spare held n f.type ((cs.drop f.offset).take (P.cellsOf f.type)) = some y) → off + ckl.length = cs.length →
      ∃ ls, All2 (FitK ti ck) ckl ls ∧ All2 (VR (shT w.heap.size) hv w [] .s) ls (cs.drop off)
  | [], off, ckl, h, _, hl => by
    simp only [contig] at h
    subst h
    refine ⟨[], .nil, ?_⟩
    rw [List.drop_of_length_le (by simp at hl; omega)]
    exact .nil
  | f :: r, off, ckl, h, hf, hl => by
    obtain ⟨h1, h2, h3, h4⟩ := h
    have g := hT _ h2
    have c := hC _ h2
    obtain ⟨y, hy⟩ := hf f (by simp)
    rw [h1, cellsOf_ok g] at hy
    obtain ⟨ls1, h5, h6⟩ := IH f.type _ y h2 hy
    have hlen : (ckl.take (ti f.type).sz).length = (ti f.type).sz := by rw [h3]; exact c.1
    rw [List.length_take] at hlen
    obtain ⟨ls2, h7, h8⟩ := cellsVR hT hC IH r (off + (ti f.type).sz) (ckl.drop (ti f.type).sz) h4 (fun f hf' => hf f (by simp [hf'])) (by rw [List.length_drop]; omega)
    refine ⟨ls1 ++ ls2, ?_, ?_⟩
    · rw [← List.take_append_drop (ti f.type).sz ckl, h3]
      exact All2.append h5 h7
    · have h9 := All2.append h6 h8
      rw [← List.drop_drop, List.take_append_drop] at h9
      exact h9

theorem fit_of_trod {H : Type} {enc : TypeId × Value → H} {w : World} {spare : Nat → Bool} {held : Bool} {hv : Hv} (hT : TGood P ti) (hC : CGood ti ck) : ∀ (fuel : Nat) (t : Nat) (cs : List Value) (x : DataW H × List MemPlace), (ti t).ok = true →
    DataW.trod enc P w 0 spare held fuel t cs = some x → ∃ ls, Fit ti ck t ls ∧ All2 (VR (shT w.heap.size) hv w [] .s) ls cs
  | 0, t, cs, x, _, h => by simp [DataW.trod] at h
  | fuel + 1, t, cs, x, ht, h => by
    have g := hT t ht
    have c := hC t ht
    have hu := g.und
    obtain ⟨hlen, hc⟩ := c
    unfold Fit
    split at hc
    · rename_i k hd
      rw [hd] at hu
      obtain ⟨n, rfl, _, hwf⟩ := DataW.trod_int hu h
      rw [hc]
      exact ⟨[.sc (.int k n)], .cons (.int hwf) .nil, .cons (.sc rfl) .nil⟩
    · rename_i hd
      rw [hd] at hu
      obtain ⟨b, rfl, _⟩ := DataW.trod_bool hu h
      rw [hc]
      exact ⟨[.sc (.bool b)], .cons .bool .nil, .cons (.sc rfl) .nil⟩
    · rename_i hd
      rw [hd] at hu
      obtain ⟨s, rfl, _, hs⟩ := DataW.trod_string hu h
      rw [hc]
      exact ⟨[.sc (.string s)], .cons (.str hs) .nil, .cons (.sc rfl) .nil⟩
    · rename_i e hd
      rw [hd] at hu
      obtain ⟨hck, hek⟩ := hc
      have ge := hT e hek
      have ce := (hC e hek).1
      rw [hck]
      rcases DataW.trod_slice hu h with ⟨rfl, _⟩ | ⟨a, len, cap, elems, rest, n, hn, rfl, _, _, hl, hm, hel, helem, _, _⟩
      · exact ⟨[.ls (ti e).z []], .cons (.sl (by simp) (fun i hi => by simp at hi) (fun i j hi => by simp at hi)) .nil, .cons .sh0 .nil⟩
      · have hnf : n = fuel := by omega
        subst hnf
        have key : ∀ i, ∃ ls, i < len → Fit ti ck e ls ∧ ∃ cs', All2 (VR (shT w.heap.size) hv w [] .s) ls cs' ∧ ∀ j, j < (ti e).sz → w.cell? ((a.add (i * (ti e).sz)).add j) = cs'[j]? := fun i => by
          by_cases hi : i < len
          · have h1 := helem i hi
            rw [List.getElem?_eq_getElem (by omega)] at h1
            obtain ⟨cs', h2, h3⟩ := Option.bind_eq_some_iff.1 h1
            rw [cellsOf_ok ge] at h2
            obtain ⟨_, h4, h5⟩ := World.cells?_some h2
            obtain ⟨ls, h6, h7⟩ := fit_of_trod hT hC n e cs' _ hek h3
            exact ⟨ls, fun _ => ⟨h6, cs', h7, h5⟩⟩
          · exact ⟨[], fun h => absurd h hi⟩
        obtain ⟨f, hf⟩ := Classical.axiomOfChoice key
        have hrl : ((List.range len).map f).length = len := by simp
        have hrow : ∀ i, i < len → ((List.range len).map f).getD i (ti e).z = f i := fun i hi => by
          rw [List.getD_eq_getElem?_getD, List.getElem?_map, List.getElem?_eq_getElem (by simpa using hi)]
          simp
        have hzl := ge.zl
        refine ⟨[.ls (ti e).z ((List.range len).map f)], .cons (.sl (by rw [hrl]; omega) (fun i hi => ?_) (fun i j hi hj => ?_)) .nil, .cons ?_ .nil⟩
        · rw [hrl] at hi
          rw [hrow i hi]
          exact ((hf i hi).1).len.symm
        · rw [hrl] at hi
          have h1 := (hf i hi).1
          have hj2 : j < (f i).length := by rw [← All2.len h1]; exact hj
          have h2 := h1.get j _ _ (List.getElem?_eq_getElem hj) (List.getElem?_eq_getElem hj2)
          simp only [lf, hrow i hi]
          rw [List.getD_eq_getElem?_getD, List.getElem?_eq_getElem hj, List.getD_eq_getElem?_getD (l := f i), List.getElem?_eq_getElem hj2]
          exact h2
        · by_cases h0 : len = 0
          · subst h0
            exact .sh0
          · have hpos := ge.pos
            have hcell : ∀ i j, i < len → j < (ti e).z.length → ∃ v, w.cell? ((a.add (i * (ti e).sz)).add j) = some v ∧ VR (shT w.heap.size) hv w [] .s (lf (ti e).z ((List.range len).map f) i j) v := fun i j hi hj => by
              obtain ⟨h1, cs', h2, h3⟩ := hf i hi
              have hj2 : j < (f i).length := by rw [← All2.len h1, ce, ← hzl]; exact hj
              have hj3 : j < cs'.length := by rw [← h2.len]; exact hj2
              refine ⟨cs'[j], by rw [h3 j (by rw [← hzl]; exact hj), List.getElem?_eq_getElem hj3], ?_⟩
              have h4 := h2.get j _ _ (List.getElem?_eq_getElem hj2) (List.getElem?_eq_getElem hj3)
              simp only [lf, hrow i hi]
              rw [List.getD_eq_getElem?_getD (l := f i), List.getElem?_eq_getElem hj2]
              exact h4
            obtain ⟨v00, hv00, _⟩ := hcell 0 0 (by omega) (by omega)
            obtain ⟨b, off, spot⟩ := a
            have hspot : spot = none := by simpa [Addr.add] using World.cell?_spot hv00
            subst hspot
            have hb : b < w.heap.size := by
              rw [add_lit, add_lit] at hv00
              exact World.block_lt_of_cell? _ _ hv00
            refine .sh (fun i j => (w.cell? ⟨b, off + (i * (ti e).z.length + j), none⟩).getD default) hrl hl (by simp [shT, hb]) (fun i hi => ?_) (fun i j hi hj => ?_) (fun i j hi hj => ?_)
            · rw [hrow i hi, ← All2.len (hf i hi).1, ce, hzl]
            · obtain ⟨v, h1, _⟩ := hcell i j hi hj
              rw [add_lit, add_lit, Nat.add_assoc, ← hzl] at h1
              rw [h1]
              rfl
            · obtain ⟨v, h1, h2⟩ := hcell i j hi hj
              rw [add_lit, add_lit, Nat.add_assoc, ← hzl] at h1
              rw [h1]
              exact h2
    · rename_i fs hd
      rw [hd] at hu
      obtain ⟨xs, n, hn, _, hcl, hxl, hfield⟩ := DataW.trod_struct hu h
      have hnf : n = fuel := by omega
      subst hnf
      rw [cellsOf_ok g] at hcl
      have := cellsVR (cs := cs) (enc := enc) (w := w) (spare := spare) (held := held) (hv := hv) hT hC (fun t cs x ht h => fit_of_trod hT hC n t cs x ht h) fs.toList 0 (ck t) hc (fun f hf => ?_) (by rw [Nat.zero_add, hlen, hcl])
      · simpa using this
      · obtain ⟨i, hi⟩ := List.getElem?_of_mem hf
        have hlt : i < xs.length := by rw [hxl]; simpa using (List.getElem?_eq_some_iff.1 hi).1
        exact ⟨xs[i], by rw [hfield i f (by simpa using hi), List.getElem?_eq_getElem hlt]⟩
    · exact hc.elim
end Go.Sm
