import Derived.Test.YtkciklpdhhcblaaGreatSmC
import Derived.Maps.AppendAt
import Derived.Deep.AppendSrc
import Derived.Deep.Upon
/-
  append onto a slice of the call's own, of whatever is appended.
-/
namespace Go
section
variable {P : Program} (w : World)
theorem setCells_blk (g : Nat) (e : TypeId) : ∀ (vs : List Value) (cur : Array Value) (off : Nat) (w : World), w.heap[g]? = some (.cells cur e (0, 0)) → off + vs.length ≤ cur.size →
    (w.setCells g off vs).heap[g]? = some (.cells (cur.toList.take off ++ (vs ++ cur.toList.drop (off + vs.length))).toArray e (0, 0)) ∧ (∀ k, k ≠ g → (w.setCells g off vs).heap[k]? = w.heap[k]?) ∧
      (w.setCells g off vs).heap.size = w.heap.size ∧ (w.setCells g off vs).os = w.os ∧ (w.setCells g off vs).tape = w.tape ∧ (w.setCells g off vs).output = w.output
  | [], cur, off, w, h, hl => by
    refine ⟨?_, fun _ _ => rfl, rfl, rfl, rfl, rfl⟩
    simp only [World.setCells, h, List.length_nil, Nat.add_zero, List.nil_append, List.take_append_drop]
  | v :: r, cur, off, w, h, hl => by
    simp only [List.length_cons] at hl
    have hb1 : (w.setCell ⟨g, off, none⟩ v).heap[g]? = some (.cells (cur.setIfInBounds off v) e (0, 0)) := by
      simp [World.setCell, Array.getElem?_modify, h]
    obtain ⟨h1, h2, h3, h4, h5, h6⟩ := setCells_blk g e r (cur.setIfInBounds off v) (off + 1) (w.setCell ⟨g, off, none⟩ v) hb1 (by simp; omega)
    refine ⟨?_, fun k hk => ?_, by rw [World.setCells, h3]; simp, h4, h5, h6⟩
    · rw [World.setCells, h1]
      refine congrArg (fun l => some (Obj.cells (List.toArray l) e)) ?_
      apply List.ext_getElem?
      intro j
      simp only [List.length_cons, Array.toList_setIfInBounds]
      rcases Nat.lt_trichotomy j off with hj | hj | hj
      · rw [List.getElem?_append_left (by simp; omega), List.getElem?_append_left (by simp; omega), List.getElem?_take, List.getElem?_take, if_pos (by omega), if_pos hj, List.getElem?_set_ne (by omega)]
      · have hj' : j = off := hj
        rw [hj', List.getElem?_append_left (by simp; omega), List.getElem?_take, if_pos (by omega), List.getElem?_set_self (by simp; omega)]
        rw [List.getElem?_append_right (by simp; omega)]
        simp only [List.length_take, Array.length_toList]
        rw [show off - min off cur.size = 0 by omega]
        rfl
      · have e1 : (List.take (off + 1) (cur.toList.set off v)).length = off + 1 := by simp; omega
        have e2 : (List.take off cur.toList).length = off := by simp; omega
        rw [List.getElem?_append_right (l₁ := List.take (off + 1) _) (by omega), List.getElem?_append_right (l₁ := List.take off _) (by omega), e1, e2]
        rw [show j - off = (j - (off + 1)) + 1 by omega, List.cons_append, List.getElem?_cons_succ]
        by_cases hj2 : j - (off + 1) < r.length
        · rw [List.getElem?_append_left hj2, List.getElem?_append_left hj2]
        · rw [List.getElem?_append_right (by omega), List.getElem?_append_right (by omega), List.getElem?_drop, List.getElem?_drop, List.getElem?_set_ne (by omega)]
          congr 1
          omega
    · rw [World.setCells, h2 k hk]
      exact RowKit.Below.heap_setCell w ⟨g, off, none⟩ v k hk

theorem run_append_own_src (base : Nat) (t tx ty e : TypeId) (i : TypeInfo) (z : Value) (size bytes : Nat) (ht : P.underlying t = some (.slice e)) (hi : P.info? e = some i) (hz : i.zero = some z)
    (hsize : i.size = size) (hby : i.bytes = bytes) (hzs : z.cells.size = size) (hsz : 0 < size)
    (v : Value) (n : Nat) (xs : List Value) (hown : w.ownsRow base e size v n xs)
    (x : Value) (m : Nat) (news : List Value) (hs : Src P size tx x m news w)
    (h63 : n + m ≤ maxLen) (hbytes : (n + m) * bytes ≤ 140737488355328) (hbase : base ≤ w.heap.size) :
    ∃ v' w', (Builtin.append_ #[t, tx] ty #[v, x]).run P w = .ok v' w' ∧ w'.ownsRow base e size v' (n + m) (xs ++ news) ∧ w.grownBy w' v.ownBlock ∧
      (v' = .slice none 0 0 ↔ v = .slice none 0 0 ∧ m = 0) ∧ (v'.ownBlock = v.ownBlock ∨ v'.ownBlock = some w.heap.size) := by
  subst hsize
  subst hby
  have hsmall : n + m ≤ 9223372036854775807 := by simp only [maxLen] at h63; omega
  have hl := hs.newsLen
  have hlen : (xs ++ news).length = (n + m) * i.size := by rw [List.length_append, hown.1, hl, Nat.add_mul]
  have grown : ∀ (old : Nat), old < n + m → ∀ (row : Option Nat),
      (w.drew.alloc (.cells ((xs ++ news).toArray ++ Builtin.zeroCells z.cells (grownCap w (n + m) old e - (n + m))) e)).ownsRow base e i.size
        (.slice (some ⟨w.heap.size, 0, none⟩) (n + m) (grownCap w (n + m) old e)) (n + m) (xs ++ news) ∧
      w.grownBy (w.drew.alloc (.cells ((xs ++ news).toArray ++ Builtin.zeroCells z.cells (grownCap w (n + m) old e - (n + m))) e)) row := by
    intro old ho row
    have hge := grownCap_ge w (n + m) old e
    have hcm : grownCap w (n + m) old e ≤ maxLen := grownCap_le_maxLen w (n + m) old e h63
    refine ⟨⟨hlen, .inr ⟨w.heap.size, _, _, rfl, hbase, heap_alloc_new w.drew _, hge, hcm, ?_, ?_⟩⟩, ⟨rfl, rfl, rfl, by simp, fun k hk _ => RowKit.Below.heap_alloc w.drew _ k hk⟩⟩
    · simp only [Array.size_append, List.size_toArray, size_zeroCells, hzs, hlen, ← Nat.add_mul]
      congr 1
      omega
    · simp only [Array.toList_append]
      rw [← hlen]
      exact List.take_left
  rcases hown.2 with ⟨rfl, rfl⟩ | ⟨g, cap, cur, rfl, hbg, hg, hnc, hcm, hcs, htake⟩
  · have hx : xs = [] := List.eq_nil_of_length_eq_zero (by simpa using hown.1)
    subst hx
    by_cases hm : m = 0
    · subst hm
      have hn : news = [] := List.eq_nil_of_length_eq_zero (by simpa using hl)
      subst hn
      exact ⟨.slice none 0 0, w, run_append_nothing w t tx ty e i ht hi none 0 0 (Nat.le_refl _) x hs, World.ownsRow_nil w base e i.size, ⟨rfl, rfl, rfl, Nat.le_refl _, fun _ _ _ => rfl⟩, by simp, Or.inl rfl⟩
    · have hr := run_append_grow_src (P := P) w t tx ty e i z ht hi hz none 0 0 [] (by simp [Builtin.firstCells]) x m news hs (by omega) (by omega) (growslice_fits (by omega) hbytes)
      have hgr := grown 0 (by omega) (Value.ownBlock (.slice none 0 0))
      exact ⟨_, _, hr, hgr.1, hgr.2, by simp [hm], Or.inr rfl⟩
  · by_cases hroom : n + m ≤ cap
    · have hfit : n * i.size + news.length ≤ cur.size := by rw [hl, hcs, ← Nat.add_mul]; exact Nat.mul_le_mul_right _ hroom
      have hcell : ∀ j, j < news.length → (w.cell? ⟨g, 0 + n * i.size + j, none⟩).isSome = true := fun j hj => by
        simp only [World.cell?, hg, Option.isSome_none, Bool.false_eq_true, if_false]
        rw [Array.getElem?_eq_getElem (by omega)]
        rfl
      have hr := run_append_room_src (P := P) w t tx ty e i ht hi g 0 n cap x m news hs hroom hcell (fun j _ => by simp [World.frozen?, hg])
      have hset := setCells_blk g e news cur (0 + n * i.size) w hg (by omega)
      rw [show cur.toList.take (0 + n * i.size) = cur.toList.take (n * i.size) by rw [Nat.zero_add], show 0 + n * i.size + news.length = n * i.size + news.length by omega] at hset
      refine ⟨_, _, hr, ⟨hlen, .inr ⟨g, cap, _, rfl, hbg, hset.1, hroom, hcm, ?_, ?_⟩⟩, ⟨hset.2.2.2.1, hset.2.2.2.2.1, hset.2.2.2.2.2, by rw [hset.2.2.1]; exact Nat.le_refl _, fun k _ hk => hset.2.1 k (fun e => hk (by simp [Value.ownBlock, e]))⟩, by simp, Or.inl rfl⟩
      · simp only [List.size_toArray, List.length_append, List.length_take, List.length_drop, Array.length_toList]
        omega
      · rw [htake, ← hlen, ← List.append_assoc]
        exact List.take_left
    · have hcells := run_firstCells_some (P := P) w.drew i.size n ⟨g, 0, none⟩ n cap xs hown.1 (by simpa using hown.cells (g := g) rfl)
      have hr := run_append_grow_src (P := P) w t tx ty e i z ht hi hz (some ⟨g, 0, none⟩) n cap xs hcells x m news hs (by omega) (by omega) (growslice_fits (by omega) hbytes)
      have hgr := grown cap (by omega) (Value.ownBlock (.slice (some ⟨g, 0, none⟩) n cap))
      exact ⟨_, _, hr, hgr.1, hgr.2, by simp, Or.inr rfl⟩
end
end Go
