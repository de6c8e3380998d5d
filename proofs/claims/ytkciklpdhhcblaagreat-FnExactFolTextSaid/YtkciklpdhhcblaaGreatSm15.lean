import Derived.Test.YtkciklpdhhcblaaGreatSm14
namespace Go.Sm
open Go.RowKit
set_option linter.unusedVariables false
set_option linter.unusedSimpArgs false

variable {P : Program} {ti : TT} {E : Env} {tag tag' tag0 : Nat → Tag} {hv hv' : Hv} {a : Act} {w w' w0 : World} {t d : Nat}
variable {Q : Exit → Act → World → Prop} {K : Env → Prop}

theorem St.drew (hs : St w0 tag0 E tag hv a w) : St w0 tag0 E tag hv a { w with drawn := w.drawn + 1 } :=
  hs.hop0 ⟨fun _ _ h => ⟨h, rfl⟩, fun _ _ _ _ h _ => ⟨h, rfl⟩, fun _ _ _ => rfl⟩ (hs.fr.step rfl rfl rfl (Nat.le_refl _) fun _ _ _ => ⟨rfl, rfl⟩) hs.hi

def drawAt (ops : List Oper) (i : Nat) : Bool := match ops[i]? with
  | some o => (o.after.toList.all fun e => !Region.binds .any e || decide (e.on < i)) &&
      ((lks ops o).all fun t => (List.range ops.length).all fun j => match ops[j]? with
        | some oj => (oj.dst != some t) || (decide (j < i) && predB ops i j) || j == i || (decide (i < j) && predB ops j i)
        | none => true) &&
      ((List.range ops.length).all fun j => j == i || (match ops[j]? with
        | some oj => match o.dst with | some t => oj.dst != some t | none => true
        | none => true))
  | none => true
/-- A region whose order may be anything, and says the same: who reads a slot knows whether it has been filled. -/
def drawOk (ops : List Oper) : Bool := (List.range ops.length).all fun i => drawAt ops i

section
variable {ops : List Oper}
theorem drawOk_at (h : drawOk ops = true) {i : Nat} {o : Oper} (ho : ops[i]? = some o) :
    (∀ e ∈ o.after.toList, Region.binds .any e = true → e.on < i) ∧
    (∀ t ∈ lks ops o, ∀ j oj, ops[j]? = some oj → oj.dst = some t → (j < i ∧ predB ops i j = true) ∨ j = i ∨ (i < j ∧ predB ops j i = true)) ∧
    (∀ j oj t, ops[j]? = some oj → oj.dst = some t → o.dst = some t → j = i) := by
  have hi : i < ops.length := (List.getElem?_eq_some_iff.1 ho).1
  have h1 := List.all_eq_true.1 h i (List.mem_range.2 hi)
  unfold drawAt at h1
  rw [ho] at h1
  simp only [Bool.and_eq_true, List.all_eq_true] at h1
  obtain ⟨⟨h2, h3⟩, h4⟩ := h1
  refine ⟨fun e he hb => ?_, fun t ht j oj hj hd => ?_, fun j oj t hj hd hd2 => ?_⟩
  · have := h2 e he
    rw [hb] at this
    simpa using this
  · have hjl : j < ops.length := (List.getElem?_eq_some_iff.1 hj).1
    have := h3 t ht j (List.mem_range.2 hjl)
    rw [hj] at this
    simp only [hd, bne_self_eq_false, Bool.false_or, Bool.or_eq_true, Bool.and_eq_true, decide_eq_true_eq, beq_iff_eq] at this
    rcases this with (h5 | h5) | h5
    · exact .inl h5
    · exact .inr (.inl h5)
    · exact .inr (.inr h5)
  · have hjl : j < ops.length := (List.getElem?_eq_some_iff.1 hj).1
    have := h4 j (List.mem_range.2 hjl)
    rw [hj, hd2] at this
    simp only [hd, bne_self_eq_false, Bool.or_false, beq_iff_eq] at this
    exact this
end

theorem Ep_congr : ∀ (l : PL) (k : Nat) (b b' : Nat → Bool) (E : Env), (∀ j, k ≤ j → j < k + l.length → b j = b' j) → Ep l k b E = Ep l k b' E
  | [], _, _, _, _, _ => rfl
  | x :: r, k, b, b', E, h => by
    simp only [Ep]
    rw [h k (Nat.le_refl _) (by simp), Ep_congr r (k + 1) b b' _ (fun j h1 h2 => h j (by omega) (by simp; omega))]

theorem Dl_congr : ∀ (l : PL) (k : Nat) (b b' : Nat → Bool) (r : Nat), (∀ j, k ≤ j → j < k + l.length → b j = b' j) → Dl l k b r = Dl l k b' r
  | [], _, _, _, _, _ => rfl
  | x :: t, k, b, b', r, h => by
    simp only [Dl]
    rw [h k (Nat.le_refl _) (by simp), Dl_congr t (k + 1) b b' r (fun j h1 h2 => h j (by omega) (by simp; omega))]
/-- The environment when the listed ones have run. -/
def EpK (l : PL) (b : Nat → Bool) (E : Env) : Env := (Ep l 0 b E).killD fun r => Dl l 0 b r || inL [] r
theorem EpK_congr {l : PL} {b b' : Nat → Bool} {E : Env} (h : ∀ j, j < l.length → b j = b' j) : EpK l b E = EpK l b' E := by
  have h1 : Ep l 0 b E = Ep l 0 b' E := Ep_congr l 0 b b' E (fun j _ hj => h j (by omega))
  have h2 : ∀ r, Dl l 0 b r = Dl l 0 b' r := fun r => Dl_congr l 0 b b' r (fun j _ hj => h j (by omega))
  simp only [EpK, h1, h2]
theorem EpK_sl {l : PL} {b : Nat → Bool} {E : Env} {t : Nat} {sv : SV} : lkp (EpK l b E).sl t = some sv ↔ lkp (Ep l 0 b E).sl t = some sv ∧ ∀ r ∈ sv.nms, Dl l 0 b r = false := by
  unfold EpK
  refine lkp_klS.trans ⟨fun h => ⟨h.1, fun r hr => ?_⟩, fun h => ⟨h.1, ?_⟩⟩
  · have := List.any_eq_false.1 h.2 r hr
    simpa [inL] using this
  · rw [List.any_eq_false]
    intro r hr
    simp [inL, h.2 r hr]
theorem EpK_rt {l : PL} {b : Nat → Bool} {E : Env} {r : Nat} {y : Md × Lf} : lkp (EpK l b E).rt r = some y ↔ lkp (Ep l 0 b E).rt r = some y ∧ Dl l 0 b r = false := by
  unfold EpK
  refine lkp_delD'.trans ?_
  simp [inL]

def cnt (n : Nat) (b : Nat → Bool) : Nat := ((List.range n).filter fun j => !b j).length
theorem cnt_up {n : Nat} {b b' : Nat → Bool} {i : Nat} (hi : i < n) (hb : b i = false) (h1 : b' i = true) (h2 : ∀ j, j ≠ i → b' j = b j) : cnt n b' + 1 = cnt n b := by
  unfold cnt
  have key : ∀ n, (i < n → ((List.range n).filter fun j => !b' j).length + 1 = ((List.range n).filter fun j => !b j).length) ∧ (¬ i < n → ((List.range n).filter fun j => !b' j).length = ((List.range n).filter fun j => !b j).length) := by
    intro n
    induction n with
    | zero => simp
    | succ n ih =>
      simp only [List.range_succ, List.filter_append, List.length_append]
      refine ⟨fun hlt => ?_, fun hge => ?_⟩
      · by_cases e : i = n
        · subst e
          rw [ih.2 (by omega)]
          simp [hb, h1]
        · have := ih.1 (by omega)
          have h3 : b' n = b n := h2 n (fun h => e h.symm)
          simp only [List.filter_cons, List.filter_nil, h3]
          split <;> simp <;> omega
      · have h3 : b' n = b n := h2 n (fun h => by omega)
        rw [ih.2 (by omega)]
        simp only [List.filter_cons, List.filter_nil, h3]
  exact (key n).1 hi
theorem cnt_zero {n : Nat} {b : Nat → Bool} (h : cnt n b = 0) : ∀ j, j < n → b j = true := by
  intro j hj
  cases hb : b j with
  | true => rfl
  | false =>
    have : j ∈ (List.range n).filter fun j => !b j := List.mem_filter.2 ⟨List.mem_range.2 hj, by simp [hb]⟩
    unfold cnt at h
    rw [List.eq_nil_of_length_eq_zero h] at this
    cases this
theorem cnt_ne {n : Nat} {b : Nat → Bool} : (∀ j, j < n → b j = true) ∨ ∃ i, i < n ∧ b i = false ∧ ∀ j, j < i → b j = true := by
  induction n with
  | zero => exact .inl fun j h => by omega
  | succ n ih =>
    rcases ih with h | ⟨i, h1, h2, h3⟩
    · cases hb : b n with
      | true =>
        refine .inl fun j hj => ?_
        by_cases e : j = n
        · rw [e]; exact hb
        · exact h j (by omega)
      | false => exact .inr ⟨n, by omega, hb, h⟩
    · exact .inr ⟨i, by omega, h2, h3⟩

theorem predB_mem {ops : List Oper} {i j : Nat} {o : Oper} (ho : ops[i]? = some o) (h : predB ops i j = true) : ∃ e ∈ o.after.toList, Region.binds .any e = true ∧ e.on = j := by
  unfold predB at h
  rw [ho] at h
  simp only [List.any_eq_true, Bool.and_eq_true, beq_iff_eq] at h
  obtain ⟨e, he, hb, rfl⟩ := h
  exact ⟨e, he, hb, rfl⟩
theorem closB_lt {ops : List Oper} (hd : drawOk ops = true) : ∀ (f i k : Nat) (L : Nat → Bool), (∀ j k, L k = true → predB ops k j = true → L j = true) → closB ops f i k = true → i < k ∧ (L k = true → L i = true)
  | 0, _, _, _, _, h => by simp [closB] at h
  | f + 1, i, k, L, hL, h => by
    have hp : ∀ m k, predB ops k m = true → m < k := fun m k h => by
      have h0 := h
      unfold predB at h0
      split at h0
      · rename_i o ho
        obtain ⟨e, he, hb, rfl⟩ := predB_mem ho h
        exact (drawOk_at hd ho).1 e he hb
      · cases h0
    have h' : predB ops k i = true ∨ ∃ m, predB ops k m = true ∧ closB ops f i m = true := by
      simp only [closB] at h
      split at h
      · rename_i h1; exact .inl h1
      · split at h
        · rename_i o ho
          obtain ⟨e, h1, h2, h3⟩ := closE_mem h
          refine .inr ⟨e.on, ?_, h3⟩
          unfold predB
          rw [ho]
          exact List.any_eq_true.2 ⟨e, h1, by simp [h2]⟩
        · cases h
    rcases h' with h | ⟨m, h1, h2⟩
    · exact ⟨hp _ _ h, fun hk => hL _ _ hk h⟩
    · have h3 := closB_lt hd f i m L hL h2
      exact ⟨Nat.lt_trans h3.1 (hp _ _ h1), fun hk => h3.2 (hL _ _ hk h1)⟩
theorem famA_of {ops : List Oper} {i : Nat} {o : Oper} (ho : ops[i]? = some o) (hc : isCallO o = true) (r : Nat) (h : fam (dn o) r = true) : famA ops r = true := by
  unfold famA
  rw [List.any_eq_true]
  exact ⟨o, List.mem_of_getElem? ho, by rw [hc]; simpa [fam] using h⟩
theorem isCallO_dst {o : Oper} (h : isCallO o = true) : o.dst = some (dn o) := by
  have key : o.dst.isSome = true → o.dst = some (dn o) := fun h => by
    unfold dn
    cases hd : o.dst with
    | none => rw [hd] at h; cases h
    | some d => rfl
  unfold isCallO at h
  split at h
  · split at h
    · exact key h
    · exact key h
    · cases h
  · exact key h
  · exact key h
  · cases h

theorem evD_any (hT : TGood P ti) {bb : Bool} {ops : Array Oper} (hd : drawOk ops.toList = true) (h : evD P ti bb ops.toList ops.toList 0 K [] [] (E.fresh (famA ops.toList))) (hs : St w0 tag0 E tag hv a w)
    (hN : ∀ E' tag' hv' a' w', St w0 tag0 E' tag' hv' a' w' → K E' → Q .normal a' w') : wpAny P .any ops Q ops.size (Array.replicate ops.size false) a { w with drawn := w.drawn + 1 } := by
  have hcl0 : ∀ i o, ops.toList[i]? = some o → isCallO o = true → (E.fresh (famA ops.toList)).cl (fam (dn o)) := fun i o ho hc => Env.fresh_cl (fun r h => famA_of ho hc r h) E
  have hclB : ∀ i o, ops.toList[i]? = some o → isCallO o = true → ∀ z ∈ (E.fresh (famA ops.toList)).bx, z.2.any (LV.hit (fam (dn o))) = false := fun i o ho hc z hz => by
    simp only [Env.fresh] at hz
    obtain ⟨y, _, rfl⟩ := List.mem_map.1 hz
    exact LVs.fr_hit (fun r h => famA_of ho hc r h) y.2
  replace hs := hs.fresh_same (famA ops.toList)
  generalize E.fresh (famA ops.toList) = E at h hs hcl0 hclB
  obtain ⟨l, hl, ⟨G, hG, hGle⟩, hstep, _⟩ := evD_good hT ops.toList 0 [] [] E (by simp) (fun t sv _ => by rw [List.any_eq_false]; intro x _ hx; cases hx) (fun _ _ _ => rfl) h
  replace hGle : G.le (EpK l (fun _ => true) E) := hGle
  have hln : l.length = ops.size := by simpa using hl
  have hget : ∀ i o, ops[i]? = some o → ops.toList[i]? = some o := fun i o ho => by rw [Array.getElem?_toList]; exact ho
  have hldst : ∀ (i : Nat) (x : PE), l[i]? = some x → ∃ o, ops.toList[i]? = some o ∧ x.1 = o.dst ∧ (x.2.2.1 ≠ [] → isCallO o = true) ∧ (∀ y ∈ x.2.2.1, fam (dn o) y.1 = true) ∧ clrL ops.toList i x.2.1 (callsOf ops.toList 0) ∧ (x.2.2.2 = [] ∨ bxClr x.2.2.2 E.bx = true) := fun i x hx => by
    have hi : i < ops.toList.length := by rw [← hl]; exact (List.getElem?_eq_some_iff.1 hx).1
    obtain ⟨sv, rts, ks, Er, hS⟩ := hstep i _ (List.getElem?_eq_getElem hi)
    rw [hS.at_] at hx
    cases hx
    exact ⟨_, List.getElem?_eq_getElem hi, rfl, hS.call, hS.fam, by have := hS.clr; rwa [Nat.zero_add] at this, hS.bx⟩
  have hap : Apart l := by
    intro i j x y t hx hy ht ht2
    obtain ⟨o, h1, h2, _⟩ := hldst i x hx
    obtain ⟨o', h3, h4, _⟩ := hldst j y hy
    exact ((drawOk_at hd h3).2.2 i o t h1 (h2 ▸ ht) (h4 ▸ ht2))
  /- two sets of listed ones that agree on what is looked at look alike -/
  have hsame : ∀ (b b' : Nat → Bool) (ts : List Nat), (∀ j k, b k = true → predB ops.toList k j = true → b j = true) → (∀ j k, b' k = true → predB ops.toList k j = true → b' j = true) →
      (∀ t ∈ ts, ∀ j x, l[j]? = some x → x.1 = some t → b j = b' j) → (∀ t ∈ ts, lkp (Ep l 0 b E).sl t = lkp (Ep l 0 b' E).sl t) ∧
        ∀ r, ((∃ t sv, t ∈ ts ∧ lkp (Ep l 0 b E).sl t = some sv ∧ r ∈ sv.nms) ∨ ∃ z ∈ E.bx, r ∈ z.2.flatMap LV.nms) → lkp (Ep l 0 b E).rt r = lkp (Ep l 0 b' E).rt r := by
    intro b b' ts hb hb' hts
    refine ⟨fun t ht => ?_, fun r hr => ?_⟩
    · by_cases hex : ∃ (j : Nat) (x : PE), l[j]? = some x ∧ x.1 = some t
      · obtain ⟨j, ⟨x1, x2, x3⟩, hx, rfl⟩ := hex
        rw [lkp_Ep_some l 0 _ E t j x2 x3 hap hx, lkp_Ep_some l 0 _ E t j x2 x3 hap hx, Nat.zero_add, hts t ht j _ hx rfl]
      · have hno : ∀ (j : Nat) (x : PE), l[j]? = some x → x.1 ≠ some t := fun j x hx he => hex ⟨j, x, hx, he⟩
        rw [lkp_Ep_none l 0 _ E t hno, lkp_Ep_none l 0 _ E t hno]
    · refine rt_Ep l 0 b b' E E r rfl fun i x y hx hy => ?_
      rw [Nat.zero_add]
      obtain ⟨oi, ho, hdi, hci, hfi, _⟩ := hldst i x hx
      have hic := hci (fun e => by rw [e] at hy; cases hy)
      have hr1 : fam (dn oi) r = true := hfi _ hy
      have hcl := hcl0 i oi ho hic
      rcases hr with ⟨t, sv, htt, hzt, hrz⟩ | ⟨⟨bb, ls⟩, hz, hrz⟩
      · have hhit : sv.hit (fam (dn oi)) = true := SV.nms_hit hrz hr1
        have hE : lkp E.sl t = some sv → b i = b' i := fun he => by
          rw [hcl.sl t sv he] at hhit
          cases hhit
        by_cases hex : ∃ (j : Nat) (x : PE), l[j]? = some x ∧ x.1 = some t
        · obtain ⟨j, ⟨x1, x2, x3⟩, hxj, rfl⟩ := hex
          have hbb := hts t htt j _ hxj rfl
          have h6 := hzt
          rw [lkp_Ep_some l 0 _ E t j x2 x3 hap hxj, Nat.zero_add] at h6
          split at h6
          · rename_i hbj
            split at h6
            · cases h6
              by_cases hij : i = j
              · rw [hij]; exact hbb
              · obtain ⟨oj, hoj, _, _, _, hclr, _⟩ := hldst j _ hxj
                have h7 := clrL_ok hclr i oi ho hic (by omega) hhit
                rw [Nat.zero_add] at h7
                rw [(closB_lt hd _ _ _ b hb h7).2 hbj, (closB_lt hd _ _ _ b' hb' h7).2 (by rw [← hbb]; exact hbj)]
            · cases h6
          · exact hE h6
        · rw [lkp_Ep_none l 0 _ E t (fun j x hx he => hex ⟨j, x, hx, he⟩)] at hzt
          exact hE hzt
      · have hhit : ls.any (LV.hit (fam (dn oi))) = true := LVs.nms_hit hrz hr1
        have := hclB i oi ho hic (bb, ls) hz
        rw [this] at hhit
        cases hhit
  have main : ∀ (fuel : Nat) (listed : Array Bool) (tag : Nat → Tag) (hv : Hv) (a : Act) (w : World), listed.size = ops.size → cnt ops.size (fun j => listed.getD j true) ≤ fuel →
      (∀ j o, ops[j]? = some o → listed.getD j true = true → ∀ e ∈ o.after.toList, Region.binds .any e = true → listed.getD e.on false = true) →
      St w0 tag0 (EpK l (fun j => listed.getD j true) E) tag hv a w → wpAny P .any ops Q fuel listed a w := by
    intro fuel
    induction fuel with
    | zero =>
      intro listed tag hv a w hsz hc hcl hst
      have hall := cnt_zero (by omega : cnt ops.size (fun j => listed.getD j true) = 0)
      refine ⟨?_, hN _ _ _ _ _ (hst.le (E' := G) ?_) hG⟩
      · refine List.eq_nil_iff_forall_not_mem.2 fun i hi => ?_
        simp only [Region.ready, List.mem_filter, List.mem_range] at hi
        rw [hall i hi.1] at hi
        simp at hi
      · rw [EpK_congr (b' := fun _ => true) (fun j hj => hall j (by omega))]
        exact hGle
    | succ fuel ih =>
      intro listed tag hv a w hsz hc hcl hst
      refine ⟨fun hr => ?_, fun i hi => ?_⟩
      · rcases cnt_ne (n := ops.size) (b := fun j => listed.getD j true) with hall | ⟨i, hi, hb, hlow⟩
        · refine hN _ _ _ _ _ (hst.le (E' := G) ?_) hG
          rw [EpK_congr (b' := fun _ => true) (fun j hj => hall j (by omega))]
          exact hGle
        · exfalso
          have hmem : i ∈ Region.ready .any ops listed := by
            simp only [Region.ready, List.mem_filter, List.mem_range]
            refine ⟨hi, ?_⟩
            have ho : ops[i]? = some ops[i] := Array.getElem?_eq_getElem hi
            rw [hb, ho]
            simp only [Bool.not_false, Bool.true_and, Option.map_some, Option.getD_some]
            rw [← Array.all_toList, List.all_eq_true]
            intro e he
            cases hbi : Region.binds .any e with
            | false => simp
            | true =>
              have hlt := (drawOk_at hd (hget i _ ho)).1 e he hbi
              have h3 := hlow e.on hlt
              simp only [Bool.not_true, Bool.false_or]
              have h4 : e.on < listed.size := by omega
              simp only [Array.getD, h4, dif_pos] at h3 ⊢
              exact h3
          rw [hr] at hmem
          cases hmem
      · simp only [Region.ready, List.mem_filter, List.mem_range, Bool.and_eq_true, Bool.not_eq_true'] at hi
        obtain ⟨hilt, hib, hedges⟩ := hi
        have ho : ops[i]? = some ops[i] := Array.getElem?_eq_getElem hilt
        generalize ops[i] = o at ho
        rw [ho] at hedges
        simp only [Option.map_some, Option.getD_some] at hedges
        rw [← Array.all_toList, List.all_eq_true] at hedges
        have hpred : ∀ e ∈ o.after.toList, Region.binds .any e = true → listed.getD e.on false = true := fun e he hb => by
          have := hedges e he
          rw [hb] at this
          simpa using this
        obtain ⟨sv, rts, ks, Er, hS⟩ := hstep i o (hget i o ho)
        have hlsv := hS.at_
        have hrc := hS.call
        have hrf := hS.fam
        have hd3 := drawOk_at hd (hget i o ho)
        have hTF : ∀ j, j < ops.size → listed.getD j false = listed.getD j true := fun j hj => by
          have : j < listed.size := by omega
          simp [Array.getD, this]
        have hb1 : ∀ j k, listed.getD k true = true → predB ops.toList k j = true → listed.getD j true = true := by
          intro j k hk h
          have h0 := h
          unfold predB at h0
          split at h0
          · rename_i ok hok
            obtain ⟨e, he, hb, rfl⟩ := predB_mem hok h
            have := hcl k ok (by rw [← Array.getElem?_toList]; exact hok) hk e he hb
            simp only [Array.getD] at this ⊢
            split
            · rename_i hlt
              rw [dif_pos hlt] at this
              exact this
            · rfl
          · cases h0
        have hb2 : ∀ j k, decide (k < i) = true → predB ops.toList k j = true → decide (j < i) = true := by
          intro j k hk h
          have h0 := h
          unfold predB at h0
          split at h0
          · rename_i ok hok
            obtain ⟨e, he, hb, rfl⟩ := predB_mem hok h
            have := (drawOk_at hd hok).1 e he hb
            have hk' : k < i := by simpa using hk
            simp
            omega
          · cases h0
        have hkeep := hsame (fun j => decide (j < i)) (fun j => listed.getD j true) (lks ops.toList o) hb2 hb1 (fun t ht j x hx hxt => by
          symm
          obtain ⟨oj, h1, h2, _⟩ := hldst j _ hx
          have hjl : j < ops.size := by simpa using (List.getElem?_eq_some_iff.1 h1).1
          rcases hd3.2.1 t ht j oj h1 (h2.symm.trans hxt) with ⟨h3, h4⟩ | rfl | ⟨h3, h4⟩
          · obtain ⟨e, he, hb, rfl⟩ := predB_mem (hget i o ho) h4
            have := hpred e he hb
            rw [hTF _ hjl] at this
            rw [this]
            simp [h3]
          · rw [hib]; simp
          · obtain ⟨e, he, hb, rfl⟩ := predB_mem h1 h4
            cases hq : listed.getD j true with
            | false => simp; omega
            | true =>
              have := hcl j oj (by rw [← Array.getElem?_toList]; exact h1) hq e he hb
              rw [hTF _ hilt, hib] at this
              cases this)
        have hler : Er.le (EpK l (fun j => listed.getD j true) E) := by
          have hle : Er.le (EpK l (fun j => decide (j < i)) E) := hS.le
          have hno : ∀ t u r, lkp Er.sl t = some u → r ∈ u.nms → Dl l 0 (fun j => listed.getD j true) r = false := fun t u r ht hr => by
            cases hq : Dl l 0 (fun j => listed.getD j true) r with
            | false => rfl
            | true =>
              exfalso
              obtain ⟨j, x, hx, hbj, hrx⟩ := Dl_iff.1 hq
              rw [Nat.zero_add] at hbj
              have h1 := (EpK_sl.1 (hle.sl t u ht)).2 r hr
              rcases Nat.lt_trichotomy j i with hlt | rfl | hgt
              · have h2 : Dl l 0 (fun j => decide (j < i)) r = true := Dl_iff.2 ⟨j, x, hx, by simpa using hlt, hrx⟩
                rw [h2] at h1
                cases h1
              · rw [hib] at hbj
                cases hbj
              · have h2 := hS.hist j x hgt hx t u r ht hr hrx
                rw [Nat.zero_add, Nat.zero_add] at h2
                have h3 := (closB_lt hd _ _ _ (fun j => listed.getD j true) hb1 h2).2 hbj
                simp only [hib] at h3
                cases h3
          refine ⟨?_, fun t u ht => ?_, fun b ls hb => ?_, fun r y hr => ?_⟩
          · exact hle.nt.trans ((Ep_rest l 0 _ E).1.trans (Ep_rest l 0 _ E).1.symm)
          · have h1 := (EpK_sl.1 (hle.sl t u ht)).1
            rw [hkeep.1 t (hS.inn.sl t u ht)] at h1
            exact EpK_sl.2 ⟨h1, fun r hr => hno t u r ht hr⟩
          · have h1 : lkp (Ep l 0 (fun j => decide (j < i)) E).bx b = some ls := hle.bx b ls hb
            have h2 : lkp (Ep l 0 (fun j => listed.getD j true) E).bx b = some ls := by
              rw [(Ep_rest l 0 _ E).2] at h1 ⊢
              exact h1
            exact h2
          · have h1 := EpK_rt.1 (hle.rt r y hr)
            have h2 := hS.inn.rt r y hr
            rw [hkeep.2 r (h2.imp (fun ⟨t, u, q1, q2⟩ => ⟨t, u, hS.inn.sl t u q1, (EpK_sl.1 (hle.sl t u q1)).1, q2⟩) id)] at h1
            refine EpK_rt.2 ⟨h1.1, ?_⟩
            rcases h2 with ⟨t, u, q1, q2⟩ | ⟨z, hz, hrz⟩
            · exact hno t u r q1 q2
            · cases hq : Dl l 0 (fun j => listed.getD j true) r with
              | false => rfl
              | true =>
                exfalso
                obtain ⟨j, x, hx, _, hrx⟩ := Dl_iff.1 hq
                obtain ⟨_, _, _, _, _, _, hbx⟩ := hldst j x hx
                rcases hbx with hbx | hbx
                · rw [hbx] at hrx
                  cases hrx
                · have := List.any_eq_false.1 (bxClr_ok hbx z hz).2 r hrz
                  exact this (inL_mem.2 hrx)
        have hother : ∀ (j : Nat) (z : PE) (u : Md × Lf) (r : Nat), isCallO o = true → fam (dn o) r = true → j ≠ i → l[j]? = some z → (r, u) ∉ z.2.2.1 := fun j z u r hio hr hj hz hm => by
          obtain ⟨oj, h1, h2, h3, h4, _⟩ := hldst j z hz
          have h5 := isCallO_dst (h3 (fun e => by rw [e] at hm; cases hm))
          have h6 := isCallO_dst hio
          have h7 := h4 _ hm
          simp only [fam, beq_iff_eq] at h7 hr
          rw [show dn oj = dn o by omega] at h5
          exact hj ((drawOk_at hd (hget i o ho)).2.2 j oj (dn o) h1 h5 h6)
        have hclean0 : isCallO o = true → (Ep l 0 (fun j => listed.getD j true) E).cl (fam (dn o)) := fun hio => by
          have hc := hcl0 i o (hget i o ho) hio
          refine ⟨fun t sv ht => ?_, fun b ls hb => hc.bx b ls (by rwa [(Ep_rest l 0 _ E).2] at hb), fun r y hr => ?_⟩
          · by_cases hex : ∃ (j : Nat) (x : PE), l[j]? = some x ∧ x.1 = some t
            · obtain ⟨j, ⟨x1, x2, x3⟩, hx, rfl⟩ := hex
              rw [lkp_Ep_some l 0 _ E t j x2 x3 hap hx, Nat.zero_add] at ht
              split at ht
              · rename_i hbj
                split at ht
                · cases ht
                  have hij : i ≠ j := fun e => by subst e; rw [hib] at hbj; cases hbj
                  obtain ⟨oj, hoj, _, _, _, hclr, _⟩ := hldst j _ hx
                  cases hq : SV.hit (fam (dn o)) sv with
                  | false => rfl
                  | true =>
                    have h7 := clrL_ok hclr i o (hget i o ho) hio (by omega) hq
                    rw [Nat.zero_add] at h7
                    have := (closB_lt hd _ _ _ (fun j => listed.getD j true) hb1 h7).2 hbj
                    simp only [hib] at this
                    cases this
                · cases ht
              · exact hc.sl t sv ht
            · rw [lkp_Ep_none l 0 _ E t (fun j x hx he => hex ⟨j, x, hx, he⟩)] at ht
              exact hc.sl t sv ht
          · rcases rt_Ep_mem l 0 _ E r y hr with ⟨j, x, hx, hbj, hm⟩ | hr
            · rw [Nat.zero_add] at hbj
              cases hq : fam (dn o) r with
              | false => rfl
              | true => exact absurd hm (hother j x y r hio hq (fun e => by subst e; simp only [hib] at hbj; cases hbj) hx)
            · exact hc.rt r y hr
        have hclean : isCallO o = true → (EpK l (fun j => listed.getD j true) E).cl (fam (dn o)) := fun hio => by
          have := hclean0 hio
          exact ⟨fun t sv h => this.sl t sv (EpK_sl.1 h).1, fun b ls h => this.bx b ls h, fun r y h => this.rt r y (EpK_rt.1 h).1⟩
        have hbxK : (EpK l (fun j => listed.getD j true) E).bx = E.bx := (Ep_rest l 0 _ E).2
        have hgo := hS.step w0 tag0 _ tag hv a w (wpAny P .any ops Q fuel (listed.setIfInBounds i true)) Q hst hler hclean (by rw [hbxK]; exact hS.bx) (fun tag' hv' v w' hst' => by
          have hb' : ∀ j, (listed.setIfInBounds i true).getD j true = if j = i then true else listed.getD j true := by
            intro j
            simp only [Array.getD_eq_getD_getElem?, Array.getElem?_setIfInBounds]
            by_cases e : i = j
            · subst e
              have : i < listed.size := by omega
              simp [this]
            · have e' : ¬ j = i := fun h => e h.symm
              simp [e, e']
          refine ih _ tag' hv' _ w' (by simpa using hsz) ?_ ?_ ?_
          · have := cnt_up (n := ops.size) (b := fun j => listed.getD j true) (b' := fun j => (listed.setIfInBounds i true).getD j true) hilt hib (by simp [hb']) (fun j hj => by simp [hb', hj])
            omega
          · intro j oj hoj hj e he hb
            have hx : listed.getD e.on false = true := by
              rw [hb'] at hj
              split at hj
              · rename_i hji
                subst hji
                rw [ho] at hoj
                cases hoj
                exact hpred e he hb
              · exact hcl j oj hoj hj e he hb
            simp only [Array.getD_eq_getD_getElem?, Array.getElem?_setIfInBounds] at hx ⊢
            split
            · rename_i hh
              split <;> simp
              omega
            · exact hx
          · have e1 := Ep_rest l 0 (fun j => listed.getD j true) E
            have e2 := Ep_rest l 0 (fun j => (listed.setIfInBounds i true).getD j true) E
            have e3 := put_rest (E := (Ep l 0 (fun j => listed.getD j true) E).addR rts) (x := o.dst) (sv := sv)
            have hZ : (∀ t, lkp (Ep l 0 (fun j => (listed.setIfInBounds i true).getD j true) E).sl t = lkp (((Ep l 0 (fun j => listed.getD j true) E).addR rts).put o.dst sv).sl t) ∧ ∀ r, lkp (Ep l 0 (fun j => (listed.setIfInBounds i true).getD j true) E).rt r = lkp (((Ep l 0 (fun j => listed.getD j true) E).addR rts).put o.dst sv).rt r := by
             refine ⟨fun t => ?_, fun r => ?_⟩
             · rw [lkp_put]
               by_cases hex : ∃ (j : Nat) (x : PE), l[j]? = some x ∧ x.1 = some t
               · obtain ⟨j, ⟨x1, x2, x3⟩, hx, rfl⟩ := hex
                 rw [lkp_Ep_some l 0 _ E t j x2 x3 hap hx, Nat.zero_add, hb']
                 by_cases hji : j = i
                 · subst hji
                   rw [hlsv] at hx
                   simp only [Option.some.injEq, Prod.mk.injEq] at hx
                   obtain ⟨h1, rfl, rfl⟩ := hx
                   rw [if_pos rfl, if_pos rfl, if_pos h1]
                   rw [show ((Ep l 0 (fun j => listed.getD j true) E).addR rts).nt = E.nt from e1.1]
                 · rw [if_neg hji, if_neg (fun he => hji (hap j i _ _ t hx hlsv rfl he))]
                   refine Eq.trans ?_ (lkp_Ep_some l 0 _ E t j x2 x3 hap hx).symm
                   rw [Nat.zero_add]
               · have hno : ∀ (j : Nat) (x : PE), l[j]? = some x → x.1 ≠ some t := fun j x hx he => hex ⟨j, x, hx, he⟩
                 rw [lkp_Ep_none l 0 _ E t hno, if_neg (hno i _ hlsv)]
                 exact (lkp_Ep_none l 0 _ E t hno).symm
             · rw [e3.2.2]
               simp only [Env.addR, lkp_app]
               cases hx : lkp rts r with
               | some y =>
                 have hm := lkp_mem hx
                 have hio := hrc (fun e => by rw [e] at hm; cases hm)
                 exact rt_Ep_at l 0 _ E r i _ y hlsv hx (by simp only [hb', Nat.zero_add, if_true]) (fun j z u hj hz => hother j z u r hio (hrf _ hm) hj hz)
               | none =>
                 refine rt_Ep l 0 _ _ E E r rfl fun j z y hz hy => ?_
                 simp only [hb', Nat.zero_add]
                 split
                 · rename_i hji
                   subst hji
                   rw [hlsv] at hz
                   cases hz
                   exfalso
                   have : ∀ (L : RT), (r, y) ∈ L → lkp L r ≠ none := by
                     intro L
                     induction L with
                     | nil => intro h; cases h
                     | cons q L ih =>
                       intro h
                       simp only [lkp]
                       split
                       · simp
                       · rename_i hne
                         rcases List.mem_cons.1 h with e | h
                         · exact absurd (congrArg Prod.fst e).symm hne
                         · exact ih h
                   exact this _ hy hx
                 · rfl
            have e4 := put_rest (E := (EpK l (fun j => listed.getD j true) E).addR rts) (x := o.dst) (sv := sv)
            have hDn : ∀ r, Dl l 0 (fun j => (listed.setIfInBounds i true).getD j true) r = false → Dl l 0 (fun j => listed.getD j true) r = false ∧ r ∉ ks := fun r hr => by
              constructor
              · cases hq : Dl l 0 (fun j => listed.getD j true) r with
                | false => rfl
                | true =>
                  obtain ⟨j, x, h1, h2, h3⟩ := Dl_iff.1 hq
                  have : Dl l 0 (fun j => (listed.setIfInBounds i true).getD j true) r = true := Dl_iff.2 ⟨j, x, h1, by
                    simp only [Nat.zero_add] at h2 ⊢
                    rw [hb']
                    split
                    · rfl
                    · exact h2, h3⟩
                  rw [this] at hr
                  cases hr
              · intro hk
                have : Dl l 0 (fun j => (listed.setIfInBounds i true).getD j true) r = true := Dl_iff.2 ⟨i, _, hlsv, by
                  simp only [Nat.zero_add, hb', if_true], hk⟩
                rw [this] at hr
                cases hr
            refine hst'.le ⟨e2.1.trans (e4.1.trans e1.1).symm, fun t u ht => ?_, fun b ls hb => ?_, fun r y hr => ?_⟩
            · obtain ⟨h1, h2⟩ := EpK_sl.1 ht
              refine lkp_klS.2 ⟨?_, ?_⟩
              · rw [hZ.1, lkp_put] at h1
                rw [lkp_put]
                split at h1
                · rename_i hx
                  rw [if_pos hx]
                  exact h1
                · rename_i hx
                  rw [if_neg hx]
                  exact EpK_sl.2 ⟨h1, fun r hr => (hDn r (h2 r hr)).1⟩
              · rw [List.any_eq_false]
                intro r hr hk
                exact (hDn r (h2 r hr)).2 (inL_mem.1 hk)
            · have h1 : lkp (Ep l 0 (fun j => (listed.setIfInBounds i true).getD j true) E).bx b = some ls := hb
              have h2 : lkp (((EpK l (fun j => listed.getD j true) E).addR rts).put o.dst sv).bx b = some ls := by
                rw [e4.2.1]
                rw [e2.2, ← e1.2] at h1
                exact h1
              exact h2
            · obtain ⟨h1, h2⟩ := EpK_rt.1 hr
              refine lkp_delD'.2 ⟨?_, inL_false.2 (hDn r h2).2⟩
              rw [hZ.2, e3.2.2] at h1
              rw [e4.2.2]
              simp only [Env.addR, lkp_app] at h1 ⊢
              split at h1
              · exact h1
              · exact EpK_rt.2 ⟨h1, (hDn r h2).1⟩)
        unfold wpOp
        rw [ho]
        simp only
        split
        · rename_i hw
          rw [if_pos hw] at hgo
          exact .inl hgo
        · rename_i hw
          rw [if_neg hw] at hgo
          exact hgo
  refine main ops.size _ tag hv a _ (by simp) ?_ (fun j o ho hj => ?_) ?_
  · unfold cnt
    exact Nat.le_trans (List.length_filter_le _ _) (by simp)
  · exfalso
    have hjl : j < ops.size := (Array.getElem?_eq_some_iff.1 ho).1
    simp [Array.getD, hjl] at hj
  · refine St.le (E := Ep l 0 (fun j => (Array.replicate ops.size false).getD j true) E) ?_ (Env.killD_le _ _)
    rw [show Ep l 0 (fun j => (Array.replicate ops.size false).getD j true) E = E from ?_]
    · exact hs.drew
    · rw [Ep_congr l 0 _ (fun _ => false) E (fun j _ hj => by
        have : j < ops.size := by omega
        simp [Array.getD, this])]
      have : ∀ (l : PL) (k : Nat) (E : Env), Ep l k (fun _ => false) E = E := by
        intro l
        induction l with
        | nil => intros; rfl
        | cons x r ih => intro k E; simp only [Ep]; rw [ih]; simp
      exact this l 0 E
theorem evD_region (hT : TGood P ti) (hm : P.follows .mixedOrders = true) {id : Nat} {bb : Bool} {ops : Array Oper} (hd : drawOk ops.toList = true) (h : evD P ti bb ops.toList ops.toList 0 K [] [] (E.fresh (famA ops.toList))) (hs : St w0 tag0 E tag hv a w)
    (hN : ∀ E' tag' hv' a' w', St w0 tag0 E' tag' hv' a' w' → K E' → Q .normal a' w') : (Code.region id ops true).wp P Q a w := wp_region_any hm (evD_any hT hd h hs hN)

/-! ### a region whose last operation stands behind all others -/
def tailOk (pre : List Oper) (st : Oper) : Bool :=
  st.guard.isNone && (List.range pre.length).all (fun j => st.after.toList.any fun e => Region.binds .any e && e.on == j) &&
  st.after.toList.all (fun e => !Region.binds .any e || decide (e.on < pre.length)) &&
  pre.all (fun o => match o.guard with | some (j, _) => decide (j < pre.length) | none => true)
def Qt (P : Program) (st : Oper) (Q : Exit → Act → World → Prop) : Exit → Act → World → Prop := fun e a w => match e with
  | .normal => st.wp P a w (Q .normal) Q
  | e => Q e a w
theorem wp_congrQ {o : Oper} {N : Act → World → Prop} {Q Q' : Exit → Act → World → Prop} (h : ∀ e a w, e ≠ .normal → Q e a w → Q' e a w) (hh : o.wp P a w N Q) : o.wp P a w N Q' := by
  have hl : LetsOut Q → LetsOut Q' := fun ⟨a, w, q⟩ => ⟨a, w, h _ _ _ (by simp) q⟩
  unfold Oper.wp at *
  generalize (execOp a.eval o).run P w = r at *
  cases r with
  | ok n w' =>
    cases n <;> simp only [Oper.upon] at hh ⊢ <;>
      first
        | exact hh
        | exact Calls.mono hh (fun e w'' he => by cases e <;> first | exact he | exact h _ _ _ (by simp) he | exact hl he)
  | halt x w' => cases x <;> simp only [Oper.upon] at hh ⊢ <;> first | exact hh | exact h _ _ _ (by simp) hh
theorem mem_ready {ops : Array Oper} {listed : Array Bool} {i : Nat} : i ∈ Region.ready .any ops listed ↔ i < ops.size ∧ listed.getD i true = false ∧ ∃ o, ops[i]? = some o ∧ ∀ e ∈ o.after.toList, Region.binds .any e = true → listed.getD e.on false = true := by
  simp only [Region.ready, List.mem_filter, List.mem_range, Bool.and_eq_true, Bool.not_eq_true']
  constructor
  · rintro ⟨h1, h2, h3⟩
    refine ⟨h1, h2, ops[i], Array.getElem?_eq_getElem h1, fun e he hb => ?_⟩
    rw [Array.getElem?_eq_getElem h1] at h3
    simp only [Option.map_some, Option.getD_some] at h3
    rw [← Array.all_toList, List.all_eq_true] at h3
    have := h3 e he
    rw [hb] at this
    simpa using this
  · rintro ⟨h1, h2, o, h3, h4⟩
    refine ⟨h1, h2, ?_⟩
    rw [h3]
    simp only [Option.map_some, Option.getD_some]
    rw [← Array.all_toList, List.all_eq_true]
    intro e he
    cases hb : Region.binds .any e with
    | false => simp
    | true => simp [h4 e he hb]
def edgB (ops : List Oper) : Bool := (List.range ops.length).all fun i => match ops[i]? with
  | some o => o.after.toList.all fun e => !Region.binds .any e || decide (e.on < i)
  | none => true
theorem edgB_at {ops : List Oper} (h : edgB ops = true) {i : Nat} {o : Oper} (ho : ops[i]? = some o) : ∀ e ∈ o.after.toList, Region.binds .any e = true → e.on < i := by
  have hi : i < ops.length := (List.getElem?_eq_some_iff.1 ho).1
  have h1 := List.all_eq_true.1 h i (List.mem_range.2 hi)
  simp only [ho, List.all_eq_true] at h1
  intro e he hb
  have := h1 e he
  rw [hb] at this
  simpa using this
theorem edgB_of {ops : List Oper} (h : drawOk ops = true) : edgB ops = true := by
  unfold edgB
  rw [List.all_eq_true]
  intro i hi
  cases ho : ops[i]? with
  | none => rfl
  | some o =>
    simp only [List.all_eq_true]
    intro e he
    cases hb : Region.binds .any e with
    | false => rfl
    | true => simpa using (drawOk_at h ho).1 e he hb
theorem ready_nil {pre : Array Oper} {listed : Array Bool} (hd : edgB pre.toList = true) (hsz : listed.size = pre.size) (h : Region.ready .any pre listed = []) : ∀ j, j < pre.size → listed.getD j true = true := by
  rcases cnt_ne (n := pre.size) (b := fun j => listed.getD j true) with hall | ⟨i, hi, hb, hlow⟩
  · exact hall
  · exfalso
    have ho : pre[i]? = some pre[i] := Array.getElem?_eq_getElem hi
    have : i ∈ Region.ready .any pre listed := mem_ready.2 ⟨hi, hb, _, ho, fun e he hbi => by
      have hlt := edgB_at hd (by rw [Array.getElem?_toList]; exact ho) e he hbi
      have h3 := hlow e.on hlt
      have h4 : e.on < listed.size := by omega
      simp only [Array.getD, h4, dif_pos] at h3 ⊢
      exact h3⟩
    rw [h] at this
    cases this
theorem wpAny_done {ops : Array Oper} : ∀ (f : Nat) (listed : Array Bool), Region.ready .any ops listed = [] → Q .normal a w → wpAny P .any ops Q f listed a w
  | 0, _, h, hq => ⟨h, hq⟩
  | f + 1, _, h, hq => ⟨fun _ => hq, fun i hi => by rw [h] at hi; cases hi⟩
theorem getD_push {listed : Array Bool} {n j : Nat} {d : Bool} (hsz : listed.size = n) (hj : j < n) : (listed.push false).getD j d = listed.getD j d := by
  have h1 : j < listed.size := by omega
  have h2 : j < (listed.push false).size := by simp; omega
  simp only [Array.getD, h1, h2, dif_pos]
  exact Array.getElem_push_lt h1
theorem set_push {listed : Array Bool} {i : Nat} (hi : i < listed.size) : (listed.push false).setIfInBounds i true = (listed.setIfInBounds i true).push false := by
  apply Array.ext_getElem?
  intro j
  grind
theorem wpAny_tail {pre : Array Oper} {st : Oper} (hd : edgB pre.toList = true) (ht : tailOk pre.toList st = true) : ∀ (fuel : Nat) (listed : Array Bool) (a : Act) (w : World), listed.size = pre.size →
    wpAny P .any pre (Qt P st Q) fuel listed a w → wpAny P .any (pre.push st) Q (fuel + 1) (listed.push false) a w := by
  simp only [tailOk, Bool.and_eq_true, Option.isNone_iff_eq_none, List.all_eq_true, List.mem_range, Array.length_toList, List.any_eq_true, beq_iff_eq] at ht
  obtain ⟨⟨⟨ht1, ht2⟩, ht3⟩, ht4⟩ := ht
  have hlast : (pre.push st)[pre.size]? = some st := by simp
  have hold : ∀ i, i < pre.size → (pre.push st)[i]? = pre[i]? := fun i hi => by
    rw [Array.getElem?_push, if_neg (by omega)]
  have hedge : ∀ e ∈ st.after.toList, Region.binds .any e = true → e.on < pre.size := fun e he hb => by
    have := ht3 e he
    rw [hb] at this
    simpa using this
  have finish : ∀ (f : Nat) (listed : Array Bool) (a : Act) (w : World), listed.size = pre.size → Region.ready .any pre listed = [] → st.wp P a w (Q .normal) Q → wpAny P .any (pre.push st) Q (f + 1) (listed.push false) a w := by
    intro f listed a w hsz hr hq
    have hall := ready_nil hd hsz hr
    have hD : ∀ j, j < pre.size → listed.getD j false = true := fun j hj => by
      have := hall j hj
      have h1 : j < listed.size := by omega
      simp only [Array.getD, h1, dif_pos] at this ⊢
      exact this
    have hmem : pre.size ∈ Region.ready .any (pre.push st) (listed.push false) := mem_ready.2 ⟨by simp, by rw [← hsz]; simp [Array.getD], st, hlast, fun e he hb => by
      rw [getD_push hsz (hedge e he hb)]
      exact hD _ (hedge e he hb)⟩
    refine ⟨fun h => absurd hmem (by rw [h]; simp), fun i hi => ?_⟩
    obtain ⟨h1, h2, _⟩ := mem_ready.1 hi
    have hin : i = pre.size := by
      simp only [Array.size_push] at h1
      rcases Nat.lt_or_ge i pre.size with h | h
      · rw [getD_push hsz h, hall i h] at h2
        cases h2
      · omega
    subst hin
    unfold wpOp
    rw [hlast]
    simp only [Region.wanted, ht1, if_true]
    refine .inl (Oper.wp_mono (fun a' w' hq' => wpAny_done f _ ?_ hq') hq)
    refine List.eq_nil_iff_forall_not_mem.2 fun j hj => ?_
    obtain ⟨q1, q2, _⟩ := mem_ready.1 hj
    simp only [Array.size_push] at q1
    by_cases e : j = pre.size
    · subst e
      simp [Array.getD, hsz] at q2
    · have hjl : j < pre.size := by omega
      have h3 : ((listed.push false).setIfInBounds pre.size true).getD j true = (listed.push false).getD j true := by
        simp only [Array.getD_eq_getD_getElem?, Array.getElem?_setIfInBounds]
        rw [if_neg (by omega)]
      rw [h3, getD_push hsz hjl, hall j hjl] at q2
      cases q2
  intro fuel
  induction fuel with
  | zero =>
    intro listed a w hsz h
    exact finish 0 listed a w hsz h.1 h.2
  | succ fuel ih =>
    intro listed a w hsz h
    by_cases hr : Region.ready .any pre listed = []
    · exact finish (fuel + 1) listed a w hsz hr (h.1 hr)
    · have hcase : ∀ i, i ∈ Region.ready .any (pre.push st) (listed.push false) ↔ i ∈ Region.ready .any pre listed := fun i => by
        constructor
        · intro hi
          obtain ⟨h1, h2, o, h3, h4⟩ := mem_ready.1 hi
          simp only [Array.size_push] at h1
          by_cases e : i = pre.size
          · exfalso
            subst e
            rw [hlast] at h3
            cases h3
            apply hr
            refine List.eq_nil_iff_forall_not_mem.2 fun j hj => ?_
            obtain ⟨q1, q2, _⟩ := mem_ready.1 hj
            obtain ⟨e, he, hb, hej⟩ := ht2 j q1
            have := h4 e he hb
            rw [hej, getD_push hsz q1] at this
            have hjs : j < listed.size := by omega
            simp only [Array.getD, hjs, dif_pos] at this q2
            rw [this] at q2
            cases q2
          · have hil : i < pre.size := by omega
            rw [hold i hil] at h3
            rw [getD_push hsz hil] at h2
            refine mem_ready.2 ⟨hil, h2, o, h3, fun e he hb => ?_⟩
            have hlt := edgB_at hd (by rw [Array.getElem?_toList]; exact h3) e he hb
            have := h4 e he hb
            rwa [getD_push hsz (by omega)] at this
        · intro hi
          obtain ⟨h1, h2, o, h3, h4⟩ := mem_ready.1 hi
          refine mem_ready.2 ⟨by simp; omega, by rw [getD_push hsz h1]; exact h2, o, by rw [hold i h1]; exact h3, fun e he hb => ?_⟩
          have hlt := edgB_at hd (by rw [Array.getElem?_toList]; exact h3) e he hb
          rw [getD_push hsz (by omega)]
          exact h4 e he hb
      refine ⟨fun hn => ?_, fun i hi => ?_⟩
      · exfalso
        apply hr
        refine List.eq_nil_iff_forall_not_mem.2 fun j hj => ?_
        have := (hcase j).2 hj
        rw [hn] at this
        cases this
      · have hi' := (hcase i).1 hi
        obtain ⟨h1, _, o, h3, _⟩ := mem_ready.1 hi'
        have h5 := h.2 i hi'
        unfold wpOp at h5 ⊢
        rw [hold i h1]
        rw [h3] at h5 ⊢
        simp only at h5 ⊢
        have hw : Region.wanted o (yielded (pre.push st) a.tmps) = Region.wanted o (yielded pre a.tmps) := by
          unfold Region.wanted
          cases hg : o.guard with
          | none => rfl
          | some x =>
            obtain ⟨j, b⟩ := x
            have hm : o ∈ pre.toList := by
              rw [← Array.getElem?_toList] at h3
              exact List.mem_of_getElem? h3
            have := ht4 o hm
            rw [hg] at this
            simp only [decide_eq_true_eq] at this
            simp only [yielded, hold j this]
        have hstep : ∀ a' w', wpAny P .any pre (Qt P st Q) fuel (listed.setIfInBounds i true) a' w' → wpAny P .any (pre.push st) Q (fuel + 1) ((listed.push false).setIfInBounds i true) a' w' := fun a' w' hq => by
          rw [set_push (by omega)]
          exact ih _ a' w' (by simpa using hsz) hq
        have hQ : ∀ e a w, e ≠ Exit.normal → Qt P st Q e a w → Q e a w := fun e a w he hq => by
          cases e <;> first | exact absurd rfl he | exact hq
        rw [hw]
        split at h5
        · rename_i hwt
          rw [if_pos hwt]
          rcases h5 with h5 | ⟨h5, a1, w1, h6⟩
          · exact .inl (wp_congrQ hQ (Oper.wp_mono hstep h5))
          · exact .inr ⟨h5, a1, w1, h6⟩
        · rename_i hwt
          rw [if_neg hwt]
          exact hstep _ _ h5
theorem evD_tail (hT : TGood P ti) (hm : P.follows .mixedOrders = true) {id : Nat} {bb : Bool} {pre : Array Oper} {st : Oper} (hd : drawOk pre.toList = true) (ht : tailOk pre.toList st = true)
    (h : evD P ti bb pre.toList pre.toList 0 (fun E => evU P ti st K E) [] [] (E.fresh (famA pre.toList))) (hs : St w0 tag0 E tag hv a w)
    (hN : ∀ E' tag' hv' a' w', St w0 tag0 E' tag' hv' a' w' → K E' → Q .normal a' w') : (Code.region id (pre.push st) true).wp P Q a w := by
  refine wp_region_any hm ?_
  have h1 := evD_any (Q := Qt P st Q) hT hd h hs (fun E' tag' hv' a' w' hs' hk => evU_ok hT hs' hk hN)
  have h2 := wpAny_tail (edgB_of hd) ht pre.size _ _ _ (by simp) h1
  have h3 : (Array.replicate pre.size false).push false = Array.replicate (pre.push st).size false := by
    rw [Array.size_push, Array.replicate_succ]
  rw [h3] at h2
  rw [Array.size_push] at h2 ⊢
  exact h2
/-- Two such operations. -/
theorem evD_tail2 (hT : TGood P ti) (hm : P.follows .mixedOrders = true) {id : Nat} {bb : Bool} {pre : Array Oper} {st as : Oper} (hd : drawOk pre.toList = true) (ht : tailOk pre.toList st = true) (hd2 : edgB (pre.push st).toList = true) (ht2 : tailOk (pre.push st).toList as = true)
    (h : evD P ti bb pre.toList pre.toList 0 (fun E => evU P ti st (fun E => evU P ti as K E) E) [] [] (E.fresh (famA pre.toList))) (hs : St w0 tag0 E tag hv a w)
    (hN : ∀ E' tag' hv' a' w', St w0 tag0 E' tag' hv' a' w' → K E' → Q .normal a' w') : (Code.region id ((pre.push st).push as) true).wp P Q a w := by
  refine wp_region_any hm ?_
  have h1 := evD_any (Q := Qt P st (Qt P as Q)) hT hd h hs (fun E' tag' hv' a' w' hs' hk => evU_ok hT hs' hk (fun E2 tag2 hv2 a2 w2 hs2 hk2 => evU_ok hT hs2 hk2 hN))
  have h2 := wpAny_tail (edgB_of hd) ht pre.size _ _ _ (by simp) h1
  have h3 := wpAny_tail hd2 ht2 _ _ _ _ (by simp) h2
  have h4 : ((Array.replicate pre.size false).push false).push false = Array.replicate ((pre.push st).push as).size false := by
    rw [Array.size_push, Array.size_push, Array.replicate_succ, Array.replicate_succ]
  rw [h4] at h3
  rw [Array.size_push, Array.size_push] at h3 ⊢
  exact h3
/-! ### a store that one operation alone, an extract, may come behind -/
def looseX (pre : List Oper) (st : Oper) : Nat := ((List.range pre.length).find? fun j => !(st.after.toList.any fun e => Region.binds .any e && e.on == j)).getD 0
def opdNot (t : Nat) : Operand → Bool
  | .tmp s => s != t
  | .const _ => true
  | _ => false
def looseOk (pre : List Oper) (st : Oper) : Bool :=
  st.guard.isNone && st.dst.isNone &&
  (match pre[looseX pre st]? with
  | some xo => xo.guard.isNone && (match xo.op, xo.dst, st.op with | .extract (.tmp _) _, some t, .store _ p q => opdNot t p && opdNot t q | _, _, _ => false)
  | none => false) &&
  (List.range pre.length).all (fun j => j == looseX pre st || st.after.toList.any fun e => Region.binds .any e && e.on == j) &&
  st.after.toList.all (fun e => !Region.binds .any e || decide (e.on < pre.length)) &&
  pre.all (fun o => match o.guard with | some (j, _) => decide (j < pre.length) | none => true)
/-- The exits but the normal one are barred. -/
def QN (Q : Exit → Act → World → Prop) : Exit → Act → World → Prop := fun e a w => e = .normal ∧ Q .normal a w
theorem extract_run {xo : Oper} {s i : Nat} {t : Nat} {N : Act → World → Prop} {R : Exit → Act → World → Prop} (_hR : ∀ e a w, e ≠ .normal → ¬ R e a w) (ho : xo.op = .extract (.tmp s) i) (hd : xo.dst = some t) (h : xo.wp P a w N R) :
    ∃ v, (∀ w', (execOp a.eval xo).run P w' = .ok (.value v) w') ∧ N (a.put (some t) v) w := by
  unfold Oper.wp at h
  cases hx : a.eval (.tmp s) with
  | tuple vs =>
    cases hv : vs[i]? with
    | some v =>
      have hr : ∀ w', (execOp a.eval xo).run P w' = .ok (.value v) w' := fun w' => by simp [execOp, ho, hx, Instr.extract, hv]
      rw [hr w] at h
      simp only [Oper.upon, hd] at h
      exact ⟨v, hr, h⟩
    | none =>
      simp [execOp, ho, hx, Instr.extract, hv, stuck, Oper.upon] at h
  | _ => simp [execOp, ho, hx, Instr.extract, stuck, Oper.upon] at h
theorem eval_putN {t : Nat} {v : Value} {p : Operand} (h : opdNot t p = true) : (a.put (some t) v).eval p = a.eval p := by
  cases p with
  | tmp s =>
    simp only [opdNot, bne_iff_ne, ne_eq] at h
    simp only [Act.put, Act.eval, Array.getD_eq_getD_getElem?, Array.getElem?_setIfInBounds]
    rw [if_neg (fun e => h e.symm)]
  | const c => rfl
  | _ => cases h
theorem store_swap {st : Oper} {t ty : Nat} {v : Value} {p q : Operand} {N : Act → World → Prop} {R : Exit → Act → World → Prop} (hR : ∀ e a w, e ≠ .normal → ¬ R e a w) (ho : st.op = .store ty p q) (hd : st.dst = none) (hp : opdNot t p = true) (hq : opdNot t q = true)
    (h : st.wp P (a.put (some t) v) w N R) : st.wp P a w (fun a' w' => a' = a ∧ N (a.put (some t) v) w') R := by
  unfold Oper.wp at h ⊢
  have he : execOp (a.put (some t) v).eval st = execOp a.eval st := by
    simp only [execOp, ho, eval_putN hp, eval_putN hq]
  rw [he] at h
  have hsk : ∀ n w', (execOp a.eval st).run P w = .ok n w' → n = .skip := fun n w' hn => by
    simp only [execOp, ho, Sem.run_bind] at hn
    cases hs : (Instr.storeAt ty (a.eval p) (a.eval q)).run P w with
    | ok u w'' => rw [hs] at hn; simp only [Result.andThen_ok, Sem.run_pure] at hn; cases hn; rfl
    | halt x w'' => rw [hs] at hn; cases hn
  cases hr : (execOp a.eval st).run P w with
  | ok n w' =>
    obtain rfl := hsk n w' hr
    rw [hr] at h
    simp only [Oper.upon, hd, Act.put] at h ⊢
    exact ⟨by first | rfl | trivial, h⟩
  | halt x w' =>
    rw [hr] at h
    cases x <;> simp only [Oper.upon] at h <;> first | exact h.elim | exact (hR _ _ _ (by simp) h).elim
theorem getD_setT {l : Array Bool} {j : Nat} {d : Bool} (h : j < l.size) : (l.setIfInBounds j true).getD j d = true := by
  simp [Array.getD, h]
theorem wpAny_loose {pre : Array Oper} {st : Oper} (hd : edgB pre.toList = true) (ht : looseOk pre.toList st = true) (hR : ∀ e a w, e ≠ .normal → ¬ Q e a w) : ∀ (fuel : Nat) (listed : Array Bool) (a : Act) (w : World), listed.size = pre.size →
    wpAny P .any pre (Qt P st Q) fuel listed a w → wpAny P .any (pre.push st) Q (fuel + 1) (listed.push false) a w := by
  simp only [looseOk, Bool.and_eq_true, Option.isNone_iff_eq_none, List.all_eq_true, List.mem_range, Array.length_toList, Bool.or_eq_true, List.any_eq_true, beq_iff_eq] at ht
  generalize looseX pre.toList st = x at ht
  obtain ⟨⟨⟨⟨⟨ht1, htd⟩, htx⟩, ht2⟩, ht3⟩, ht4⟩ := ht
  obtain ⟨xo, hxo, hxg, s, ix, t, ty, p, q, hxop, hxd, hst, hp, hq⟩ : ∃ xo, pre[x]? = some xo ∧ xo.guard = none ∧ ∃ s ix t ty p q, xo.op = .extract (.tmp s) ix ∧ xo.dst = some t ∧ st.op = .store ty p q ∧ opdNot t p = true ∧ opdNot t q = true := by
    split at htx
    · rename_i xo hxo
      rw [Bool.and_eq_true] at htx
      obtain ⟨h1, h2⟩ := htx
      split at h2
      · rename_i s ix t ty p q e1 e2 e3
        rw [Bool.and_eq_true] at h2
        exact ⟨xo, by rw [← Array.getElem?_toList]; exact hxo, by simpa using h1, s, ix, t, ty, p, q, e1, e2, e3, h2.1, h2.2⟩
      · cases h2
    · cases htx
  have hxl : x < pre.size := (Array.getElem?_eq_some_iff.1 hxo).1
  have hlast : (pre.push st)[pre.size]? = some st := by simp
  have hold : ∀ i, i < pre.size → (pre.push st)[i]? = pre[i]? := fun i hi => by
    rw [Array.getElem?_push, if_neg (by omega)]
  have hedge : ∀ e ∈ st.after.toList, Region.binds .any e = true → e.on < pre.size := fun e he hb => by
    have := ht3 e he
    rw [hb] at this
    simpa using this
  have finish : ∀ (f : Nat) (listed : Array Bool) (a : Act) (w : World), listed.size = pre.size → Region.ready .any pre listed = [] → st.wp P a w (Q .normal) Q → wpAny P .any (pre.push st) Q (f + 1) (listed.push false) a w := by
    intro f listed a w hsz hr hq
    have hall := ready_nil hd hsz hr
    have hD : ∀ j, j < pre.size → listed.getD j false = true := fun j hj => by
      have := hall j hj
      have h1 : j < listed.size := by omega
      simp only [Array.getD, h1, dif_pos] at this ⊢
      exact this
    have hmem : pre.size ∈ Region.ready .any (pre.push st) (listed.push false) := mem_ready.2 ⟨by simp, by rw [← hsz]; simp [Array.getD], st, hlast, fun e he hb => by
      rw [getD_push hsz (hedge e he hb)]
      exact hD _ (hedge e he hb)⟩
    refine ⟨fun h => absurd hmem (by rw [h]; simp), fun i hi => ?_⟩
    obtain ⟨h1, h2, _⟩ := mem_ready.1 hi
    have hin : i = pre.size := by
      simp only [Array.size_push] at h1
      rcases Nat.lt_or_ge i pre.size with h | h
      · rw [getD_push hsz h, hall i h] at h2
        cases h2
      · omega
    subst hin
    unfold wpOp
    rw [hlast]
    simp only [Region.wanted, ht1, if_true]
    refine .inl (Oper.wp_mono (fun a' w' hq' => wpAny_done f _ ?_ hq') hq)
    refine List.eq_nil_iff_forall_not_mem.2 fun j hj => ?_
    obtain ⟨q1, q2, _⟩ := mem_ready.1 hj
    simp only [Array.size_push] at q1
    by_cases e : j = pre.size
    · subst e
      simp [Array.getD, hsz] at q2
    · have hjl : j < pre.size := by omega
      have h3 : ((listed.push false).setIfInBounds pre.size true).getD j true = (listed.push false).getD j true := by
        simp only [Array.getD_eq_getD_getElem?, Array.getElem?_setIfInBounds]
        rw [if_neg (by omega)]
      rw [h3, getD_push hsz hjl, hall j hjl] at q2
      cases q2
  have hQt : ∀ e a w, e ≠ Exit.normal → ¬ Qt P st Q e a w := fun e a w he hq => by
    cases e <;> first | exact absurd rfl he | exact hR _ _ _ he hq
  intro fuel
  induction fuel with
  | zero =>
    intro listed a w hsz h
    exact finish 0 listed a w hsz h.1 h.2
  | succ fuel ih =>
    intro listed a w hsz h
    by_cases hr : Region.ready .any pre listed = []
    · exact finish (fuel + 1) listed a w hsz hr (h.1 hr)
    · have hcase : ∀ i, i ≠ pre.size → (i ∈ Region.ready .any (pre.push st) (listed.push false) ↔ i ∈ Region.ready .any pre listed) := fun i e => by
        constructor
        · intro hi
          obtain ⟨h1, h2, o, h3, h4⟩ := mem_ready.1 hi
          simp only [Array.size_push] at h1
          have hil : i < pre.size := by omega
          rw [hold i hil] at h3
          rw [getD_push hsz hil] at h2
          refine mem_ready.2 ⟨hil, h2, o, h3, fun e he hb => ?_⟩
          have hlt := edgB_at hd (by rw [Array.getElem?_toList]; exact h3) e he hb
          have := h4 e he hb
          rwa [getD_push hsz (by omega)] at this
        · intro hi
          obtain ⟨h1, h2, o, h3, h4⟩ := mem_ready.1 hi
          refine mem_ready.2 ⟨by simp; omega, by rw [getD_push hsz h1]; exact h2, o, by rw [hold i h1]; exact h3, fun e he hb => ?_⟩
          have hlt := edgB_at hd (by rw [Array.getElem?_toList]; exact h3) e he hb
          rw [getD_push hsz (by omega)]
          exact h4 e he hb
      refine ⟨fun hn => ?_, fun i hi => ?_⟩
      · exfalso
        apply hr
        refine List.eq_nil_iff_forall_not_mem.2 fun j hj => ?_
        have hjl := (mem_ready.1 hj).1
        have := (hcase j (by omega)).2 hj
        rw [hn] at this
        cases this
      · by_cases ei : i = pre.size
        · subst ei
          obtain ⟨_, _, o, h3, h4⟩ := mem_ready.1 hi
          rw [hlast] at h3
          cases h3
          have hoth : ∀ j, j < pre.size → j ≠ x → listed.getD j true = true := fun j hj hjx => by
            rcases ht2 j hj with e | ⟨e, he, hb, hej⟩
            · exact absurd e hjx
            · have := h4 e he hb
              rw [hej, getD_push hsz hj] at this
              have hjs : j < listed.size := by omega
              simp only [Array.getD, hjs, dif_pos] at this ⊢
              exact this
          have honly : ∀ j ∈ Region.ready .any pre listed, j = x := fun j hj => by
            obtain ⟨h1, h2, _⟩ := mem_ready.1 hj
            by_cases e : j = x
            · exact e
            · rw [hoth j h1 e] at h2
              cases h2
          have hx : x ∈ Region.ready .any pre listed := by
            cases hrl : Region.ready .any pre listed with
            | nil => exact absurd hrl hr
            | cons y ys =>
              have hy : y ∈ Region.ready .any pre listed := by rw [hrl]; exact List.mem_cons_self
              have := honly y hy
              subst this
              exact List.mem_cons_self
          have h5 := h.2 x hx
          unfold wpOp at h5
          rw [hxo] at h5
          simp only [Region.wanted, hxg, if_true] at h5
          rcases h5 with h5 | ⟨_, a1, w1, h6⟩
          case inr => exact absurd h6 (hQt _ _ _ (by simp))
          obtain ⟨v, hv, hk⟩ := extract_run hQt hxop hxd h5
          have hset : ∀ j, j < pre.size → (listed.setIfInBounds x true).getD j true = true := fun j hj => by
            by_cases e : j = x
            · subst e
              simp [Array.getD_eq_getD_getElem?, hsz, hj]
            · have := hoth j hj e
              simp only [Array.getD_eq_getD_getElem?, Array.getElem?_setIfInBounds] at this ⊢
              rw [if_neg (fun h => e h.symm)]
              exact this
          have hn : Region.ready .any pre (listed.setIfInBounds x true) = [] := List.eq_nil_iff_forall_not_mem.2 fun j hj => by
            obtain ⟨h1, h2, _⟩ := mem_ready.1 hj
            rw [hset j h1] at h2
            cases h2
          have hk2 : Qt P st Q .normal (a.put (some t) v) w := by
            cases fuel with
            | zero => exact hk.2
            | succ f => exact hk.1 hn
          have hsw := store_swap hR hst htd hp hq hk2
          unfold wpOp
          rw [hlast]
          simp only [Region.wanted, ht1, if_true]
          refine .inl (Oper.wp_mono (fun a' w' hq' => ?_) hsw)
          obtain ⟨rfl, hN⟩ := hq'
          have hnl : ∀ j, j ∈ Region.ready .any (pre.push st) ((listed.push false).setIfInBounds pre.size true) → j = x := fun j hj => by
            obtain ⟨q1, q2, _⟩ := mem_ready.1 hj
            simp only [Array.size_push] at q1
            by_cases e : j = pre.size
            · subst e
              simp [Array.getD, hsz] at q2
            · by_cases e2 : j = x
              · exact e2
              · have hjl : j < pre.size := by omega
                have h3 : ((listed.push false).setIfInBounds pre.size true).getD j true = (listed.push false).getD j true := by
                  simp only [Array.getD_eq_getD_getElem?, Array.getElem?_setIfInBounds]
                  rw [if_neg (by omega)]
                rw [h3, getD_push hsz hjl, hoth j hjl e2] at q2
                cases q2
          have hset2 : ∀ (d : Bool) j, j < pre.size → ((listed.push false).setIfInBounds pre.size true).getD j d = listed.getD j d := fun d j hj => by
            have h3 : ((listed.push false).setIfInBounds pre.size true).getD j d = (listed.push false).getD j d := by
              simp only [Array.getD_eq_getD_getElem?, Array.getElem?_setIfInBounds]
              rw [if_neg (by omega)]
            rw [h3, getD_push hsz hj]
          have hxr : x ∈ Region.ready .any (pre.push st) ((listed.push false).setIfInBounds pre.size true) := by
            obtain ⟨h1, h2, o, h3, h4⟩ := mem_ready.1 hx
            refine mem_ready.2 ⟨by simp; omega, by rw [hset2 _ x h1]; exact h2, o, by rw [hold x h1]; exact h3, fun e he hb => ?_⟩
            have hlt := edgB_at hd (by rw [Array.getElem?_toList]; exact h3) e he hb
            rw [hset2 _ _ (by omega)]
            exact h4 e he hb
          refine ⟨fun h => absurd hxr (by rw [h]; simp), fun i hi => ?_⟩
          obtain rfl := hnl i hi
          unfold wpOp
          rw [hold _ hxl, hxo]
          simp only [Region.wanted, hxg, if_true]
          refine .inl ?_
          unfold Oper.wp
          rw [hv w']
          simp only [Oper.upon, hxd]
          refine wpAny_done _ _ ?_ hN
          refine List.eq_nil_iff_forall_not_mem.2 fun j hj => ?_
          obtain ⟨q1, q2, _⟩ := mem_ready.1 hj
          simp only [Array.size_push] at q1
          by_cases e : j = i
          · subst e
            rw [getD_setT (by simp; omega)] at q2
            cases q2
          · have h3 : (((listed.push false).setIfInBounds pre.size true).setIfInBounds i true).getD j true = ((listed.push false).setIfInBounds pre.size true).getD j true := by
              simp only [Array.getD_eq_getD_getElem?]
              rw [Array.getElem?_setIfInBounds, if_neg (fun h => e h.symm)]
            rw [h3] at q2
            by_cases e2 : j = pre.size
            · subst e2
              simp [Array.getD, hsz] at q2
            · rw [hset2 _ j (by omega), hoth j (by omega) e] at q2
              cases q2
        · have hi' := (hcase i ei).1 hi
          obtain ⟨h1, _, o, h3, _⟩ := mem_ready.1 hi'
          have h5 := h.2 i hi'
          unfold wpOp at h5 ⊢
          rw [hold i h1]
          rw [h3] at h5 ⊢
          simp only at h5 ⊢
          have hw : Region.wanted o (yielded (pre.push st) a.tmps) = Region.wanted o (yielded pre a.tmps) := by
            unfold Region.wanted
            cases hg : o.guard with
            | none => rfl
            | some x =>
              obtain ⟨j, b⟩ := x
              have hm : o ∈ pre.toList := by
                rw [← Array.getElem?_toList] at h3
                exact List.mem_of_getElem? h3
              have := ht4 o hm
              rw [hg] at this
              simp only [decide_eq_true_eq] at this
              simp only [yielded, hold j this]
          have hstep : ∀ a' w', wpAny P .any pre (Qt P st Q) fuel (listed.setIfInBounds i true) a' w' → wpAny P .any (pre.push st) Q (fuel + 1) ((listed.push false).setIfInBounds i true) a' w' := fun a' w' hq => by
            rw [set_push (by omega)]
            exact ih _ a' w' (by simpa using hsz) hq
          have hQ : ∀ e a w, e ≠ Exit.normal → Qt P st Q e a w → Q e a w := fun e a w he hq => absurd hq (hQt _ _ _ he)
          rw [hw]
          split at h5
          · rename_i hwt
            rw [if_pos hwt]
            rcases h5 with h5 | ⟨h5, a1, w1, h6⟩
            · exact .inl (wp_congrQ hQ (Oper.wp_mono hstep h5))
            · exact .inr ⟨h5, a1, w1, h6⟩
          · rename_i hwt
            rw [if_neg hwt]
            exact hstep _ _ h5
theorem evD_tailL (hT : TGood P ti) (hm : P.follows .mixedOrders = true) {id : Nat} {bb : Bool} {pre : Array Oper} {st as : Oper} (hd : drawOk pre.toList = true) (ht : looseOk pre.toList st = true) (hd2 : edgB (pre.push st).toList = true) (ht2 : tailOk (pre.push st).toList as = true)
    (h : evD P ti bb pre.toList pre.toList 0 (fun E => evU P ti st (fun E => evU P ti as K E) E) [] [] (E.fresh (famA pre.toList))) (hs : St w0 tag0 E tag hv a w)
    (hN : ∀ E' tag' hv' a' w', St w0 tag0 E' tag' hv' a' w' → K E' → Q .normal a' w') : (Code.region id ((pre.push st).push as) true).wp P Q a w := by
  have key : (Code.region id ((pre.push st).push as) true).wp P (QN Q) a w := by
    refine wp_region_any hm ?_
    have h1 := evD_any (Q := Qt P st (Qt P as (QN Q))) hT hd h hs (fun E' tag' hv' a' w' hs' hk => evU_ok hT hs' hk (fun E2 tag2 hv2 a2 w2 hs2 hk2 => evU_ok hT hs2 hk2 (fun E3 tag3 hv3 a3 w3 hs3 hk3 => ⟨rfl, hN _ _ _ _ _ hs3 hk3⟩)))
    have h2 := wpAny_loose (edgB_of hd) ht (fun e a w he hq => by cases e <;> first | exact he rfl | exact absurd hq.1 (by simp)) pre.size _ _ _ (by simp) h1
    have h3 := wpAny_tail hd2 ht2 _ _ _ _ (by simp) h2
    have h4 : ((Array.replicate pre.size false).push false).push false = Array.replicate ((pre.push st).push as).size false := by
      rw [Array.size_push, Array.size_push, Array.replicate_succ, Array.replicate_succ]
    rw [h4] at h3
    rw [Array.size_push, Array.size_push] at h3 ⊢
    exact h3
  exact wp_mono key (fun e a w hq => by obtain ⟨rfl, hq⟩ := hq; exact hq)
end Go.Sm
