import Derived.Test.YtkciklpdhhcblaaGreatSm17
/-
  How the evaluation is set going: the equations that simp uses; loops by hand.
-/
namespace Go.Sm
open Go.RowKit
set_option linter.unusedVariables false
set_option linter.unusedSimpArgs false
section
variable {P : Program} {ti : TT} {vs : List Nat} {Q : Exit → Env → Prop} {E : Env}
/-! continuations, as names: simp does not look into them till they are applied -/
def kReg (vs : List Nat) (Q : Exit → Env → Prop) : Env → Prop := fun E => Q .normal (E.keep vs)
def kSeq (P : Program) (ti : TT) (vs : List Nat) (y : Code) (Q : Exit → Env → Prop) : Exit → Env → Prop := fun e E' => match e with | .normal => ew P ti vs y Q E' | e => Q e E'
def kBlk (id : Nat) (Q : Exit → Env → Prop) : Exit → Env → Prop := fun e E' => match e with | .exit i => if i = id then Q .normal E' else Q (.exit i) E' | e => Q e E'
/-- The loop's next round may begin. -/
def Next (I : Env → Prop) (μ : Env → Nat) (E1 E' : Env) : Prop := ∃ E2, Gh E' E2 ∧ I E2 ∧ μ E2 < μ E1
theorem Next.of {I : Env → Prop} {μ : Env → Nat} {E1 E' : Env} (E2 : Env) (hg : Gh E' E2) (hI : I E2) (hm : μ E2 < μ E1) : Next I μ E1 E' := ⟨E2, hg, hI, hm⟩
def kLoop (I : Env → Prop) (μ : Env → Nat) (E1 : Env) (Q : Exit → Env → Prop) : Exit → Env → Prop := fun e E' => match e with | .normal => Next I μ E1 E' | e => Q e E'
def kD (P : Program) (ti : TT) (b : Bool) (ops : List Oper) (o : Oper) (rest : List Oper) (k : Nat) (K : Env → Prop) (D : List Nat) (H : HL) (E : Env) (sv : SV) (rts : RT) (ks : List Nat) : Prop :=
  clrL ops k sv (callsOf ops 0) ∧ kilOk b ops k E.bx H ks ∧ evD P ti b ops rest (k + 1) K (ks ++ D) (hcons b k (E.kp (lks ops o)) H) (((E.addR rts).put o.dst sv).kill (ks ++ D))
theorem kReg_ap : kReg vs Q E = Q .normal (E.keep vs) := rfl
theorem kSeq_n {y : Code} : kSeq P ti vs y Q .normal E = ew P ti vs y Q E := rfl
theorem kSeq_r {y : Code} : kSeq P ti vs y Q .ret E = Q .ret E := rfl
theorem kSeq_x {y : Code} {i : Nat} : kSeq P ti vs y Q (.exit i) E = Q (.exit i) E := rfl
theorem kBlk_n {id : Nat} : kBlk id Q .normal E = Q .normal E := rfl
theorem kBlk_r {id : Nat} : kBlk id Q .ret E = Q .ret E := rfl
theorem kBlk_x {id i : Nat} : kBlk id Q (.exit i) E = if i = id then Q .normal E else Q (.exit i) E := rfl
theorem kLoop_n {I : Env → Prop} {μ : Env → Nat} {E1 : Env} : kLoop I μ E1 Q .normal E = Next I μ E1 E := rfl
theorem kLoop_r {I : Env → Prop} {μ : Env → Nat} {E1 : Env} : kLoop I μ E1 Q .ret E = Q .ret E := rfl
theorem kLoop_x {I : Env → Prop} {μ : Env → Nat} {E1 : Env} {i : Nat} : kLoop I μ E1 Q (.exit i) E = Q (.exit i) E := rfl
theorem kEnd_n {ti : TT} {res : List ResultVar} {rs : List (Bool × ML)} : kEnd ti res rs .normal E = (resOk ti E res rs ∧ ((nmsR ti E res rs).filterMap id).Nodup) := rfl
theorem kEnd_r {ti : TT} {res : List ResultVar} {rs : List (Bool × ML)} : kEnd ti res rs .ret E = (resOk ti E res rs ∧ ((nmsR ti E res rs).filterMap id).Nodup) := rfl
theorem kEndM_n {ti : TT} {res : List ResultVar} {ms : List (Md × Lf × Lf)} {n : Int} {pv : Nat → Value} : kEndM ti res ms n pv .normal E = ((resOk ti E res [(false, [(.s, .sc (.int .i64 n))])] ∧ ((nmsR ti E res [(false, [(.s, .sc (.int .i64 n))])]).filterMap id).Nodup) ∧ mEnd E pv 900 ms) := rfl
theorem kEndM_r {ti : TT} {res : List ResultVar} {ms : List (Md × Lf × Lf)} {n : Int} {pv : Nat → Value} : kEndM ti res ms n pv .ret E = ((resOk ti E res [(false, [(.s, .sc (.int .i64 n))])] ∧ ((nmsR ti E res [(false, [(.s, .sc (.int .i64 n))])]).filterMap id).Nodup) ∧ mEnd E pv 900 ms) := rfl
theorem kEndX_n {ti : TT} {res : List ResultVar} {rs : List (Bool × ML)} : kEndX ti res rs .normal E = EndX ti res rs E := rfl
theorem kEndX_r {ti : TT} {res : List ResultVar} {rs : List (Bool × ML)} : kEndX ti res rs .ret E = EndX ti res rs E := rfl
theorem ew_skip : ew P ti vs .skip Q E = Q .normal E := rfl
theorem ew_regf {id : Nat} {ops : Array Oper} : ew P ti vs (.region id ops false) Q E = ev P ti ops.toList ops.toList (kReg vs Q) E := rfl
theorem ew_regt {id : Nat} {ops : Array Oper} : ew P ti vs (.region id ops true) Q E = match lastSA ops.toList with
    | some (st, as) => evD P ti (kilB (initL (initL ops.toList))) (initL (initL ops.toList)) (initL (initL ops.toList)) 0 (kTail2 P ti st as (kReg vs Q)) [] [] (E.fresh (famA (initL (initL ops.toList))))
    | none => match lastSt ops.toList with
    | some st => evD P ti (kilB (initL ops.toList)) (initL ops.toList) (initL ops.toList) 0 (kTail P ti st (kReg vs Q)) [] [] (E.fresh (famA (initL ops.toList)))
    | none => evD P ti (kilB ops.toList) ops.toList ops.toList 0 (kReg vs Q) [] [] (E.fresh (famA ops.toList)) := rfl
def kAs (P : Program) (ti : TT) (as : Oper) (K : Env → Prop) : Env → Prop := fun E => evU P ti as K E
theorem kAs_ap {as : Oper} {K : Env → Prop} : kAs P ti as K E = evU P ti as K E := rfl
theorem kTail2_ap {st as : Oper} {K : Env → Prop} : kTail2 P ti st as K E = evU P ti st (kAs P ti as K) E := rfl
theorem kTail_ap {st : Oper} {K : Env → Prop} : kTail P ti st K E = evU P ti st K E := rfl
theorem ew_seq {x y : Code} : ew P ti vs (.seq x y) Q E = ew P ti vs x (kSeq P ti vs y Q) E := rfl
theorem ew_cond {c : Operand} {x y : Code} : ew P ti vs (.cond c x y) Q E = match opd ti E 0 c with
    | some (.v false [.s (.sc (.bool b))]) => (b = true → ew P ti vs x Q E) ∧ (b = false → ew P ti vs y Q E)
    | _ => False := rfl
theorem ew_block {id : Nat} {c : Code} : ew P ti vs (.block id c) Q E = ew P ti vs c (kBlk id Q) E := rfl
theorem ew_exit {i : Nat} : ew P ti vs (.exit i) Q E = Q (.exit i) E := rfl
theorem ew_ret : ew P ti vs .ret Q E = Q .ret E := rfl
theorem ev_nil {ops : List Oper} {K : Env → Prop} : ev P ti ops [] K E = K E := rfl
theorem ev_cons {ops rest : List Oper} {o : Oper} {K : Env → Prop} : ev P ti ops (o :: rest) K E = match o.guard with
    | none => evU P ti o (ev P ti ops rest K) E
    | some (j, b) => match guardB E ops j b with
      | some g => evG P ti g o (ev P ti ops rest K) E
      | none => False := rfl
theorem evD_nil {b : Bool} {ops : List Oper} {k : Nat} {K : Env → Prop} {D : List Nat} {H : HL} : evD P ti b ops [] k K D H E = K E := rfl
theorem evD_cons {b : Bool} {ops rest : List Oper} {o : Oper} {k : Nat} {K : Env → Prop} {D : List Nat} {H : HL} : evD P ti b ops (o :: rest) k K D H E = match o.guard with
    | none => dU P ti o (kD P ti b ops o rest k K D H E) (E.kp (lks ops o))
    | some (j, c) => match guardB (E.kp (lks ops o)) ops j c with
      | some g => dG P ti g o (kD P ti b ops o rest k K D H E) (E.kp (lks ops o))
      | none => False := rfl
theorem hcons_f {k : Nat} {H : HL} : hcons false k E H = H := rfl
theorem hcons_t {k : Nat} {H : HL} : hcons true k E H = (k, E.sl.flatMap fun x => x.2.nms) :: H := rfl
theorem kill_nil : E.kill [] = E := rfl
theorem kill_cons {k : Nat} {ks : List Nat} : E.kill (k :: ks) = { E with sl := klS (inL (k :: ks)) E.sl, rt := delD E.rt (inL (k :: ks)) } := rfl
theorem kilOk_nil {b : Bool} {ops : List Oper} {k : Nat} {bx : List (Nat × List LV)} {H : HL} : kilOk b ops k bx H [] = True := rfl
theorem kilOk_cons {b : Bool} {ops : List Oper} {k x : Nat} {ks : List Nat} {bx : List (Nat × List LV)} {H : HL} : kilOk b ops k bx H (x :: ks) = (b = true ∧ bxClr (x :: ks) bx = true ∧ hOk ops k (x :: ks) H) := rfl
theorem ew_loop {c : Code} (I : Env → Prop) (μ : Env → Nat) (E' : Env) (hg : Gh E E') (hI : I E')
    (h : ∀ E1, I E1 → ew P ti vs c (kLoop I μ E1 Q) E1) : ew P ti vs (.loop c) Q E := ⟨I, μ, ⟨E', hg, hI⟩, h⟩
end
/-- A whole number in a slot, for measures. -/
def Env.num (E : Env) (t : Nat) : Int := match lkp E.sl t with
  | some (.v false [.s (.sc (.int _ n))]) => n
  | _ => 0
attribute [simp] hcons_f hcons_t kill_nil kill_cons kilOk_nil kilOk_cons hOk bxClr inL klS kilB ksL frzS FullRs FullML Env.bsD bsDO appDS appDX kTail_ap kTail2_ap kAs_ap lastSA lastSt initL ew_skip ew_regf ew_regt ew_seq ew_cond ew_block ew_exit ew_ret kReg_ap kSeq_n kSeq_r kSeq_x kBlk_n kBlk_r kBlk_x kLoop_n kLoop_r kLoop_x kEnd_n kEnd_r kEndM_n kEndM_r kEndX_n kEndX_r env0X rtX kUse kUseD Env.useE rt1 pl3 kil3 kil1 uPre Env.usS SV.us SV.lnm clrX mEnd env0M rtM pinM kMut SV.pls LV.pls LV.mv SV.mv mPre hdsOk plOk hd0 wh stripP Env.mutE mutR put1 SV.mk LV.mk PV.mk udr evD_nil evD_cons kD kCall kCallG kCallD kCallDG
attribute [simp] appX appO Env.appB appZ appC appR Env.appS scAll allS bsO bparts setM Env.bs Env.yvsR Env.yvsM Env.yvM Env.yv Env.yvs hdM padM colsE colsOf mvsR mvs rootR chunks mkO Env.mkS msK msF Env.szAt Env.stPt setR spl Env.re dth LV.ct PV.ct SV.ct hdE
attribute [simp] callsOf Env.kp Env.addR LV.nms PV.nms SV.nms clrL closB closE Region.binds predB famA isCallO LV.hit SV.hit
attribute [simp] ev_nil ev_cons evU evG dU dG lks lks.opTmps2 env0 numL opd lkp putL delL delD Env.put pur purCall purFn capsO cSV cLVs cLV scal binSV intBin strBin boolBin eqSV eqC TI.isBool TI.isU8 Env.bytM shiftBin bnd bndL guardB gcond opTmps tm Env.un unS gsOk pick3 pickO Env.keep keepL
  resOk resOne LsOk LOk nmsR nmsL nmO callO argsO Env.shSs Env.shS Env.shLs Env.shL Env.shP Env.shPs Env.nm Env.nmP LV.nm Env.ret Env.fresh fam SV.fr LV.fr PV.hd resRs resR resS resPs resL Env.box Env.stBx splice zLV Env.at_ Env.vld vldL getL toLV Env.rows Env.vldLV dn
  int bool str list TI.agg TI.elt TI.isStr TI.int? TI.fld Env.num
theorem good_sc {P : Program} {t : Nat} {i : TI} {v : Value} (hv : scal v = true) (h1 : i.zv = v) (h2 : i.z = [.sc v]) (h3 : i.sz = 1) (h4 : 0 < i.by_) (ha : i.agg = false) (hn : ∀ n e, i.desc ≠ .array n e)
    (hinf : (P.info? t).map (fun x => (x.size, x.bytes, x.zero)) = some (i.sz, i.by_, some i.zv)) (hund : P.underlying t = some i.desc) (hf : ∀ k, i.fld k = none) : i.good P t := by
  have h1c : v.cells = #[v] := by cases v <;> simp_all [scal, Value.cells]
  refine ⟨hinf, hund, ?_, ?_, ?_, ?_, h4, ?_, ?_, ?_⟩
  · rw [h1, h1c, h2]; rfl
  · rw [h2, h3]; rfl
  · rw [h2]; intro l hl; simp at hl; subst hl; exact .inl ⟨v, rfl, hv⟩
  · rw [h3]; decide
  · rw [ha]; intro h; cases h
  · intro _; refine ⟨h3, ?_, hn⟩; rw [h1]; cases v <;> simp_all [scal, Value.oneCell']
  · intro k o u h; rw [hf] at h; cases h
theorem good_sl {P : Program} {t e : Nat} {i : TI} {zz : List Lf} (hd : i.desc = .slice e) (h1 : i.zv = .slice none 0 0) (h2 : i.z = [.ls zz []]) (h3 : i.sz = 1) (h4 : 0 < i.by_)
    (hinf : (P.info? t).map (fun x => (x.size, x.bytes, x.zero)) = some (i.sz, i.by_, some i.zv)) (hund : P.underlying t = some i.desc) : i.good P t := by
  refine ⟨hinf, hund, ?_, ?_, ?_, ?_, h4, ?_, ?_, ?_⟩
  · rw [h1, h2]; rfl
  · rw [h2, h3]; rfl
  · rw [h2]; intro l hl; simp at hl; subst hl; exact .inr ⟨zz, rfl⟩
  · rw [h3]; decide
  · intro h; simp [TI.agg, hd] at h
  · intro _; refine ⟨h3, by rw [h1]; rfl, by intro n e'; rw [hd]; intro h; cases h⟩
  · intro k o u h; simp [TI.fld, hd] at h
theorem good_st {P : Program} {t : Nat} {i : TI} {fs : Array Field} {cs : Array Value} (hd : i.desc = .struct fs) (h1 : i.zv = .agg cs) (hc : cs.toList = i.z.map zval) (h3 : i.z.length = i.sz) (hp : 0 < i.sz) (h4 : 0 < i.by_)
    (hz : ∀ l ∈ i.z, (∃ v, l = .sc v ∧ scal v = true) ∨ ∃ zz, l = .ls zz [])
    (hinf : (P.info? t).map (fun x => (x.size, x.bytes, x.zero)) = some (i.sz, i.by_, some i.zv)) (hund : P.underlying t = some i.desc)
    (hf : (fs.toList.all fun f => match (P.info? f.type).map (·.size) with | some n => n != 0 | none => false) = true) : i.good P t := by
  refine ⟨hinf, hund, ?_, h3, hz, hp, h4, fun _ => ⟨cs, h1⟩, ?_, ?_⟩
  · rw [h1]; exact hc
  · intro h; simp [TI.agg, hd] at h
  · intro k o u h
    simp only [TI.fld, hd] at h
    obtain ⟨f, h5, h6⟩ := Option.map_eq_some_iff.1 h
    simp only [Prod.mk.injEq] at h6
    obtain ⟨_, rfl⟩ := h6
    have h7 := List.all_eq_true.1 hf f (by rw [← Array.getElem?_toList] at h5; exact List.mem_of_getElem? h5)
    split at h7
    · rename_i n hn
      exact ⟨n, hn, by simpa using h7⟩
    · cases h7
end Go.Sm
