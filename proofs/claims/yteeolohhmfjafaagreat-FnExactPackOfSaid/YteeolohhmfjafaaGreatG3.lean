import Derived.Test.YteeolohhmfjafaaGreatG2
import Derived.Lib.AppendZerosOnto
import Derived.Laws.IdiomCopy
import Derived.Lib.JoinLaws
set_option maxHeartbeats 8000000
set_option maxRecDepth 8000
namespace Go.Sm
open Go.RowKit
variable {P : Program} {ti : TT} {E : Env} {tag tag' tag0 : Nat → Tag} {hv hv' : Hv} {a : Act} {w w' w0 : World} {t d : Nat}
def StepOk (P:Program) (ops:Array Oper) (o:Oper) (Er:Env) (sv:SV) (rts:RT) (ks:List Nat):Prop:=
 ∀ (w0:World) (tag0:Nat→Tag) (E:Env) (tag:Nat→Tag) (hv:Hv) (a:Act) (w:World) (N:Act→World→Prop) (Q:Exit→Act→World→Prop),
  St w0 tag0 E tag hv a w→Er.le E→(isCallO o=true→E.cl (fam (dn o)))→
  (∀tag' hv' v w',St w0 tag0 (((E.addR rts).put o.dst sv).killD (inL ks)) tag' hv' (a.put o.dst v) w'→N (a.put o.dst v) w')→
  if Region.wanted o (yielded ops a.tmps)=true then o.wp P a w N Q else N (a.put o.dst undef) w
def Beh (P:Program) (ops:Array Oper) (o:Oper) (Er:Env) (K:DK):Prop:=
 ∃sv rts ks,K sv rts ks∧StepOk P ops o Er sv rts ks∧(rts≠ []→isCallO o=true)∧ ∀x∈rts,fam (dn o) x.1=true
theorem callO_isCall {o:Oper} {c:Call} {X:Prop×Nat×List SV×List Nat} (ho:o.op= .call c) (h:callO ti E c=some X) (hd:o.dst.isSome=true):isCallO o=true:=by
 unfold callO at h
 split at h
 ·rename_i f hf
  unfold isCallO
  rw[ho]
  simp only[hf]
  exact hd
 ·cases h
theorem opd_le {E1 E2:Env} (hl:E1.le E2) {T:Nat} {x:Operand} {sv:SV} (h:opd ti E1 T x=some sv):opd ti E2 T x=some sv:=by
 cases x with
 |tmp t=>exact hl.sl t sv h
 |const v=>exact h
 |func k=>exact h
 |global g=>exact h
theorem LV.hit_ct {d:Nat→Bool} {l:LV} (h:l.hit d=false):l.ct d []=l:=by
 cases l with
 |r p=>cases p with
  |nil=>simp[LV.hit] at h
  |cons k p=>
   simp only[LV.hit] at h
   simp[LV.ct,dth,h]
 |_=>rfl
theorem LVs.hit_ct {d:Nat→Bool} {ls:List LV} (h:ls.any (LV.hit d)=false):ls.map (LV.ct d [])=ls:=by
 rw[List.any_eq_false] at h
 conv=>rhs;rw[←List.map_id ls]
 exact List.map_congr_left fun l hl=>LV.hit_ct (by simpa using h l hl)
theorem PV.hit_ct {d:Nat→Bool} {q:PV} (h:q.hd d=false):q.ct d []=false:=by
 cases q with
 |pt p sz i off=>cases p with
  |nil=>simp[PV.hd] at h
  |cons k p=>simp only[PV.hd] at h;simp[PV.ct,dth,h]
 |vw p sz lo n=>cases p with
  |nil=>simp[PV.hd] at h
  |cons k p=>simp only[PV.hd] at h;simp[PV.ct,dth,h]
 |bx b off=>simp only[PV.hd] at h;simp[PV.ct,dth,h]
 |ps ds=>rfl
theorem SV.hit_ct {d:Nat→Bool}: ∀ {s:SV},s.hit d=false→s.ct d []=s
 | .dead,_=>rfl
 | .v ag ls,h=>by simp only[SV.ct,LVs.hit_ct h]
 | .tu ps,h=>by
  simp only[SV.hit,List.any_eq_false] at h
  simp only[SV.ct]
  congr 1
  conv=>rhs;rw[←List.map_id ps]
  refine List.map_congr_left fun q hq=> ?_
  have:=LVs.hit_ct (by simpa using h q hq)
  simp only[this,id_eq]
 | .p q,h=>by simp only[SV.hit] at h;simp[SV.ct,PV.hit_ct h]
 | .fn k caps,h=>by
  simp only[SV.hit,List.any_eq_false] at h
  simp only[SV.ct]
  rw[if_neg]
  simp only[List.any_eq_true,not_exists,not_and]
  intro q hq
  simp[PV.hit_ct (by simpa using h q hq)]
 | .g c s,h=>by simp only[SV.ct,SV.hit_ct (s:=s) h]
 | .pin r q x,h=>by simp only[SV.hit] at h;simp[SV.ct,dth,h]
theorem SV.hit_of {D d0:Nat→Bool}: ∀ {s:SV},s.hit d0=false→s.nms.any D=false→s.hit D=false:=by
 have hL: ∀l:LV,l.hit d0=false→l.nms.any D=false→l.hit D=false:=by
  intro l h1 h2
  cases l with
  |r p=>cases p with
   |nil=>simp[LV.hit] at h1
   |cons k p=>simpa [LV.nms,LV.hit] using h2
  |_=>rfl
 have hLs: ∀ls:List LV,ls.any (LV.hit d0)=false→(ls.flatMap LV.nms).any D=false→ls.any (LV.hit D)=false:=by
  intro ls h1 h2
  rw[List.any_eq_false] at h1 h2⊢
  intro l hl
  have:=hL l (by simpa using h1 l hl) (by
   rw[List.any_eq_false]
   exact fun x hx=>h2 x (List.mem_flatMap.2 ⟨l,hl,hx⟩))
  simp[this]
 have hP: ∀q:PV,q.hd d0=false→q.nms.any D=false→q.hd D=false:=by
  intro q h1 h2
  cases q with
  |pt p sz i off=>cases p with
   |nil=>simp[PV.hd] at h1
   |cons k p=>simpa [PV.nms,PV.hd] using h2
  |vw p sz lo n=>cases p with
   |nil=>simp[PV.hd] at h1
   |cons k p=>simpa [PV.nms,PV.hd] using h2
  |bx b off=>simpa [PV.nms,PV.hd] using h2
  |ps ds=>rfl
 intro s
 induction s with
 |dead=>exact fun _ _=>rfl
 |v ag ls=>exact fun h1 h2=>hLs ls h1 h2
 |tu ps=>
  intro h1 h2
  simp only[SV.hit,SV.nms] at h1 h2⊢
  rw[List.any_eq_false] at h1 h2⊢
  intro q hq
  have:=hLs q.2 (by simpa using h1 q hq) (by
   rw[List.any_eq_false]
   exact fun x hx=>h2 x (List.mem_flatMap.2 ⟨q,hq,hx⟩))
  simp[this]
 |p q=>exact fun h1 h2=>hP q h1 h2
 |fn k caps=>
  intro h1 h2
  simp only[SV.hit,SV.nms] at h1 h2⊢
  rw[List.any_eq_false] at h1 h2⊢
  intro q hq
  have:=hP q (by simpa using h1 q hq) (by
   rw[List.any_eq_false]
   exact fun x hx=>h2 x (List.mem_flatMap.2 ⟨q,hq,hx⟩))
  simp[this]
 |g c s ih=>exact fun h1 h2=>ih h1 h2
 |pin r q x=>
  intro h1 h2
  simpa [SV.nms,SV.hit] using h2
theorem inL_false {l:List Nat} {x:Nat}:inL l x=false↔x∉l:=by
 rw[←inL_mem]
 cases inL l x<;>simp
theorem lkp_mem' {α:Type} {r:Nat} {y:α}: ∀ {l:List (Nat×α)},lkp l r=some y→(r,y)∈l
 | [],h=>by simp[lkp] at h
 |(k,z)::t,h=>by
  simp only[lkp] at h
  split at h
  ·rename_i e
   cases h
   simp[e]
  ·exact List.mem_cons_of_mem _ (lkp_mem' h)
theorem St.of_re {R:Nat→Bool} {d:Nat} {rts:RT} {ks:List Nat} {x:Option Nat} {sv:SV} (hR: ∀r,R r=(fam d r||inL ks r)) (hc:E.cl (fam d))
  (hs:St w0 tag0 ((E.re R [] [] rts).put x sv) tag hv a w):St w0 tag0 (((E.addR rts).put x sv).killD (inL ks)) tag hv a w:=by
 have hput: ∀ (X:Env) (t:Nat),lkp (X.put x sv).sl t=if x=some t then (if t<X.nt then some sv else none) else lkp X.sl t:=fun X t=>by
  cases x with
  |none=>simp[Env.put]
  |some d=>
   simp only[Env.put]
   split
   ·rename_i hd
    simp only[lkp_putL,Option.some.injEq]
    by_cases h:d=t
    ·subst h;simp[hd]
    ·simp[h]
   ·rename_i hd
    simp only[lkp_delL,Option.some.injEq]
    by_cases h:d=t
    ·subst h;simp[hd]
    ·simp[h]
 have hrest: ∀X:Env,(X.put x sv).nt=X.nt∧(X.put x sv).bx=X.bx∧(X.put x sv).rt=X.rt:=fun X=>by
  cases x with
  |none=>exact ⟨rfl,rfl,rfl⟩
  |some d=>simp only[Env.put];split<;>exact ⟨rfl,rfl,rfl⟩
 refine hs.le ⟨?_,fun t sv' h=> ?_,fun b ls h=> ?_,fun r y h=> ?_⟩
 ·exact ((hrest _).1.trans rfl).trans (hrest (E.re R [] [] rts)).1.symm
 ·have h0:=lkp_klS.1 h
  have h1:=h0.1
  rw[hput] at h1⊢
  split at h1
  ·rename_i hx
   rw[if_pos hx]
   exact h1
  ·rename_i hx
   rw[if_neg hx]
   have h2:lkp E.sl t=some sv':=h1
   have h3:sv'.hit R=false:=by
    refine SV.hit_of (hc.sl t sv' h2) ?_
    rw[List.any_eq_false]
    intro r hr
    have h4:=List.any_eq_false.1 h0.2 r hr
    rw[hR]
    have h5:fam d r=false:=by
     have:=hc.sl t sv' h2
     cases hq:fam d r with
     |false=>rfl
     |true=>rw[SV.nms_hit hr hq] at this;cases this
    simp[h5,h4]
   simp only[Env.re,lkp_map,h2,Option.map_some,SV.hit_ct h3]
 ·rw[(hrest _).2.1]
  have h0:=lkp_bxS.1 h
  have h1:lkp E.bx b=some ls:=by
   have:=h0.1
   rwa [(hrest _).2.1] at this
  have h2:=h0.2
  have h3:=hc.bx b ls h1
  have h4:ls.any (LV.hit R)=false:=by
   have:=SV.hit_of (s:= .v false ls) (d0:=fam d) (D:=R) h3.2 (by
    simp only[SV.nms]
    rw[List.any_eq_false]
    intro r hr
    have h4:=List.any_eq_false.1 h2.2 r hr
    rw[hR]
    have h5:fam d r=false:=by
     cases hq:fam d r with
     |false=>rfl
     |true=>
      have:=SV.nms_hit (s:= .v false ls) hr hq
      rw[show SV.hit (fam d) (.v false ls)=ls.any (LV.hit (fam d)) from rfl,h3.2] at this
      cases this
    simp[h5,h4])
   exact this
  have h5:dth R [] [b,0]=false:=by simp[dth,hR,h3.1,h2.1]
  simp only[Env.re,lkp_map,lkp_delD,h5,Bool.false_eq_true,if_false,h1,Option.map_some,LVs.hit_ct h4]
 ·have h0:=lkp_delD'.1 h
  rw[(hrest _).2.2] at h0⊢
  simp only[Env.re,Env.addR,lkp_app] at h0⊢
  split at h0
  ·rename_i z hz
   exact h0.1
  ·have h1:=hc.rt r y h0.1
   simp only[lkp_delD,hR,h1,h0.2,List.any_nil,Bool.or_false,Bool.false_eq_true,if_false]
   exact h0.1
theorem at_le {E1 E2:Env} (hl:E1.le E2) {q:List Nat} {X:Md×Lf} (h:E1.at_ q=some X):E2.at_ q=some X:=by
 cases q with
 |nil=>exact h
 |cons r q=>
  simp only[Env.at_,Option.bind_eq_some_iff] at h⊢
  obtain ⟨y,h1,h2⟩:=h
  exact ⟨y,hl.rt r y h1,h2⟩
theorem vld_le {E1 E2:Env} (hl:E1.le E2) {q:List Nat} (hv:E1.vld q):E2.vld q:=by
 cases q with
 |nil=>exact hv
 |cons r q=>
  simp only[Env.vld] at hv⊢
  split at hv
  ·rename_i x hx
   rw[hl.rt r x hx]
   exact hv
  ·exact hv.elim
theorem appB_le {E1 E2:Env} (hl:E1.le E2) {e:Nat} {b:LV} {X} (h:E1.appB e b=some X):E2.appB e b=some X:=by
 unfold Env.appB at h⊢
 split at h
 ·exact h
 ·split at h
  ·rename_i hk
   rw[hl.rt _ _ hk]
   exact h
  ·cases h
 ·cases h
theorem appZ_le {E1 E2:Env} (hl:E1.le E2) {e:Nat} {b:LV} {X} (h:appZ ti E1 e b=some X):appZ ti E2 e b=some X:=by
 unfold appZ at h⊢
 split at h
 ·exact h
 ·split at h
  ·rename_i hk
   rw[hl.rt _ _ hk]
   exact h
  ·cases h
 ·cases h
theorem appS_le {E1 E2:Env} (hl:E1.le E2) {z:List Lf} {t2:Nat} {sv:SV} {C:Prop} {rows:List (List Lf)} {cols:Nat→List Md} {kill:Option Nat} (h:E1.appS ti z t2 sv=some (C,rows,cols,kill)):
  ∃C',E2.appS ti z t2 sv=some (C',rows,cols,kill)∧(C→C'):=by
 unfold Env.appS at h⊢
 split at h
 ·cases h;exact ⟨_,rfl,id⟩
 ·cases h;exact ⟨_,rfl,id⟩
 ·cases h;exact ⟨_,rfl,id⟩
 ·split at h
  ·rename_i hk
   simp only[at_le hl hk]
   split at h
   ·rename_i hz
    cases h
    rw[if_pos hz]
    exact ⟨_,rfl,fun q=>⟨q.1,q.2.1,vld_le hl q.2.2.1,q.2.2.2⟩⟩
   ·rename_i hz
    rw[if_neg hz]
    split at h
    ·cases h
     exact ⟨_,rfl,fun q=>⟨q.1,q.2.1,vld_le hl q.2.2⟩⟩
    ·cases h
  ·cases h
 ·cases h
theorem appR_ks {d:Nat} {k kill:Option Nat} (r:Nat):appR d k kill r=(fam d r||inL (ksL k kill) r):=by
 cases k<;>cases kill<;>simp[appR,ksL,inL]
 all_goals grind
theorem appDS_ok {Er:Env} {o:Oper} {c:Call} {s x:Operand} {t1 t2:Nat} {C:Prop} {m:Md} {l:Lf} {ks:List Nat} (hT:TGood P ti) (hs:St w0 tag0 E tag hv a w) (hle:Er.le E) (hc0:E.cl (fam d)) (ho:o.op= .call c) (hc:c= {callee:= .builtin .append,args:= #[s,x],argTypes:= #[t1,t2]})
  (h:appDS ti Er d t1 t2 s x=some (C,ks,m,l)) (hC:C): ∃v w' tg hh,(execOp a.eval o).run P w= .ok (.value v) w'∧St w0 tag0 (((E.addR [(d,m,l)]).put o.dst (.v false [.r [d]])).killD (inL ks)) tg hh (a.put o.dst v) w':=by
 unfold appDS at h
 split at h
 ·rename_i b sv e hb hx he
  split at h
  ·rename_i C1 rows cols k z hB hZ
   split at h
   ·rename_i C2 rows' cols' kill hr
    cases h
    obtain ⟨C2',hS,hC2⟩:=appS_le hle hr
    obtain ⟨h1,h2,h3,h4,h5,h6,h7,h8,h9⟩:=hC
    have hO:appO ti E d t1 t2 s x=some ((ti t1).ok=true∧(ti t2).ok=true∧(ti e).ok=true∧(ti e).sz=z.length∧d<1000∧C1∧C2'∧(rows.length+rows'.length)* (ti e).by_≤140737488355328∧(∀r,kill=some r→k≠some r),
      E.re (appR d k kill) [] [] [(d,.o e (appC rows.length k cols cols'),.ls z (rows++rows'))]):=by
     simp only[appO,opd_le hle hb,opd_le hle hx,he,appB_le hle hB,appZ_le hle hZ,hS]
    obtain ⟨v,w',tg,hh,q1,q2,q3⟩:=appO_ok hT hs ho hc hO ⟨h1,h2,h3,h4,h5,h6,hC2 h7,h8,h9⟩
    exact ⟨v,w',tg,hh,q1,St.of_re appR_ks hc0 (q2.put q3)⟩
   ·cases h
  ·cases h
 ·cases h
theorem yv_le {E1 E2:Env} (hl:E1.le E2) {x:LV} {y:Md×Lf} (h:E1.yv x=some y):E2.yv x=some y:=by
 unfold Env.yv at h⊢
 split at h<;>first|exact h|exact hl.rt _ _ h|(cases h)
theorem yvM_le {E1 E2:Env} (hl:E1.le E2) {x:LV} {m:Md} {y:Md×Lf} (h:E1.yvM x m=some y):E2.yvM x m=some y:=by
 unfold Env.yvM at h⊢
 split at h
 ·exact h
 ·exact yv_le hl h
theorem yvsM_le {E1 E2:Env} (hl:E1.le E2): ∀ {ls:List LV} {ms:List Md} {ys:List (Md×Lf)},E1.yvsM ls ms=some ys→E2.yvsM ls ms=some ys
 | [],_,ys,h=>h
 |x::r,ms,ys,h=>by
  simp only[Env.yvsM] at h⊢
  split at h
  ·rename_i y ys' h1 h2
   rw[yvM_le hl h1,yvsM_le hl h2]
   exact h
  ·cases h
theorem yvsR_le {E1 E2:Env} (hl:E1.le E2) {ms:List Md}: ∀ {rs:List (List LV)} {ys:List (List (Md×Lf))},E1.yvsR ms rs=some ys→E2.yvsR ms rs=some ys
 | [],ys,h=>h
 |x::r,ys,h=>by
  simp only[Env.yvsR] at h⊢
  split at h
  ·rename_i y ys' h1 h2
   rw[yvsM_le hl h1,yvsR_le hl h2]
   exact h
  ·cases h
theorem bparts_le {E1 E2:Env} (hl:E1.le E2) {place:Nat→Option (Nat×Nat)}: ∀ {parts:List (Nat×Operand)} {ls:List LV} {C:Prop} {F:List LV},bparts ti E1 place parts ls=some (C,F)→bparts ti E2 place parts ls=some (C,F)
 | [],ls,C,F,h=>h
 |(i,x)::r,ls,C,F,h=>by
  simp only[bparts] at h⊢
  split at h
  ·rename_i off u hp
   split at h
   ·rename_i ag new hx
    rw[opd_le hl hx]
    simp only
    split at h
    ·rename_i C1 l1 h1
     rw[bparts_le hl h1]
     exact h
    ·cases h
   ·cases h
  ·cases h
theorem bsDO_ok {Er:Env} {o:Oper} {t n:Nat} {parts:Array (Nat×Operand)} {C:Prop} {m:Md} {l:Lf} {ks:List Nat} (hT:TGood P ti) (hs:St w0 tag0 E tag hv a w) (hle:Er.le E) (hc0:E.cl (fam d)) (ho:o.op= .buildSlice t n parts)
  (h:bsDO ti Er d t n parts.toList=some (C,ks,m,l)) (hC:C): ∃v w' tg hh,(execOp a.eval o).run P w= .ok (.value v) w'∧St w0 tag0 (((E.addR [(d,m,l)]).put o.dst (.v false [.r [d]])).killD (inL ks)) tg hh (a.put o.dst v) w':=by
 unfold bsDO at h
 split at h
 ·rename_i e he
  split at h
  ·rename_i C1 F hF
   split at h
   ·rename_i D r hr
    cases h
    unfold Env.bsD at hr
    split at hr
    ·rename_i ys hys
     cases hr
     have hO:=bsO_ok (d:=d) (C:=(ti t).ok=true∧(ti e).ok=true∧n* (ti e).sz≤16777216∧d<1000∧C1∧((mvsR d 0 (chunks (ti e).z.length n F)).map (·.1)).Nodup∧F.length=n* (ti e).z.length) hT hs ho (by
      simp only[bsO,he,bparts_le hle hF,Env.bs,yvsR_le hle hys]
      rfl) hC
     obtain ⟨v,w',tg,hh,q1,q2,q3⟩:=hO
     refine ⟨v,w',tg,hh,q1,St.of_re (fun r=> ?_) hc0 (q2.put q3)⟩
     have:inL ((mvsR d 0 (chunks (ti e).z.length n F)).map (·.1)) r=((mvsR d 0 (chunks (ti e).z.length n F)).map (·.1)).contains r:=by
      rw[Bool.eq_iff_iff,inL_mem,List.contains_iff_mem]
     rw[this]
     rfl
    ·cases hr
   ·cases h
  ·cases h
 ·cases h
theorem St.kil0 (hs:St w0 tag0 E tag hv a w) (D:Nat→Bool):St w0 tag0 (E.killD D) tag hv a w:=hs.le (E.killD_le D)
theorem fam_one {o:Oper} {m:Md} {l:Lf} (h:dn o<1000): ∀x∈([(dn o,m,l)]:RT),fam (dn o) x.1=true:=fun y hy=>by
 simp only[List.mem_singleton] at hy
 subst hy
 simp only[fam,beq_iff_eq]
 omega
theorem uPre_le {E1 E2:Env} (hl:E1.le E2): ∀ {T:List (List Nat)} {ms:List (Md×Lf)},uPre E1 T ms→uPre E2 T ms
 | [],[],_=>trivial
 | [],_::_,h=>by simp[uPre] at h
 |_::_,[],h=>by simp[uPre] at h
 |p::T,(m,l)::ms,h=>⟨at_le hl h.1,vld_le hl h.2.1,h.2.2.1,uPre_le hl h.2.2.2⟩
theorem rt1_inL: ∀ {T:List (List Nat)},(∀p∈T,p.length=1)→ ∀ {r:Nat} {d:Nat},(fam d r||rt1 T r)=(fam d r||inL (T.map hd0) r)
 | [],_,r,d=>by simp[rt1,inL]
 |p::T,h,r,d=>by
  have ih:=rt1_inL (T:=T) (fun p hp=>h p (by simp[hp])) (r:=r) (d:=d)
  have h1:=h p (by simp)
  match p,h1 with
  | [k],_=>
   have e:rt1 ([k]::T) r=(k==r||rt1 T r):=rfl
   have e2:inL (([k]::T).map hd0) r=(if k=r then true else inL (T.map hd0) r):=rfl
   rw[e,e2]
   by_cases hk:k=r
   ·simp[hk]
   ·have:(k==r)=false:=by simpa using hk
    rw[this,if_neg hk,Bool.false_or]
    exact ih
theorem useE_one {E:Env} {d:Nat} {rs:List (Bool×ML)} {T:List (List Nat)} (h: ∀p∈T,p.length=1):E.useE d T rs=E.re (fun r=>fam d r||rt1 T r) [] [] (resRs d 0 rs):=by
 have hp3:pl3 T= []:=by
  unfold pl3
  rw[List.filter_eq_nil_iff]
  intro p hp
  simp[h p hp]
 have hk3: ∀T:List (List Nat),(∀p∈T,p.length=1)→kil3 E T= []:=by
  intro T
  induction T with
  |nil=>intro _;rfl
  |cons p T ih=>
   intro h
   have h1:=h p (by simp)
   match p,h1 with
   | [k],_=>exact ih fun p hp=>h p (by simp[hp])
 simp only[Env.useE,hp3,hk3 T h,List.append_nil]
theorem dU_ok (hT:TGood P ti) {ops:Array Oper} {o:Oper} {K:DK} {Er:Env} (hg:o.guard=none) (h:dU P ti o K Er):Beh P ops o Er K:=by
 have hw: ∀y,Region.wanted o y=true:=by intro y;simp[Region.wanted,hg]
 have hpur:(match pur ti Er o with|some (C,sv)=>C∧K sv [] []|none=>False)→Beh P ops o Er K:=by
  intro h
  split at h
  ·rename_i C sv hp
   refine ⟨sv,[],[],h.2,fun w0 tag0 E tag hv a w N Q hs he _ hN=> ?_,fun h=>absurd rfl h,by simp⟩
   rw[if_pos (hw _)]
   obtain ⟨v,h1,h2⟩:=pur_ok hT (hs.le he) hp h.1
   exact upon_value h1 (hN _ _ _ _ ((hs.put h2).kil0 _))
  ·exact h.elim
 unfold dU at h
 split at h
 ·rename_i c x y ho
  split at h
  ·rename_i C r hp
   refine ⟨bool r,[],[],h.2,fun w0 tag0 E tag hv a w N Q hs he _ hN=> ?_,fun h=>absurd rfl h,by simp⟩
   rw[if_pos (hw _)]
   exact upon_value (pick3_ok (hs.le he) ho hp h.1) (hN _ _ _ _ ((hs.put mk_bool).kil0 _))
  ·exact h.elim
 ·rename_i t ho
  obtain ⟨h1,h2,h3,h4,h5⟩:=h
  have hic:isCallO o=true:=by
   unfold isCallO
   rw[ho]
   exact h3
  refine ⟨_,_,_,h5,fun w0 tag0 E tag hv a w N Q hs he hcl hN=> ?_,fun _=>hic,fam_one h4⟩
  rw[if_pos (hw _)]
  obtain ⟨w',v,tg,hh,q1,q2,q3⟩:=run_al hT hs h4 h1 h2 ho
  exact upon_value q1 (hN _ _ _ _ (St.of_re (R:=fam (dn o)) (ks:= []) (fun r=>by simp[inL]) (hcl hic) (q2.put q3)))
 ·rename_i t n parts ho
  split at h
  ·rename_i C ks m l hb
   have hic:isCallO o=true:=by
    unfold isCallO
    rw[ho]
    exact h.2.1
   refine ⟨_,_,_,h.2.2.2,fun w0 tag0 E tag hv a w N Q hs he hcl hN=> ?_,fun _=>hic,fam_one h.2.2.1⟩
   rw[if_pos (hw _)]
   obtain ⟨v,w',tg,hh,q1,q2⟩:=bsDO_ok hT hs he (hcl hic) ho hb h.1
   exact upon_value q1 (hN _ _ _ _ q2)
  ·exact h.elim
 ·rename_i c ho
  split at h
  ·rename_i C k as R hc
   obtain ⟨hC,⟨rs,hvc,hR,hd,hds,hK⟩|⟨as',ms,rs,hvx,hk⟩⟩:=h
   case inr=>
    unfold kUseD at hk
    split at hk
    ·rename_i f hcf
     split at hk
     ·rename_i k' ss h1 h2
      split at hk
      ·rename_i D ss' hus
       obtain ⟨hD,rfl,hTT,hdj,hd1,hpre,hR,hd,hds,hK⟩:=hk
       have hic:=callO_isCall ho hc hds
       refine ⟨_,_,_,hK,fun w0 tag0 E tag hv a w N Q hs he hcl hN=> ?_,fun _=>hic,resRs_fam hd 0 rs⟩
       rw[if_pos (hw _)]
       obtain ⟨vs,q1,q2⟩:=use_run (hs.le he) ho hcf hc hvx h1 h2 hus hD hTT hdj hpre
       unfold Oper.wp
       rw[q1,Oper.upon_enter]
       refine q2.mono ?_
       rintro e w' ⟨tag',hv',rv,rfl,hfr,hi',hrv⟩
       have hp3:pl3 (ss.flatMap SV.pls)= []:=by
        unfold pl3
        rw[List.filter_eq_nil_iff]
        intro p hp
        simp[hd1 p hp]
       obtain ⟨tg,hh,h3,h4⟩:=hs.use hTT hd (by rw[hp3];simp) (uPre_le he hpre) hfr hi' hR hrv
       refine hN _ _ _ _ (St.of_re (fun r=> ?_) (hcl hic) ((useE_one (E:=E) hd1▸h3).put h4))
       rw[rt1_inL hd1]
      ·exact hk.elim
     ·exact hk.elim
    ·exact hk.elim
   have hic:=callO_isCall ho hc hds
   refine ⟨_,_,_,hK,fun w0 tag0 E tag hv a w N Q hs he hcl hN=> ?_,fun _=>hic,resRs_fam hd 0 rs⟩
   rw[if_pos (hw _)]
   obtain ⟨vs,h1,h2⟩:=callO_ok (hs.le he) ho hc hC hvc.1
   unfold Oper.wp
   rw[h1,Oper.upon_enter]
   refine (hvc.2 w (lend R tag) hv vs (lend_cases R) (fun b hb=>by simp[lend,hs.hi b hb]) h2).mono ?_
   rintro e w' ⟨tag',hv',rv,rfl,hfr,hi',hrv⟩
   obtain ⟨tg,hh,h3,h4⟩:=hs.ret hd hfr hi' hR hrv
   exact hN _ _ _ _ (((h3.of_ret (hcl hic)).put h4).kil0 _)
  ·split at h
   ·rename_i C sv hp
    exact hpur (by rw[hp];exact h)
   ·split at h
    ·rename_i C ks m l ha
     unfold appDX at ha
     split at ha
     ·rename_i s1 x1 t1 t2 h1 h2 h3
      have hcc:c= {callee:= .builtin .append,args:= #[s1,x1],argTypes:= #[t1,t2]}:=by
       obtain ⟨c1,c2,c3⟩:=c
       simp only at h1 h2 h3
       rw[h1,show c2=_ from (Array.toList_inj.1 (h2.trans rfl)),show c3=_ from (Array.toList_inj.1 (h3.trans rfl))]
      have hic:isCallO o=true:=by
       unfold isCallO
       rw[ho,hcc]
       exact h.2.1
      refine ⟨_,_,_,h.2.2.2,fun w0 tag0 E tag hv a w N Q hs he hcl hN=> ?_,fun _=>hic,fam_one h.2.2.1⟩
      rw[if_pos (hw _)]
      obtain ⟨v,w',tg,hh,q1,q2⟩:=appDS_ok hT hs he (hcl hic) ho hcc ha h.1
      exact upon_value q1 (hN _ _ _ _ q2)
     ·cases ha
    ·exact h.elim
 ·split at h
  ·rename_i C sv hp
   exact hpur (by rw[hp];exact h)
  ·split at h
   ·rename_i C sv hp
    refine ⟨sv,[],[],h.2,fun w0 tag0 E tag hv a w N Q hs he _ hN=> ?_,fun h=>absurd rfl h,by simp⟩
    rw[if_pos (hw _)]
    obtain ⟨v,w',tg,h1,h2,h3⟩:=cvB_okR hT hs (fun _ _ _ h=>opd_ok (hs.le he) h) hp h.1
    exact upon_value h1 (hN _ _ _ _ ((h2.put h3).kil0 _))
   ·exact h.elim
theorem dG_ok (hT:TGood P ti) {ops:Array Oper} {o:Oper} {K:DK} {Er:Env} {j:Nat} {b g:Bool} (hg:o.guard=some (j,b)) (hgb:guardB Er ops.toList j b=some g) (h:dG P ti g o K Er):Beh P ops o Er K:=by
 have hw: ∀ {w0 tag0 E tag hv a w},St w0 tag0 E tag hv a w→Er.le E→Region.wanted o (yielded ops a.tmps)=g:=by
  intro w0 tag0 E tag hv a w hs he
  have:=guardB_ok (hs.le he) hgb
  simp only[Region.wanted,hg]
  exact this
 have hpur:(match pur ti (Er.un (opTmps o.op)) o with|some (C,sv)=>(g=true→gsOk Er (opTmps o.op)∧C)∧K (.g g sv) [] []|none=>False)→Beh P ops o Er K:=by
  intro h
  split at h
  ·rename_i C sv hp
   refine ⟨_,[],[],h.2,fun w0 tag0 E tag hv a w N Q hs he _ hN=> ?_,fun h=>absurd rfl h,by simp⟩
   rw[hw hs he]
   split
   ·rename_i hgt
    obtain ⟨h1,h2⟩:=h.1 hgt
    have hs1:St w0 tag0 Er tag hv a w:=hs.le he
    obtain ⟨v,h3,h4⟩:=pur_ok hT (hs1.un h1) hp h2
    exact upon_value h3 (hN _ _ _ _ ((hs.put (sv:= .g g sv) ⟨fun _=>h4,fun hf=>by rw[hgt] at hf;cases hf⟩).kil0 _))
   ·rename_i hgt
    exact hN _ _ _ _ ((hs.put (sv:= .g g sv) ⟨fun hf=>absurd hf hgt,fun _=>rfl⟩).kil0 _)
  ·exact h.elim
 unfold dG at h
 split at h
 ·rename_i c x y ho
  split at h
  ·rename_i C r hp
   refine ⟨_,[],[],h.2,fun w0 tag0 E tag hv a w N Q hs he _ hN=> ?_,fun h=>absurd rfl h,by simp⟩
   rw[hw hs he]
   split
   ·rename_i hgt
    exact upon_value (pick3_ok (hs.le he) ho hp (h.1 hgt)) (hN _ _ _ _ ((hs.put (sv:= .g g (bool r)) ⟨fun _=>mk_bool,fun hf=>by rw[hgt] at hf;cases hf⟩).kil0 _))
   ·rename_i hgt
    exact hN _ _ _ _ ((hs.put (sv:= .g g (bool r)) ⟨fun hf=>absurd hf hgt,fun _=>rfl⟩).kil0 _)
  ·exact h.elim
 ·rename_i c ho
  split at h
  ·rename_i C k as R hc
   obtain ⟨rs,h1,hR,hf,hK⟩:=h
   refine ⟨_,[],[],hK,fun w0 tag0 E tag hv a w N Q hs he _ hN=> ?_,fun h=>absurd rfl h,by simp⟩
   rw[hw hs he]
   split
   ·rename_i hgt
    obtain ⟨⟨h2,hC⟩,hvc⟩:=h1 hgt
    have hs1:St w0 tag0 Er tag hv a w:=hs.le he
    obtain ⟨vs,h3,h4⟩:=callO_ok (hs1.un h2) ho hc hC hvc.1
    unfold Oper.wp
    rw[h3,Oper.upon_enter]
    refine (hvc.2 w (lend R tag) hv vs (lend_cases R) (fun b hb=>by simp[lend,hs.hi b hb]) h4).mono ?_
    rintro e w' ⟨tag',hv',rv,rfl,hfr,hi',hrv⟩
    obtain ⟨tg,h5,h6⟩:=hs.retF hfr hi' hR hf hrv
    exact hN _ _ _ _ ((h5.put (sv:= .g g (frzS rs)) ⟨fun _=>h6,fun hf=>by rw[hgt] at hf;cases hf⟩).kil0 _)
   ·rename_i hgt
    exact hN _ _ _ _ ((hs.put (sv:= .g g (frzS rs)) ⟨fun hf=>absurd hf hgt,fun _=>rfl⟩).kil0 _)
  ·exact hpur h
 ·exact hpur h
abbrev PE:=Option Nat×SV×RT×List Nat
abbrev PL:=List PE
def Ep:PL→Nat→(Nat→Bool)→Env→Env
 | [],_,_,E=>E
 |x::r,k,b,E=>Ep r (k+1) b (if b k=true then (E.addR x.2.2.1).put x.1 x.2.1 else E)
def Dl:PL→Nat→(Nat→Bool)→Nat→Bool
 | [],_,_,_=>false
 |x::l,k,b,r=>(b k&&inL x.2.2.2 r)||Dl l (k+1) b r
theorem Dl_iff {b:Nat→Bool} {r:Nat}: ∀ {l:PL} {k:Nat},Dl l k b r=true↔ ∃i x,l[i]? =some x∧b (k+i)=true∧r∈x.2.2.2
 | [],k=>by simp[Dl]
 |x::l,k=>by
  simp only[Dl,Bool.or_eq_true,Bool.and_eq_true,Dl_iff,inL_mem]
  constructor
  ·rintro (⟨h1,h2⟩|⟨i,y,h1,h2,h3⟩)
   ·exact ⟨0,x,rfl,h1,h2⟩
   ·exact ⟨i+1,y,by simpa using h1,by rwa [show k+(i+1)=k+1+i by omega],h3⟩
  ·rintro ⟨i,y,h1,h2,h3⟩
   cases i with
   |zero=>
    simp only[List.getElem?_cons_zero,Option.some.injEq] at h1
    subst h1
    exact .inl ⟨h2,h3⟩
   |succ i=>exact .inr ⟨i,y,by simpa using h1,by rwa [show k+1+i=k+(i+1) by omega],h3⟩
theorem addR_le {E1 E2:Env} (h:E1.le E2) (rts:RT):(E1.addR rts).le (E2.addR rts):=by
 refine ⟨h.nt,h.sl,h.bx,fun r y q=> ?_⟩
 simp only[Env.addR,lkp_app] at q⊢
 split at q
 ·exact q
 ·exact h.rt r y q
theorem lkp_put {E:Env} {x:Option Nat} {sv:SV} {t:Nat}:lkp (E.put x sv).sl t=if x=some t then (if t<E.nt then some sv else none) else lkp E.sl t:=by
 cases x with
 |none=>simp[Env.put]
 |some d=>
  simp only[Env.put]
  split
  ·rename_i hd
   simp only[lkp_putL,Option.some.injEq]
   by_cases h:d=t
   ·subst h;simp[hd]
   ·simp[h]
  ·rename_i hd
   simp only[lkp_delL,Option.some.injEq]
   by_cases h:d=t
   ·subst h;simp[hd]
   ·simp[h]
theorem put_rest {E:Env} {x:Option Nat} {sv:SV}:(E.put x sv).nt=E.nt∧(E.put x sv).bx=E.bx∧(E.put x sv).rt=E.rt:=by
 cases x with
 |none=>exact ⟨rfl,rfl,rfl⟩
 |some d=>simp only[Env.put];split<;>exact ⟨rfl,rfl,rfl⟩
theorem put_le {E1 E2:Env} (h:E1.le E2) (x:Option Nat) (sv:SV):(E1.put x sv).le (E2.put x sv):=by
 refine ⟨put_rest.1.trans (h.nt.trans put_rest.1.symm),fun t v q=> ?_,fun b ls q=> ?_,fun r y q=> ?_⟩
 ·rw[lkp_put] at q⊢
  split at q
  ·rename_i hx
   rw[if_pos hx,←h.nt]
   exact q
  ·rename_i hx
   rw[if_neg hx]
   exact h.sl t v q
 ·rw[put_rest.2.1] at q⊢
  exact h.bx b ls q
 ·rw[put_rest.2.2] at q⊢
  exact h.rt r y q
theorem Ep_le: ∀ (l:PL) (k:Nat) (b:Nat→Bool) {E1 E2:Env},E1.le E2→(Ep l k b E1).le (Ep l k b E2)
 | [],_,_,_,_,h=>h
 |x::r,k,b,E1,E2,h=>by
  simp only[Ep]
  refine Ep_le r (k+1) b ?_
  split
  ·exact put_le (addR_le h _) _ _
  ·exact h
structure ErIn (Er:Env) (ts:List Nat):Prop where
 sl: ∀t sv,lkp Er.sl t=some sv→t∈ts
 bx: ∀b ls,lkp Er.bx b=some ls→ ∃t sv,lkp Er.sl t=some sv∧b∈sv.nms
 rt: ∀r y,lkp Er.rt r=some y→(∃t sv,lkp Er.sl t=some sv∧r∈sv.nms)∨ ∃b ls,lkp Er.bx b=some ls∧r∈ls.flatMap LV.nms
theorem keepL_lkp {α:Type} {L:List (Nat×α)} {t:Nat} {y:α}: ∀ {ts:List Nat},(t,y)∈keepL L ts→t∈ts∧lkp L t=some y
 | [],h=>by simp[keepL] at h
 |s::r,h=>by
  simp only[keepL] at h
  split at h
  ·rename_i z hz
   rcases List.mem_cons.1 h with e|h
   ·cases e
    exact ⟨by simp,hz⟩
   ·have:=keepL_lkp h
    exact ⟨by simp[this.1],this.2⟩
  ·have:=keepL_lkp h
   exact ⟨by simp[this.1],this.2⟩
theorem lkp_keepL_mem {α:Type} {L:List (Nat×α)} {t:Nat} {y:α}: ∀ {ts:List Nat},t∈ts→lkp L t=some y→lkp (keepL L ts) t=some y
 | [],h,_=>by cases h
 |s::r,h,hl=>by
  simp only[keepL]
  by_cases e:s=t
  ·subst e
   rw[hl]
   simp[lkp]
  ·have h1:t∈r:=by
    rcases List.mem_cons.1 h with e'|h
    ·exact absurd e'.symm e
    ·exact h
   split
   ·simp only[lkp,if_neg e]
    exact lkp_keepL_mem h1 hl
   ·exact lkp_keepL_mem h1 hl
theorem kp_in (E:Env) (ts:List Nat):ErIn (E.kp ts) ts:=by
 refine ⟨fun t sv h=>(keepL_lkp (lkp_mem' h)).1,fun b ls h=> ?_,fun r y h=> ?_⟩
 ·obtain ⟨⟨t,sv⟩,h2,h3⟩:=List.mem_flatMap.1 (keepL_lkp (lkp_mem' h)).1
  have h4:=keepL_lkp h2
  exact ⟨t,sv,lkp_keepL_mem h4.1 h4.2,h3⟩
 ·have h1:=(keepL_lkp (lkp_mem' h)).1
  rcases List.mem_append.1 h1 with h1|h1
  ·obtain ⟨⟨t,sv⟩,h2,h3⟩:=List.mem_flatMap.1 h1
   have h4:=keepL_lkp h2
   exact .inl ⟨t,sv,lkp_keepL_mem h4.1 h4.2,h3⟩
  ·obtain ⟨⟨b,ls⟩,h2,h3⟩:=List.mem_flatMap.1 h1
   have h4:=keepL_lkp h2
   exact .inr ⟨b,ls,lkp_keepL_mem h4.1 h4.2,h3⟩
theorem hOk_ok {ops:List Oper} {k:Nat} {ks:List Nat}: ∀ {H:HL},hOk ops k ks H→ ∀i ns,(i,ns)∈H→i≠k→ ∀r∈ns,r∈ks→closB ops ops.length i k=true
 | [],_,i,ns,h,_,_,_,_=>by cases h
 |(i',ns')::H,h,i,ns,hm,hne,r,hr,hk=>by
  rcases List.mem_cons.1 hm with e|hm
  ·cases e
   have h1:=h.1
   rw[if_pos (List.any_eq_true.2 ⟨r,hr,inL_mem.2 hk⟩),if_neg hne] at h1
   exact h1
  ·exact hOk_ok h.2 i ns hm hne r hr hk
structure Said (P:Program) (ops:Array Oper) (l:PL) (E:Env) (D:List Nat) (n k:Nat) (o:Oper) (sv:SV) (rts:RT) (ks:List Nat) (Er:Env):Prop where
 at_:l[k]? =some (o.dst,sv,rts,ks)
 step:StepOk P ops o Er sv rts ks
 le:Er.le ((Ep l 0 (fun j=>decide (j<k)) E).killD fun r=>Dl l 0 (fun j=>decide (j<k)) r||inL D r)
 inn:ErIn Er (lks ops.toList o)
 call:rts≠ []→isCallO o=true
 fam: ∀x∈rts,fam (dn o) x.1=true
 clr:clrL ops.toList (n+k) sv (callsOf ops.toList 0)
 hist: ∀j x,k<j→l[j]? =some x→ ∀r,((∃t u,lkp Er.sl t=some u∧r∈u.nms)∨ ∃b ls,lkp Er.bx b=some ls∧r∈ls.flatMap LV.nms)→r∈x.2.2.2→closB ops.toList ops.toList.length (n+k) (n+j)=true
theorem Ep_shift: ∀ (l:PL) (n:Nat) (b:Nat→Bool) (E:Env),Ep l (n+1) b E=Ep l n (fun j=>b (j+1)) E
 | [],_,_,_=>rfl
 |x::r,n,b,E=>by simp only[Ep];rw[Ep_shift r]
theorem Dl_shift: ∀ (l:PL) (n:Nat) (b:Nat→Bool) (r:Nat),Dl l (n+1) b r=Dl l n (fun j=>b (j+1)) r
 | [],_,_,_=>rfl
 |x::r,n,b,y=>by simp only[Dl];rw[Dl_shift r]
theorem inL_app {l l':List Nat} {r:Nat}:inL (l++l') r=(inL l r||inL l' r):=by
 rw[Bool.eq_iff_iff,Bool.or_eq_true,inL_mem,inL_mem,inL_mem,List.mem_append]
theorem evD_good (hT:TGood P ti) {bb:Bool} {ops:Array Oper} {K:Env→Prop}: ∀ (rest:List Oper) (n:Nat) (D:List Nat) (H:HL) (E:Env),(∀x∈H,x.1<n)→(∀t sv,lkp E.sl t=some sv→sv.nms.any (inL D)=false)→(∀r y,lkp E.rt r=some y→inL D r=false)→(∀b ls,lkp E.bx b=some ls→inL D b=false∧(ls.flatMap LV.nms).any (inL D)=false)→evD P ti bb ops.toList rest n K D H E→
  ∃l:PL,l.length=rest.length∧(∃G,K G∧G.le ((Ep l 0 (fun _=>true) E).killD fun r=>Dl l 0 (fun _=>true) r||inL D r))∧
   (∀k o,rest[k]? =some o→ ∃sv rts ks Er,Said P ops l E D n k o sv rts ks Er)∧
   (∀ (k:Nat) (x:PE),l[k]? =some x→(bb=false→x.2.2.2= [])∧ ∀i ns,(i,ns)∈H→ ∀r∈ns,r∈x.2.2.2→closB ops.toList ops.toList.length i (n+k)=true)
 | [],n,D,H,E,_,hD1,hD2,hD3,h=>⟨[],rfl,⟨E,h,⟨rfl,fun t sv q=>lkp_klS.2 ⟨q,by simpa [Dl] using hD1 t sv q⟩,fun b ls q=>lkp_bxS.2 ⟨q,by simpa [Dl] using hD3 b ls q⟩,fun r y q=>lkp_delD'.2 ⟨q,by simpa [Dl] using hD2 r y q⟩⟩⟩,fun k o hk=>by simp at hk,fun k x hk=>by simp at hk⟩
 |o::rest,n,D,H,E,hH,hD1,hD2,hD3,h=>by
  have key:Beh P ops o (E.kp (lks ops.toList o)) (fun sv rts ks=>clrL ops.toList n sv (callsOf ops.toList 0)∧kilOk bb ops.toList n H ks∧evD P ti bb ops.toList rest (n+1) K (ks++D) (hcons bb n (E.kp (lks ops.toList o)) H) (((E.addR rts).put o.dst sv).kill (ks++D))):=by
   simp only[evD] at h
   split at h
   ·rename_i hg
    exact dU_ok hT hg h
   ·rename_i j b hg
    split at h
    ·rename_i g hgb
     exact dG_ok hT hg hgb h
    ·exact h.elim
  obtain ⟨sv,rts,ks,⟨h0,hkil,h1⟩,h2,h21,h22⟩:=key
  have hF1: ∀t u,lkp (((E.addR rts).put o.dst sv).kill (ks++D)).sl t=some u→u.nms.any (inL (ks++D))=false:=fun t u q=>by
   have:=Env.kill_D.sl t u q
   exact (lkp_klS.1 this).2
  have hF2: ∀r y,lkp (((E.addR rts).put o.dst sv).kill (ks++D)).rt r=some y→inL (ks++D) r=false:=fun r y q=>by
   have:=Env.kill_D.rt r y q
   exact (lkp_delD'.1 this).2
  have hF3: ∀b ls,lkp (((E.addR rts).put o.dst sv).kill (ks++D)).bx b=some ls→inL (ks++D) b=false∧(ls.flatMap LV.nms).any (inL (ks++D))=false:=fun b ls q=>by
   have:=Env.kill_D.bx b ls q
   exact (lkp_bxS.1 this).2
  have hH': ∀x∈hcons bb n (E.kp (lks ops.toList o)) H,x.1<n+1:=by
   intro x hx
   unfold hcons at hx
   split at hx
   ·rcases List.mem_cons.1 hx with rfl|hx
    ·simp
    ·have:=hH x hx
     omega
   ·have:=hH x hx
    omega
  obtain ⟨l,h3,⟨G,hG,hGle⟩,h5,h6⟩:=evD_good hT rest _ _ _ _ hH' hF1 hF2 hF3 h1
  have hbb:bb=false→ks= []:=fun hf=>by
   unfold kilOk at hkil
   split at hkil
   ·rfl
   ·rw[hkil.1] at hf
    cases hf
  have hho: ∀i ns,(i,ns)∈H→ ∀r∈ns,r∈ks→closB ops.toList ops.toList.length i n=true:=fun i ns hm r hr hk=>by
   unfold kilOk at hkil
   split at hkil
   ·cases hk
   ·have:=hH _ hm
    exact hOk_ok hkil.2 i ns hm (by simp only at this;omega) r hr hk
  have hmono: ∀b:Nat→Bool,b 0=true→((Ep l 0 (fun j=>b (j+1)) (((E.addR rts).put o.dst sv).kill (ks++D))).killD fun r=>Dl l 0 (fun j=>b (j+1)) r||inL (ks++D) r).le
    ((Ep ((o.dst,sv,rts,ks)::l) 0 b E).killD fun r=>Dl ((o.dst,sv,rts,ks)::l) 0 b r||inL D r):=fun b hb=>by
   simp only[Ep,Dl,hb,Bool.true_and]
   rw[Ep_shift]
   refine (Ep_le l 0 _ (Env.kill_le _ _)).killD fun r hr=> ?_
   simp only[Dl_shift,inL_app,Bool.or_eq_true] at hr⊢
   rcases hr with (hr|hr)|hr
   ·exact .inr (.inl hr)
   ·exact .inl hr
   ·exact .inr (.inr hr)
  refine ⟨(o.dst,sv,rts,ks)::l,by simp[h3],⟨G,hG,hGle.trans (hmono (fun _=>true) rfl)⟩,fun k o' hk=> ?_,fun k x hk=> ?_⟩
  ·cases k with
   |zero=>
    simp only[List.getElem?_cons_zero,Option.some.injEq] at hk
    subst hk
    refine ⟨sv,rts,ks,E.kp (lks ops.toList o),⟨rfl,h2, ?_,kp_in E _,h21,h22,h0,fun j x hj hx r hr hrx=> ?_⟩⟩
    ·have e0: ∀ (l:PL) (m:Nat) (E:Env),Ep l m (fun j=>decide (j<0)) E=E:=by
      intro l
      induction l with
      |nil=>intros;rfl
      |cons x r ih=>intro m E;simp only[Ep];rw[ih];simp
     have e1: ∀ (l:PL) (m:Nat) (r:Nat),Dl l m (fun j=>decide (j<0)) r=false:=by
      intro l
      induction l with
      |nil=>intros;rfl
      |cons x r ih=>intro m y;simp only[Dl];rw[ih];simp
     rw[e0]
     refine (E.kp_le _).trans ⟨rfl,fun t u q=>lkp_klS.2 ⟨q, ?_⟩,fun b ls q=>lkp_bxS.2 ⟨q, ?_⟩,fun r y q=>lkp_delD'.2 ⟨q, ?_⟩⟩
     ·simp only[e1,Bool.false_or]
      exact hD1 t u q
     ·simp only[e1,Bool.false_or]
      exact hD3 b ls q
     ·simp only[e1,Bool.false_or]
      exact hD2 r y q
    ·cases j with
     |zero=>omega
     |succ j=>
      simp only[List.getElem?_cons_succ] at hx
      have h7:=h6 j x hx
      cases hq:bb with
      |false=>
       rw[h7.1 hq] at hrx
       cases hrx
      |true=>
       have h8:=h7.2 n (((E.kp (lks ops.toList o)).sl.flatMap fun x=>x.2.nms)++(E.kp (lks ops.toList o)).bx.flatMap fun x=>x.2.flatMap LV.nms) (by simp only[hcons,hq];exact List.mem_cons_self) r (by
        rcases hr with ⟨t,u,ht,hr⟩|⟨b,ls,hb,hr⟩
        ·exact List.mem_append_left _ (List.mem_flatMap.2 ⟨(t,u),lkp_mem' ht,hr⟩)
        ·exact List.mem_append_right _ (List.mem_flatMap.2 ⟨(b,ls),lkp_mem' hb,hr⟩)) hrx
       rwa [show n+1+j=n+(j+1) by omega] at h8
   |succ k=>
    simp only[List.getElem?_cons_succ] at hk
    obtain ⟨sv',rts',ks',Er,hs⟩:=h5 k o' hk
    refine ⟨sv',rts',ks',Er,⟨by simpa using hs.at_,hs.step, ?_,hs.inn,hs.call,hs.fam, ?_,fun j x hj hx r hr hrx=> ?_⟩⟩
    ·have:=hmono (fun j=>decide (j<k+1)) (by simp)
     have e:(fun j=>decide (j+1<k+1))=(fun j=>decide (j<k)):=by funext j;simp
     rw[e] at this
     exact hs.le.trans this
    ·have:=hs.clr
     rwa [show n+1+k=n+(k+1) by omega] at this
    ·cases j with
     |zero=>omega
     |succ j=>
      have:=hs.hist j x (by omega) (by simpa using hx) r hr hrx
      rwa [show n+1+k=n+(k+1) by omega,show n+1+j=n+(j+1) by omega] at this
  ·cases k with
   |zero=>
    simp only[List.getElem?_cons_zero,Option.some.injEq] at hk
    subst hk
    exact ⟨hbb,hho⟩
   |succ k=>
    have h7:=h6 k x (by simpa using hk)
    refine ⟨h7.1,fun i ns hm r hr hrx=> ?_⟩
    have h8:=h7.2 i ns (by
     unfold hcons
     split
     ·exact List.mem_cons_of_mem _ hm
     ·exact hm) r hr hrx
    rwa [show n+1+k=n+(k+1) by omega] at h8
theorem Ep_rest: ∀ (l:PL) (k:Nat) (b:Nat→Bool) (E:Env),(Ep l k b E).nt=E.nt∧(Ep l k b E).bx=E.bx
 | [],_,_,_=>⟨rfl,rfl⟩
 |x::r,k,b,E=>by
  simp only[Ep]
  obtain ⟨h1,h2⟩:=Ep_rest r (k+1) b (if b k=true then (E.addR x.2.2.1).put x.1 x.2.1 else E)
  split at h1
  ·rename_i hb
   rw[if_pos hb] at h2
   rw[if_pos hb]
   exact ⟨h1.trans put_rest.1,h2.trans put_rest.2.1⟩
  ·rename_i hb
   rw[if_neg hb] at h2
   rw[if_neg hb]
   exact ⟨h1,h2⟩
def Apart (l:PL):Prop:= ∀ (i j:Nat) (x y:PE) (t:Nat),l[i]? =some x→l[j]? =some y→x.1=some t→y.1=some t→i=j
theorem Apart.tail {x:PE} {r:PL} (h:Apart (x::r)):Apart r:=fun i j y z t h1 h2 h3 h4=>by
 have:=h (i+1) (j+1) y z t (by simpa using h1) (by simpa using h2) h3 h4
 omega
theorem lkp_Ep_none: ∀ (l:PL) (k:Nat) (b:Nat→Bool) (E:Env) (t:Nat),(∀ (i:Nat) (x:PE),l[i]? =some x→x.1≠some t)→lkp (Ep l k b E).sl t=lkp E.sl t
 | [],_,_,_,_,_=>rfl
 |x::r,k,b,E,t,h=>by
  simp only[Ep]
  rw[lkp_Ep_none r (k+1) b _ t (fun i y hy=>h (i+1) y (by simpa using hy))]
  split
  ·rw[lkp_put,if_neg (h 0 x rfl)]
   rfl
  ·rfl
theorem lkp_Ep_some: ∀ (l:PL) (k:Nat) (b:Nat→Bool) (E:Env) (t i:Nat) (sv:SV) (rts:RT×List Nat),Apart l→l[i]? =some (some t,sv,rts)→lkp (Ep l k b E).sl t=if b (k+i)=true then (if t<E.nt then some sv else none) else lkp E.sl t
 | [],_,_,_,_,_,_,_,_,h=>by simp at h
 |x::r,k,b,E,t,0,sv,rts,ha,h=>by
  simp only[List.getElem?_cons_zero,Option.some.injEq] at h
  subst h
  simp only[Ep,Nat.add_zero]
  rw[lkp_Ep_none r (k+1) b _ t (fun i y hy he=>by
   have:=ha 0 (i+1) _ y t rfl (by simpa using hy) rfl he
   omega)]
  split
  ·rw[lkp_put,if_pos rfl]
   rfl
  ·rfl
 |x::r,k,b,E,t,i+1,sv,rts,ha,h=>by
  simp only[List.getElem?_cons_succ] at h
  simp only[Ep]
  rw[lkp_Ep_some r (k+1) b _ t i sv rts ha.tail h,show k+1+i=k+(i+1) by omega]
  have hne:x.1≠some t:=fun he=>by
   have:=ha 0 (i+1) x _ t rfl (by simpa using h) he rfl
   omega
  have h1:lkp (if b k=true then (E.addR x.2.2.1).put x.1 x.2.1 else E).sl t=lkp E.sl t:=by
   split
   ·rw[lkp_put,if_neg hne]
    rfl
   ·rfl
  have h2:(if b k=true then (E.addR x.2.2.1).put x.1 x.2.1 else E).nt=E.nt:=by
   split
   ·exact put_rest.1
   ·rfl
  rw[h1,h2]
theorem lkp_none_of {α:Type} {r:Nat}: ∀ {l:List (Nat×α)},(∀y,(r,y)∉l)→lkp l r=none
 | [],_=>rfl
 |(k,z)::t,h=>by
  simp only[lkp]
  rw[if_neg (fun e=>h z (by simp[e])),lkp_none_of (fun y hy=>h y (by simp[hy]))]
theorem lkp_mem {α:Type} {r:Nat} {y:α}: ∀ {l:List (Nat×α)},lkp l r=some y→(r,y)∈l
 | [],h=>by simp[lkp] at h
 |(k,z)::t,h=>by
  simp only[lkp] at h
  split at h
  ·rename_i e
   cases h
   simp[e]
  ·exact List.mem_cons_of_mem _ (lkp_mem h)
theorem rt_Ep: ∀ (l:PL) (k:Nat) (b b':Nat→Bool) (E E':Env) (r:Nat),lkp E.rt r=lkp E'.rt r→(∀ (i:Nat) (x:PE) (y:Md×Lf),l[i]? =some x→(r,y)∈x.2.2.1→b (k+i)=b' (k+i))→
  lkp (Ep l k b E).rt r=lkp (Ep l k b' E').rt r
 | [],_,_,_,_,_,_,h,_=>h
 |x::t,k,b,b',E,E',r,h,hb=>by
  simp only[Ep]
  refine rt_Ep t (k+1) b b' _ _ r ?_ (fun i z y hz hy=> ?_)
  ·have e0: ∀E:Env,lkp ((E.addR x.2.2.1).put x.1 x.2.1).rt r=match lkp x.2.2.1 r with|some y=>some y|none=>lkp E.rt r:=fun E=>by
    rw[put_rest.2.2]
    simp only[Env.addR,lkp_app]
    cases lkp x.2.2.1 r<;>rfl
   cases hx:lkp x.2.2.1 r with
   |none=>
    have e1: ∀ (E:Env) (c:Bool),lkp (if c=true then (E.addR x.2.2.1).put x.1 x.2.1 else E).rt r=lkp E.rt r:=fun E c=>by
     split
     ·rw[e0,hx]
     ·rfl
    rw[e1,e1]
    exact h
   |some y=>
    have:=hb 0 x y rfl (lkp_mem hx)
    simp only[Nat.add_zero] at this
    rw[this]
    split
    ·rw[e0,e0,hx]
    ·exact h
  ·have:=hb (i+1) z y (by simpa using hz) hy
   rwa [show k+(i+1)=k+1+i by omega] at this
theorem rt_Ep_mem: ∀ (l:PL) (k:Nat) (b:Nat→Bool) (E:Env) (r:Nat) (y:Md×Lf),lkp (Ep l k b E).rt r=some y→(∃ (i:Nat) (x:PE),l[i]? =some x∧b (k+i)=true∧(r,y)∈x.2.2.1)∨lkp E.rt r=some y
 | [],_,_,_,_,_,h=> .inr h
 |x::t,k,b,E,r,y,h=>by
  simp only[Ep] at h
  rcases rt_Ep_mem t (k+1) b _ r y h with ⟨i,z,h1,h2,h3⟩|h
  ·exact .inl ⟨i+1,z,by simpa using h1,by rwa [show k+(i+1)=k+1+i by omega],h3⟩
  ·split at h
   ·rename_i hb
    rw[put_rest.2.2] at h
    simp only[Env.addR,lkp_app] at h
    cases hx:lkp x.2.2.1 r with
    |some z=>
     rw[hx] at h
     cases h
     exact .inl ⟨0,x,rfl,hb,lkp_mem hx⟩
    |none=>
     rw[hx] at h
     exact .inr h
   ·exact .inr h
theorem rt_Ep_none: ∀ (l:PL) (k:Nat) (b:Nat→Bool) (E:Env) (r:Nat),(∀ (i:Nat) (x:PE) (y:Md×Lf),l[i]? =some x→(r,y)∉x.2.2.1)→lkp (Ep l k b E).rt r=lkp E.rt r
 | [],_,_,_,_,_=>rfl
 |x::t,k,b,E,r,h=>by
  simp only[Ep]
  rw[rt_Ep_none t (k+1) b _ r (fun i z y hz=>h (i+1) z y (by simpa using hz))]
  split
  ·rw[put_rest.2.2]
   simp only[Env.addR,lkp_app,lkp_none_of (fun y=>h 0 x y rfl)]
  ·rfl
theorem rt_Ep_at: ∀ (l:PL) (k:Nat) (b:Nat→Bool) (E:Env) (r i:Nat) (x:PE) (y:Md×Lf),l[i]? =some x→lkp x.2.2.1 r=some y→b (k+i)=true→
  (∀ (j:Nat) (z:PE) (u:Md×Lf),j≠i→l[j]? =some z→(r,u)∉z.2.2.1)→lkp (Ep l k b E).rt r=some y
 | [],_,_,_,_,_,_,_,h,_,_,_=>by simp at h
 |x::t,k,b,E,r,0,z,y,h,hy,hb,ho=>by
  simp only[List.getElem?_cons_zero,Option.some.injEq] at h
  subst h
  simp only[Ep,Nat.add_zero] at hb⊢
  rw[rt_Ep_none t (k+1) b _ r (fun i z u hz=>ho (i+1) z u (by omega) (by simpa using hz)),if_pos hb,put_rest.2.2]
  simp only[Env.addR,lkp_app,hy]
 |x::t,k,b,E,r,i+1,z,y,h,hy,hb,ho=>by
  simp only[Ep]
  exact rt_Ep_at t (k+1) b _ r i z y (by simpa using h) hy (by rwa [show k+1+i=k+(i+1) by omega]) (fun j z u hj hz=>ho (j+1) z u (by omega) (by simpa using hz))
theorem St.ext {E':Env} (hs:St w0 tag0 E tag hv a w) (h0:E'.nt=E.nt) (h1: ∀t,lkp E'.sl t=lkp E.sl t) (h2:E'.bx=E.bx) (h3: ∀r,lkp E'.rt r=lkp E.rt r):St w0 tag0 E' tag hv a w:=
 hs.weak h0 (fun t sv h=>by rw[←h1 t];exact h) (fun b ls h=>by rw[←h2];exact h) (fun r y h=>by rw[←h3];exact h)
end Go.Sm
namespace Go.Sm
open Go.RowKit
set_option linter.unusedVariables false
set_option linter.unusedSimpArgs false
variable {P : Program} {ti : TT} {E : Env} {tag tag' tag0 : Nat → Tag} {hv hv' : Hv} {a : Act} {w w' w0 : World} {t d : Nat}
variable {Q : Exit → Act → World → Prop} {K : Env → Prop}
theorem St.drew (hs:St w0 tag0 E tag hv a w):St w0 tag0 E tag hv a {w with drawn:=w.drawn+1}:=
 hs.hop0 ⟨fun _ _ h=>⟨h,rfl⟩,fun _ _ _ _ h _=>⟨h,rfl⟩,fun _ _ _=>rfl⟩ (hs.fr.step rfl rfl rfl (Nat.le_refl _) fun _ _ _=>⟨rfl,rfl⟩) hs.hi
def drawAt (ops:List Oper) (i:Nat):Bool:=match ops[i]? with
 |some o=>(o.after.toList.all fun e=> !Region.binds .any e||decide (e.on<i))&&
   ((lks ops o).all fun t=>(List.range ops.length).all fun j=>match ops[j]? with
    |some oj=>(oj.dst !=some t)||(decide (j<i)&&predB ops i j)||j==i||(decide (i<j)&&predB ops j i)
    |none=>true)&&
   ((List.range ops.length).all fun j=>j==i||(match ops[j]? with
    |some oj=>match o.dst with|some t=>oj.dst !=some t|none=>true
    |none=>true))
 |none=>true
def drawOk (ops:List Oper):Bool:=(List.range ops.length).all fun i=>drawAt ops i
section
variable {ops : List Oper}
theorem drawOk_at (h:drawOk ops=true) {i:Nat} {o:Oper} (ho:ops[i]? =some o):
  (∀e∈o.after.toList,Region.binds .any e=true→e.on<i)∧
  (∀t∈lks ops o,∀j oj,ops[j]? =some oj→oj.dst=some t→(j<i∧predB ops i j=true)∨j=i∨(i<j∧predB ops j i=true))∧
  (∀j oj t,ops[j]? =some oj→oj.dst=some t→o.dst=some t→j=i):=by
 have hi:i<ops.length:=(List.getElem?_eq_some_iff.1 ho).1
 have h1:=List.all_eq_true.1 h i (List.mem_range.2 hi)
 unfold drawAt at h1
 rw[ho] at h1
 simp only[Bool.and_eq_true,List.all_eq_true] at h1
 obtain ⟨⟨h2,h3⟩,h4⟩:=h1
 refine ⟨fun e he hb=> ?_,fun t ht j oj hj hd=> ?_,fun j oj t hj hd hd2=> ?_⟩
 ·have:=h2 e he
  rw[hb] at this
  simpa using this
 ·have hjl:j<ops.length:=(List.getElem?_eq_some_iff.1 hj).1
  have:=h3 t ht j (List.mem_range.2 hjl)
  rw[hj] at this
  simp only[hd,bne_self_eq_false,Bool.false_or,Bool.or_eq_true,Bool.and_eq_true,decide_eq_true_eq,beq_iff_eq] at this
  rcases this with (h5|h5)|h5
  ·exact .inl h5
  ·exact .inr (.inl h5)
  ·exact .inr (.inr h5)
 ·have hjl:j<ops.length:=(List.getElem?_eq_some_iff.1 hj).1
  have:=h4 j (List.mem_range.2 hjl)
  rw[hj,hd2] at this
  simp only[hd,bne_self_eq_false,Bool.or_false,beq_iff_eq] at this
  exact this
end
theorem Ep_congr: ∀ (l:PL) (k:Nat) (b b':Nat→Bool) (E:Env),(∀j,k≤j→j<k+l.length→b j=b' j)→Ep l k b E=Ep l k b' E
 | [],_,_,_,_,_=>rfl
 |x::r,k,b,b',E,h=>by
  simp only[Ep]
  rw[h k (Nat.le_refl _) (by simp),Ep_congr r (k+1) b b' _ (fun j h1 h2=>h j (by omega) (by simp;omega))]
theorem Dl_congr: ∀ (l:PL) (k:Nat) (b b':Nat→Bool) (r:Nat),(∀j,k≤j→j<k+l.length→b j=b' j)→Dl l k b r=Dl l k b' r
 | [],_,_,_,_,_=>rfl
 |x::t,k,b,b',r,h=>by
  simp only[Dl]
  rw[h k (Nat.le_refl _) (by simp),Dl_congr t (k+1) b b' r (fun j h1 h2=>h j (by omega) (by simp;omega))]
def EpK (l:PL) (b:Nat→Bool) (E:Env):Env:=(Ep l 0 b E).killD fun r=>Dl l 0 b r||inL [] r
theorem EpK_congr {l:PL} {b b':Nat→Bool} {E:Env} (h: ∀j,j<l.length→b j=b' j):EpK l b E=EpK l b' E:=by
 have h1:Ep l 0 b E=Ep l 0 b' E:=Ep_congr l 0 b b' E (fun j _ hj=>h j (by omega))
 have h2: ∀r,Dl l 0 b r=Dl l 0 b' r:=fun r=>Dl_congr l 0 b b' r (fun j _ hj=>h j (by omega))
 simp only[EpK,h1,h2]
theorem EpK_sl {l:PL} {b:Nat→Bool} {E:Env} {t:Nat} {sv:SV}:lkp (EpK l b E).sl t=some sv↔lkp (Ep l 0 b E).sl t=some sv∧ ∀r∈sv.nms,Dl l 0 b r=false:=by
 unfold EpK
 refine lkp_klS.trans ⟨fun h=>⟨h.1,fun r hr=> ?_⟩,fun h=>⟨h.1, ?_⟩⟩
 ·have:=List.any_eq_false.1 h.2 r hr
  simpa [inL] using this
 ·rw[List.any_eq_false]
  intro r hr
  simp[inL,h.2 r hr]
theorem EpK_bx {l:PL} {b:Nat→Bool} {E:Env} {k:Nat} {ls:List LV}:lkp (EpK l b E).bx k=some ls↔lkp E.bx k=some ls∧Dl l 0 b k=false∧ ∀r∈ls.flatMap LV.nms,Dl l 0 b r=false:=by
 unfold EpK
 refine lkp_bxS.trans ?_
 rw[(Ep_rest l 0 b E).2]
 refine ⟨fun h=>⟨h.1,by simpa [inL] using h.2.1,fun r hr=> ?_⟩,fun h=>⟨h.1,by simpa [inL] using h.2.1, ?_⟩⟩
 ·have:=List.any_eq_false.1 h.2.2 r hr
  simpa [inL] using this
 ·rw[List.any_eq_false]
  intro r hr
  simp[inL,h.2.2 r hr]
theorem EpK_rt {l:PL} {b:Nat→Bool} {E:Env} {r:Nat} {y:Md×Lf}:lkp (EpK l b E).rt r=some y↔lkp (Ep l 0 b E).rt r=some y∧Dl l 0 b r=false:=by
 unfold EpK
 refine lkp_delD'.trans ?_
 simp[inL]
def cnt (n:Nat) (b:Nat→Bool):Nat:=((List.range n).filter fun j=> !b j).length
theorem cnt_up {n:Nat} {b b':Nat→Bool} {i:Nat} (hi:i<n) (hb:b i=false) (h1:b' i=true) (h2: ∀j,j≠i→b' j=b j):cnt n b'+1=cnt n b:=by
 unfold cnt
 have key: ∀n,(i<n→((List.range n).filter fun j=> !b' j).length+1=((List.range n).filter fun j=> !b j).length)∧(¬i<n→((List.range n).filter fun j=> !b' j).length=((List.range n).filter fun j=> !b j).length):=by
  intro n
  induction n with
  |zero=>simp
  |succ n ih=>
   simp only[List.range_succ,List.filter_append,List.length_append]
   refine ⟨fun hlt=> ?_,fun hge=> ?_⟩
   ·by_cases e:i=n
    ·subst e
     rw[ih.2 (by omega)]
     simp[hb,h1]
    ·have:=ih.1 (by omega)
     have h3:b' n=b n:=h2 n (fun h=>e h.symm)
     simp only[List.filter_cons,List.filter_nil,h3]
     split<;>simp<;>omega
   ·have h3:b' n=b n:=h2 n (fun h=>by omega)
    rw[ih.2 (by omega)]
    simp only[List.filter_cons,List.filter_nil,h3]
 exact (key n).1 hi
theorem cnt_zero {n:Nat} {b:Nat→Bool} (h:cnt n b=0): ∀j,j<n→b j=true:=by
 intro j hj
 cases hb:b j with
 |true=>rfl
 |false=>
  have:j∈(List.range n).filter fun j=> !b j:=List.mem_filter.2 ⟨List.mem_range.2 hj,by simp[hb]⟩
  unfold cnt at h
  rw[List.eq_nil_of_length_eq_zero h] at this
  cases this
theorem cnt_ne {n:Nat} {b:Nat→Bool}:(∀j,j<n→b j=true)∨ ∃i,i<n∧b i=false∧ ∀j,j<i→b j=true:=by
 induction n with
 |zero=>exact .inl fun j h=>by omega
 |succ n ih=>
  rcases ih with h|⟨i,h1,h2,h3⟩
  ·cases hb:b n with
   |true=>
    refine .inl fun j hj=> ?_
    by_cases e:j=n
    ·rw[e];exact hb
    ·exact h j (by omega)
   |false=>exact .inr ⟨n,by omega,hb,h⟩
  ·exact .inr ⟨i,by omega,h2,h3⟩
theorem predB_mem {ops:List Oper} {i j:Nat} {o:Oper} (ho:ops[i]? =some o) (h:predB ops i j=true): ∃e∈o.after.toList,Region.binds .any e=true∧e.on=j:=by
 unfold predB at h
 rw[ho] at h
 simp only[List.any_eq_true,Bool.and_eq_true,beq_iff_eq] at h
 obtain ⟨e,he,hb,rfl⟩:=h
 exact ⟨e,he,hb,rfl⟩
theorem closB_lt {ops:List Oper} (hd:drawOk ops=true): ∀ (f i k:Nat) (L:Nat→Bool),(∀j k,L k=true→predB ops k j=true→L j=true)→closB ops f i k=true→i<k∧(L k=true→L i=true)
 |0,_,_,_,_,h=>by simp[closB] at h
 |f+1,i,k,L,hL,h=>by
  have hp: ∀m k,predB ops k m=true→m<k:=fun m k h=>by
   have h0:=h
   unfold predB at h0
   split at h0
   ·rename_i o ho
    obtain ⟨e,he,hb,rfl⟩:=predB_mem ho h
    exact (drawOk_at hd ho).1 e he hb
   ·cases h0
  have h':predB ops k i=true∨ ∃m,predB ops k m=true∧closB ops f i m=true:=by
   simp only[closB] at h
   split at h
   ·rename_i h1;exact .inl h1
   ·split at h
    ·rename_i o ho
     obtain ⟨e,h1,h2,h3⟩:=closE_mem h
     refine .inr ⟨e.on, ?_,h3⟩
     unfold predB
     rw[ho]
     exact List.any_eq_true.2 ⟨e,h1,by simp[h2]⟩
    ·cases h
  rcases h' with h|⟨m,h1,h2⟩
  ·exact ⟨hp _ _ h,fun hk=>hL _ _ hk h⟩
  ·have h3:=closB_lt hd f i m L hL h2
   exact ⟨Nat.lt_trans h3.1 (hp _ _ h1),fun hk=>h3.2 (hL _ _ hk h1)⟩
theorem famA_of {ops:List Oper} {i:Nat} {o:Oper} (ho:ops[i]? =some o) (hc:isCallO o=true) (r:Nat) (h:fam (dn o) r=true):famA ops r=true:=by
 unfold famA
 rw[List.any_eq_true]
 exact ⟨o,List.mem_of_getElem? ho,by rw[hc];simpa [fam] using h⟩
theorem isCallO_dst {o:Oper} (h:isCallO o=true):o.dst=some (dn o):=by
 have key:o.dst.isSome=true→o.dst=some (dn o):=fun h=>by
  unfold dn
  cases hd:o.dst with
  |none=>rw[hd] at h;cases h
  |some d=>rfl
 unfold isCallO at h
 split at h
 ·split at h
  ·exact key h
  ·exact key h
  ·cases h
 ·exact key h
 ·exact key h
 ·cases h
theorem evD_any (hT : TGood P ti) {bb : Bool} {ops : Array Oper} (hd : drawOk ops.toList = true) (h : evD P ti bb ops.toList ops.toList 0 K [] [] (E.fresh (famA ops.toList))) (hs : St w0 tag0 E tag hv a w)
    (hN : ∀ E' tag' hv' a' w', St w0 tag0 E' tag' hv' a' w' → K E' → Q .normal a' w') : wpAny P .any ops Q ops.size (Array.replicate ops.size false) a { w with drawn := w.drawn + 1 } := by
  have hcl0 : ∀ i o, ops.toList[i]? = some o → isCallO o = true → (E.fresh (famA ops.toList)).cl (fam (dn o)) := fun i o ho hc => Env.fresh_cl (fun r h => famA_of ho hc r h) E
  have hclB : ∀ i o, ops.toList[i]? = some o → isCallO o = true → ∀ z ∈ (E.fresh (famA ops.toList)).bx, z.2.any (LV.hit (fam (dn o))) = false := fun i o ho hc z hz => by
    simp only [Env.fresh] at hz
    obtain ⟨y, _, rfl⟩ := List.mem_map.1 hz
    exact LVs.fr_hit (fun r h => famA_of ho hc r h) y.2
  replace hs := hs.fresh_same (famA ops.toList)
  generalize E.fresh (famA ops.toList) = E at h hs hcl0 hclB
  obtain ⟨l, hl, ⟨G, hG, hGle⟩, hstep, _⟩ := evD_good hT ops.toList 0 [] [] E (by simp) (fun t sv _ => by rw [List.any_eq_false]; intro x _ hx; cases hx) (fun _ _ _ => rfl) (fun _ _ _ => ⟨rfl, by rw [List.any_eq_false]; intro x _ hx; cases hx⟩) h
  replace hGle : G.le (EpK l (fun _ => true) E) := hGle
  have hln : l.length = ops.size := by simpa using hl
  have hget : ∀ i o, ops[i]? = some o → ops.toList[i]? = some o := fun i o ho => by rw [Array.getElem?_toList]; exact ho
  have hldst : ∀ (i : Nat) (x : PE), l[i]? = some x → ∃ o, ops.toList[i]? = some o ∧ x.1 = o.dst ∧ (x.2.2.1 ≠ [] → isCallO o = true) ∧ (∀ y ∈ x.2.2.1, fam (dn o) y.1 = true) ∧ clrL ops.toList i x.2.1 (callsOf ops.toList 0) ∧ True := fun i x hx => by
    have hi : i < ops.toList.length := by rw [← hl]; exact (List.getElem?_eq_some_iff.1 hx).1
    obtain ⟨sv, rts, ks, Er, hS⟩ := hstep i _ (List.getElem?_eq_getElem hi)
    rw [hS.at_] at hx
    cases hx
    exact ⟨_, List.getElem?_eq_getElem hi, rfl, hS.call, hS.fam, by have := hS.clr; rwa [Nat.zero_add] at this, trivial⟩
  have hap : Apart l := by
    intro i j x y t hx hy ht ht2
    obtain ⟨o, h1, h2, _⟩ := hldst i x hx
    obtain ⟨o', h3, h4, _⟩ := hldst j y hy
    exact ((drawOk_at hd h3).2.2 i o t h1 (h2 ▸ ht) (h4 ▸ ht2))
  have hsame : ∀ (b b' : Nat → Bool) (ts : List Nat), (∀ j k, b k = true → predB ops.toList k j = true → b j = true) → (∀ j k, b' k = true → predB ops.toList k j = true → b' j = true) →
      (∀ t ∈ ts, ∀ j x, l[j]? = some x → x.1 = some t → b j = b' j) → (∀ t ∈ ts, lkp (Ep l 0 b E).sl t = lkp (Ep l 0 b' E).sl t) ∧
        ∀ r, ((∃ t sv, t ∈ ts ∧ lkp (Ep l 0 b E).sl t = some sv ∧ r ∈ sv.nms) ∨ ∃ z ∈ E.bx, r ∈ z.2.flatMap LV.nms) → lkp (Ep l 0 b E).rt r = lkp (Ep l 0 b' E).rt r := by
    intro b b' ts hb hb' hts
    refine ⟨fun t ht => ?_, fun r hr => ?_⟩
    · by_cases hex : ∃ (j : Nat) (x : PE), l[j]? = some x ∧ x.1 = some t
      · obtain ⟨j, ⟨x1, x2, x3⟩, hx, rfl⟩ := hex
        rw [lkp_Ep_some l 0 _ E t j x2 x3 hap hx, lkp_Ep_some l 0 _ E t j x2 x3 hap hx, Nat.zero_add, hts t ht j _ hx rfl]
      · have hno : ∀ (j : Nat) (x : PE), l[j]? = some x → x.1 ≠ some t := fun j x hx he => hex ⟨j, x, hx, he⟩
        rw [lkp_Ep_none l 0 _ E t hno, lkp_Ep_none l 0 _ E t hno]
    · refine rt_Ep l 0 b b' E E r rfl fun i x y hx hy => ?_
      rw [Nat.zero_add]
      obtain ⟨oi, ho, hdi, hci, hfi, _⟩ := hldst i x hx
      have hic := hci (fun e => by rw [e] at hy; cases hy)
      have hr1 : fam (dn oi) r = true := hfi _ hy
      have hcl := hcl0 i oi ho hic
      rcases hr with ⟨t, sv, htt, hzt, hrz⟩ | ⟨⟨bb, ls⟩, hz, hrz⟩
      · have hhit : sv.hit (fam (dn oi)) = true := SV.nms_hit hrz hr1
        have hE : lkp E.sl t = some sv → b i = b' i := fun he => by
          rw [hcl.sl t sv he] at hhit
          cases hhit
        by_cases hex : ∃ (j : Nat) (x : PE), l[j]? = some x ∧ x.1 = some t
        · obtain ⟨j, ⟨x1, x2, x3⟩, hxj, rfl⟩ := hex
          have hbb := hts t htt j _ hxj rfl
          have h6 := hzt
          rw [lkp_Ep_some l 0 _ E t j x2 x3 hap hxj, Nat.zero_add] at h6
          split at h6
          · rename_i hbj
            split at h6
            · cases h6
              by_cases hij : i = j
              · rw [hij]; exact hbb
              · obtain ⟨oj, hoj, _, _, _, hclr, _⟩ := hldst j _ hxj
                have h7 := clrL_ok hclr i oi ho hic (by omega) hhit
                rw [Nat.zero_add] at h7
                rw [(closB_lt hd _ _ _ b hb h7).2 hbj, (closB_lt hd _ _ _ b' hb' h7).2 (by rw [← hbb]; exact hbj)]
            · cases h6
          · exact hE h6
        · rw [lkp_Ep_none l 0 _ E t (fun j x hx he => hex ⟨j, x, hx, he⟩)] at hzt
          exact hE hzt
      · have hhit : ls.any (LV.hit (fam (dn oi))) = true := LVs.nms_hit hrz hr1
        have := hclB i oi ho hic (bb, ls) hz
        rw [this] at hhit
        cases hhit
  have main : ∀ (fuel : Nat) (listed : Array Bool) (tag : Nat → Tag) (hv : Hv) (a : Act) (w : World), listed.size = ops.size → cnt ops.size (fun j => listed.getD j true) ≤ fuel →
      (∀ j o, ops[j]? = some o → listed.getD j true = true → ∀ e ∈ o.after.toList, Region.binds .any e = true → listed.getD e.on false = true) →
      St w0 tag0 (EpK l (fun j => listed.getD j true) E) tag hv a w → wpAny P .any ops Q fuel listed a w := by
    intro fuel
    induction fuel with
    | zero =>
      intro listed tag hv a w hsz hc hcl hst
      have hall := cnt_zero (by omega : cnt ops.size (fun j => listed.getD j true) = 0)
      refine ⟨?_, hN _ _ _ _ _ (hst.le (E' := G) ?_) hG⟩
      · refine List.eq_nil_iff_forall_not_mem.2 fun i hi => ?_
        simp only [Region.ready, List.mem_filter, List.mem_range] at hi
        rw [hall i hi.1] at hi
        simp at hi
      · rw [EpK_congr (b' := fun _ => true) (fun j hj => hall j (by omega))]
        exact hGle
    | succ fuel ih =>
      intro listed tag hv a w hsz hc hcl hst
      refine ⟨fun hr => ?_, fun i hi => ?_⟩
      · rcases cnt_ne (n := ops.size) (b := fun j => listed.getD j true) with hall | ⟨i, hi, hb, hlow⟩
        · refine hN _ _ _ _ _ (hst.le (E' := G) ?_) hG
          rw [EpK_congr (b' := fun _ => true) (fun j hj => hall j (by omega))]
          exact hGle
        · exfalso
          have hmem : i ∈ Region.ready .any ops listed := by
            simp only [Region.ready, List.mem_filter, List.mem_range]
            refine ⟨hi, ?_⟩
            have ho : ops[i]? = some ops[i] := Array.getElem?_eq_getElem hi
            rw [hb, ho]
            simp only [Bool.not_false, Bool.true_and, Option.map_some, Option.getD_some]
            rw [← Array.all_toList, List.all_eq_true]
            intro e he
            cases hbi : Region.binds .any e with
            | false => simp
            | true =>
              have hlt := (drawOk_at hd (hget i _ ho)).1 e he hbi
              have h3 := hlow e.on hlt
              simp only [Bool.not_true, Bool.false_or]
              have h4 : e.on < listed.size := by omega
              simp only [Array.getD, h4, dif_pos] at h3 ⊢
              exact h3
          rw [hr] at hmem
          cases hmem
      · simp only [Region.ready, List.mem_filter, List.mem_range, Bool.and_eq_true, Bool.not_eq_true'] at hi
        obtain ⟨hilt, hib, hedges⟩ := hi
        have ho : ops[i]? = some ops[i] := Array.getElem?_eq_getElem hilt
        generalize ops[i] = o at ho
        rw [ho] at hedges
        simp only [Option.map_some, Option.getD_some] at hedges
        rw [← Array.all_toList, List.all_eq_true] at hedges
        have hpred : ∀ e ∈ o.after.toList, Region.binds .any e = true → listed.getD e.on false = true := fun e he hb => by
          have := hedges e he
          rw [hb] at this
          simpa using this
        obtain ⟨sv, rts, ks, Er, hS⟩ := hstep i o (hget i o ho)
        have hlsv := hS.at_
        have hrc := hS.call
        have hrf := hS.fam
        have hd3 := drawOk_at hd (hget i o ho)
        have hTF : ∀ j, j < ops.size → listed.getD j false = listed.getD j true := fun j hj => by
          have : j < listed.size := by omega
          simp [Array.getD, this]
        have hb1 : ∀ j k, listed.getD k true = true → predB ops.toList k j = true → listed.getD j true = true := by
          intro j k hk h
          have h0 := h
          unfold predB at h0
          split at h0
          · rename_i ok hok
            obtain ⟨e, he, hb, rfl⟩ := predB_mem hok h
            have := hcl k ok (by rw [← Array.getElem?_toList]; exact hok) hk e he hb
            simp only [Array.getD] at this ⊢
            split
            · rename_i hlt
              rw [dif_pos hlt] at this
              exact this
            · rfl
          · cases h0
        have hb2 : ∀ j k, decide (k < i) = true → predB ops.toList k j = true → decide (j < i) = true := by
          intro j k hk h
          have h0 := h
          unfold predB at h0
          split at h0
          · rename_i ok hok
            obtain ⟨e, he, hb, rfl⟩ := predB_mem hok h
            have := (drawOk_at hd hok).1 e he hb
            have hk' : k < i := by simpa using hk
            simp
            omega
          · cases h0
        have hkeep := hsame (fun j => decide (j < i)) (fun j => listed.getD j true) (lks ops.toList o) hb2 hb1 (fun t ht j x hx hxt => by
          symm
          obtain ⟨oj, h1, h2, _⟩ := hldst j _ hx
          have hjl : j < ops.size := by simpa using (List.getElem?_eq_some_iff.1 h1).1
          rcases hd3.2.1 t ht j oj h1 (h2.symm.trans hxt) with ⟨h3, h4⟩ | rfl | ⟨h3, h4⟩
          · obtain ⟨e, he, hb, rfl⟩ := predB_mem (hget i o ho) h4
            have := hpred e he hb
            rw [hTF _ hjl] at this
            rw [this]
            simp [h3]
          · rw [hib]; simp
          · obtain ⟨e, he, hb, rfl⟩ := predB_mem h1 h4
            cases hq : listed.getD j true with
            | false => simp; omega
            | true =>
              have := hcl j oj (by rw [← Array.getElem?_toList]; exact h1) hq e he hb
              rw [hTF _ hilt, hib] at this
              cases this)
        have hler : Er.le (EpK l (fun j => listed.getD j true) E) := by
          have hle : Er.le (EpK l (fun j => decide (j < i)) E) := hS.le
          have hno : ∀ r, ((∃ t u, lkp Er.sl t = some u ∧ r ∈ u.nms) ∨ ∃ b ls, lkp Er.bx b = some ls ∧ r ∈ ls.flatMap LV.nms) → Dl l 0 (fun j => listed.getD j true) r = false := fun r hr => by
            cases hq : Dl l 0 (fun j => listed.getD j true) r with
            | false => rfl
            | true =>
              exfalso
              obtain ⟨j, x, hx, hbj, hrx⟩ := Dl_iff.1 hq
              rw [Nat.zero_add] at hbj
              have h1 : Dl l 0 (fun j => decide (j < i)) r = false := by
                rcases hr with ⟨t, u, ht, hr⟩ | ⟨b, ls, hb, hr⟩
                · exact (EpK_sl.1 (hle.sl t u ht)).2 r hr
                · exact (EpK_bx.1 (hle.bx b ls hb)).2.2 r hr
              rcases Nat.lt_trichotomy j i with hlt | rfl | hgt
              · have h2 : Dl l 0 (fun j => decide (j < i)) r = true := Dl_iff.2 ⟨j, x, hx, by simpa using hlt, hrx⟩
                rw [h2] at h1
                cases h1
              · rw [hib] at hbj
                cases hbj
              · have h2 := hS.hist j x hgt hx r hr hrx
                rw [Nat.zero_add, Nat.zero_add] at h2
                have h3 := (closB_lt hd _ _ _ (fun j => listed.getD j true) hb1 h2).2 hbj
                simp only [hib] at h3
                cases h3
          refine ⟨?_, fun t u ht => ?_, fun b ls hb => ?_, fun r y hr => ?_⟩
          · exact hle.nt.trans ((Ep_rest l 0 _ E).1.trans (Ep_rest l 0 _ E).1.symm)
          · have h1 := (EpK_sl.1 (hle.sl t u ht)).1
            rw [hkeep.1 t (hS.inn.sl t u ht)] at h1
            exact EpK_sl.2 ⟨h1, fun r hr => hno r (.inl ⟨t, u, ht, hr⟩)⟩
          · have h1 := (EpK_bx.1 (hle.bx b ls hb)).1
            exact EpK_bx.2 ⟨h1, hno b (.inl (hS.inn.bx b ls hb)), fun r hr => hno r (.inr ⟨b, ls, hb, hr⟩)⟩
          · have h1 := EpK_rt.1 (hle.rt r y hr)
            have h2 := hS.inn.rt r y hr
            rw [hkeep.2 r (h2.imp (fun ⟨t, u, q1, q2⟩ => ⟨t, u, hS.inn.sl t u q1, (EpK_sl.1 (hle.sl t u q1)).1, q2⟩) fun ⟨b, ls, q1, q2⟩ => ⟨(b, ls), lkp_mem' (EpK_bx.1 (hle.bx b ls q1)).1, q2⟩)] at h1
            exact EpK_rt.2 ⟨h1.1, hno r h2⟩
        have hother : ∀ (j : Nat) (z : PE) (u : Md × Lf) (r : Nat), isCallO o = true → fam (dn o) r = true → j ≠ i → l[j]? = some z → (r, u) ∉ z.2.2.1 := fun j z u r hio hr hj hz hm => by
          obtain ⟨oj, h1, h2, h3, h4, _⟩ := hldst j z hz
          have h5 := isCallO_dst (h3 (fun e => by rw [e] at hm; cases hm))
          have h6 := isCallO_dst hio
          have h7 := h4 _ hm
          simp only [fam, beq_iff_eq] at h7 hr
          rw [show dn oj = dn o by omega] at h5
          exact hj ((drawOk_at hd (hget i o ho)).2.2 j oj (dn o) h1 h5 h6)
        have hclean0 : isCallO o = true → (Ep l 0 (fun j => listed.getD j true) E).cl (fam (dn o)) := fun hio => by
          have hc := hcl0 i o (hget i o ho) hio
          refine ⟨fun t sv ht => ?_, fun b ls hb => hc.bx b ls (by rwa [(Ep_rest l 0 _ E).2] at hb), fun r y hr => ?_⟩
          · by_cases hex : ∃ (j : Nat) (x : PE), l[j]? = some x ∧ x.1 = some t
            · obtain ⟨j, ⟨x1, x2, x3⟩, hx, rfl⟩ := hex
              rw [lkp_Ep_some l 0 _ E t j x2 x3 hap hx, Nat.zero_add] at ht
              split at ht
              · rename_i hbj
                split at ht
                · cases ht
                  have hij : i ≠ j := fun e => by subst e; rw [hib] at hbj; cases hbj
                  obtain ⟨oj, hoj, _, _, _, hclr, _⟩ := hldst j _ hx
                  cases hq : SV.hit (fam (dn o)) sv with
                  | false => rfl
                  | true =>
                    have h7 := clrL_ok hclr i o (hget i o ho) hio (by omega) hq
                    rw [Nat.zero_add] at h7
                    have := (closB_lt hd _ _ _ (fun j => listed.getD j true) hb1 h7).2 hbj
                    simp only [hib] at this
                    cases this
                · cases ht
              · exact hc.sl t sv ht
            · rw [lkp_Ep_none l 0 _ E t (fun j x hx he => hex ⟨j, x, hx, he⟩)] at ht
              exact hc.sl t sv ht
          · rcases rt_Ep_mem l 0 _ E r y hr with ⟨j, x, hx, hbj, hm⟩ | hr
            · rw [Nat.zero_add] at hbj
              cases hq : fam (dn o) r with
              | false => rfl
              | true => exact absurd hm (hother j x y r hio hq (fun e => by subst e; simp only [hib] at hbj; cases hbj) hx)
            · exact hc.rt r y hr
        have hclean : isCallO o = true → (EpK l (fun j => listed.getD j true) E).cl (fam (dn o)) := fun hio => by
          have := hclean0 hio
          exact ⟨fun t sv h => this.sl t sv (EpK_sl.1 h).1, fun b ls h => this.bx b ls (by rw [(Ep_rest l 0 _ E).2]; exact (EpK_bx.1 h).1), fun r y h => this.rt r y (EpK_rt.1 h).1⟩
        have hgo := hS.step w0 tag0 _ tag hv a w (wpAny P .any ops Q fuel (listed.setIfInBounds i true)) Q hst hler hclean (fun tag' hv' v w' hst' => by
          have hb' : ∀ j, (listed.setIfInBounds i true).getD j true = if j = i then true else listed.getD j true := by
            intro j
            simp only [Array.getD_eq_getD_getElem?, Array.getElem?_setIfInBounds]
            by_cases e : i = j
            · subst e
              have : i < listed.size := by omega
              simp [this]
            · have e' : ¬ j = i := fun h => e h.symm
              simp [e, e']
          refine ih _ tag' hv' _ w' (by simpa using hsz) ?_ ?_ ?_
          · have := cnt_up (n := ops.size) (b := fun j => listed.getD j true) (b' := fun j => (listed.setIfInBounds i true).getD j true) hilt hib (by simp [hb']) (fun j hj => by simp [hb', hj])
            omega
          · intro j oj hoj hj e he hb
            have hx : listed.getD e.on false = true := by
              rw [hb'] at hj
              split at hj
              · rename_i hji
                subst hji
                rw [ho] at hoj
                cases hoj
                exact hpred e he hb
              · exact hcl j oj hoj hj e he hb
            simp only [Array.getD_eq_getD_getElem?, Array.getElem?_setIfInBounds] at hx ⊢
            split
            · rename_i hh
              split <;> simp
              omega
            · exact hx
          · have e1 := Ep_rest l 0 (fun j => listed.getD j true) E
            have e2 := Ep_rest l 0 (fun j => (listed.setIfInBounds i true).getD j true) E
            have e3 := put_rest (E := (Ep l 0 (fun j => listed.getD j true) E).addR rts) (x := o.dst) (sv := sv)
            have hZ : (∀ t, lkp (Ep l 0 (fun j => (listed.setIfInBounds i true).getD j true) E).sl t = lkp (((Ep l 0 (fun j => listed.getD j true) E).addR rts).put o.dst sv).sl t) ∧ ∀ r, lkp (Ep l 0 (fun j => (listed.setIfInBounds i true).getD j true) E).rt r = lkp (((Ep l 0 (fun j => listed.getD j true) E).addR rts).put o.dst sv).rt r := by
             refine ⟨fun t => ?_, fun r => ?_⟩
             · rw [lkp_put]
               by_cases hex : ∃ (j : Nat) (x : PE), l[j]? = some x ∧ x.1 = some t
               · obtain ⟨j, ⟨x1, x2, x3⟩, hx, rfl⟩ := hex
                 rw [lkp_Ep_some l 0 _ E t j x2 x3 hap hx, Nat.zero_add, hb']
                 by_cases hji : j = i
                 · subst hji
                   rw [hlsv] at hx
                   simp only [Option.some.injEq, Prod.mk.injEq] at hx
                   obtain ⟨h1, rfl, rfl⟩ := hx
                   rw [if_pos rfl, if_pos rfl, if_pos h1]
                   rw [show ((Ep l 0 (fun j => listed.getD j true) E).addR rts).nt = E.nt from e1.1]
                 · rw [if_neg hji, if_neg (fun he => hji (hap j i _ _ t hx hlsv rfl he))]
                   refine Eq.trans ?_ (lkp_Ep_some l 0 _ E t j x2 x3 hap hx).symm
                   rw [Nat.zero_add]
               · have hno : ∀ (j : Nat) (x : PE), l[j]? = some x → x.1 ≠ some t := fun j x hx he => hex ⟨j, x, hx, he⟩
                 rw [lkp_Ep_none l 0 _ E t hno, if_neg (hno i _ hlsv)]
                 exact (lkp_Ep_none l 0 _ E t hno).symm
             · rw [e3.2.2]
               simp only [Env.addR, lkp_app]
               cases hx : lkp rts r with
               | some y =>
                 have hm := lkp_mem hx
                 have hio := hrc (fun e => by rw [e] at hm; cases hm)
                 exact rt_Ep_at l 0 _ E r i _ y hlsv hx (by simp only [hb', Nat.zero_add, if_true]) (fun j z u hj hz => hother j z u r hio (hrf _ hm) hj hz)
               | none =>
                 refine rt_Ep l 0 _ _ E E r rfl fun j z y hz hy => ?_
                 simp only [hb', Nat.zero_add]
                 split
                 · rename_i hji
                   subst hji
                   rw [hlsv] at hz
                   cases hz
                   exfalso
                   have : ∀ (L : RT), (r, y) ∈ L → lkp L r ≠ none := by
                     intro L
                     induction L with
                     | nil => intro h; cases h
                     | cons q L ih =>
                       intro h
                       simp only [lkp]
                       split
                       · simp
                       · rename_i hne
                         rcases List.mem_cons.1 h with e | h
                         · exact absurd (congrArg Prod.fst e).symm hne
                         · exact ih h
                   exact this _ hy hx
                 · rfl
            have e4 := put_rest (E := (EpK l (fun j => listed.getD j true) E).addR rts) (x := o.dst) (sv := sv)
            have hDn : ∀ r, Dl l 0 (fun j => (listed.setIfInBounds i true).getD j true) r = false → Dl l 0 (fun j => listed.getD j true) r = false ∧ r ∉ ks := fun r hr => by
              constructor
              · cases hq : Dl l 0 (fun j => listed.getD j true) r with
                | false => rfl
                | true =>
                  obtain ⟨j, x, h1, h2, h3⟩ := Dl_iff.1 hq
                  have : Dl l 0 (fun j => (listed.setIfInBounds i true).getD j true) r = true := Dl_iff.2 ⟨j, x, h1, by
                    simp only [Nat.zero_add] at h2 ⊢
                    rw [hb']
                    split
                    · rfl
                    · exact h2, h3⟩
                  rw [this] at hr
                  cases hr
              · intro hk
                have : Dl l 0 (fun j => (listed.setIfInBounds i true).getD j true) r = true := Dl_iff.2 ⟨i, _, hlsv, by
                  simp only [Nat.zero_add, hb', if_true], hk⟩
                rw [this] at hr
                cases hr
            refine hst'.le ⟨e2.1.trans (e4.1.trans e1.1).symm, fun t u ht => ?_, fun b ls hb => ?_, fun r y hr => ?_⟩
            · obtain ⟨h1, h2⟩ := EpK_sl.1 ht
              refine lkp_klS.2 ⟨?_, ?_⟩
              · rw [hZ.1, lkp_put] at h1
                rw [lkp_put]
                split at h1
                · rename_i hx
                  rw [if_pos hx]
                  exact h1
                · rename_i hx
                  rw [if_neg hx]
                  exact EpK_sl.2 ⟨h1, fun r hr => (hDn r (h2 r hr)).1⟩
              · rw [List.any_eq_false]
                intro r hr hk
                exact (hDn r (h2 r hr)).2 (inL_mem.1 hk)
            · obtain ⟨h1, h2, h3⟩ := EpK_bx.1 hb
              refine lkp_bxS.2 ⟨?_, inL_false.2 (hDn b h2).2, ?_⟩
              · rw [e4.2.1]
                exact EpK_bx.2 ⟨h1, (hDn b h2).1, fun r hr => (hDn r (h3 r hr)).1⟩
              · rw [List.any_eq_false]
                intro r hr hk
                exact (hDn r (h3 r hr)).2 (inL_mem.1 hk)
            · obtain ⟨h1, h2⟩ := EpK_rt.1 hr
              refine lkp_delD'.2 ⟨?_, inL_false.2 (hDn r h2).2⟩
              rw [hZ.2, e3.2.2] at h1
              rw [e4.2.2]
              simp only [Env.addR, lkp_app] at h1 ⊢
              split at h1
              · exact h1
              · exact EpK_rt.2 ⟨h1, (hDn r h2).1⟩)
        unfold wpOp
        rw [ho]
        simp only
        split
        · rename_i hw
          rw [if_pos hw] at hgo
          exact .inl hgo
        · rename_i hw
          rw [if_neg hw] at hgo
          exact hgo
  refine main ops.size _ tag hv a _ (by simp) ?_ (fun j o ho hj => ?_) ?_
  · unfold cnt
    exact Nat.le_trans (List.length_filter_le _ _) (by simp)
  · exfalso
    have hjl : j < ops.size := (Array.getElem?_eq_some_iff.1 ho).1
    simp [Array.getD, hjl] at hj
  · refine St.le (E := Ep l 0 (fun j => (Array.replicate ops.size false).getD j true) E) ?_ (Env.killD_le _ _)
    rw [show Ep l 0 (fun j => (Array.replicate ops.size false).getD j true) E = E from ?_]
    · exact hs.drew
    · rw [Ep_congr l 0 _ (fun _ => false) E (fun j _ hj => by
        have : j < ops.size := by omega
        simp [Array.getD, this])]
      have : ∀ (l : PL) (k : Nat) (E : Env), Ep l k (fun _ => false) E = E := by
        intro l
        induction l with
        | nil => intros; rfl
        | cons x r ih => intro k E; simp only [Ep]; rw [ih]; simp
      exact this l 0 E
theorem evD_region (hT:TGood P ti) (hm:P.follows .mixedOrders=true) {id:Nat} {bb:Bool} {ops:Array Oper} (hd:drawOk ops.toList=true) (h:evD P ti bb ops.toList ops.toList 0 K [] [] (E.fresh (famA ops.toList))) (hs:St w0 tag0 E tag hv a w)
  (hN: ∀E' tag' hv' a' w',St w0 tag0 E' tag' hv' a' w'→K E'→Q .normal a' w'):(Code.region id ops true).wp P Q a w:=wp_region_any hm (evD_any hT hd h hs hN)
def tailOk (pre:List Oper) (st:Oper):Bool:=
 st.guard.isNone&& (List.range pre.length).all (fun j=>st.after.toList.any fun e=>Region.binds .any e&&e.on==j)&&
 st.after.toList.all (fun e=> !Region.binds .any e||decide (e.on<pre.length))&&
 pre.all (fun o=>match o.guard with|some (j,_)=>decide (j<pre.length)|none=>true)
def Qt (P:Program) (st:Oper) (Q:Exit→Act→World→Prop):Exit→Act→World→Prop:=fun e a w=>match e with
 | .normal=>st.wp P a w (Q .normal) Q
 |e=>Q e a w
theorem wp_congrQ {o:Oper} {N:Act→World→Prop} {Q Q':Exit→Act→World→Prop} (h: ∀e a w,e≠ .normal→Q e a w→Q' e a w) (hh:o.wp P a w N Q):o.wp P a w N Q':=by
 have hl:LetsOut Q→LetsOut Q':=fun ⟨a,w,q⟩=>⟨a,w,h _ _ _ (by simp) q⟩
 unfold Oper.wp at*
 generalize (execOp a.eval o).run P w=r at*
 cases r with
 |ok n w'=>
  cases n<;>simp only[Oper.upon] at hh⊢ <;>
   first
    |exact hh
    |exact Calls.mono hh (fun e w'' he=>by cases e<;>first|exact he|exact h _ _ _ (by simp) he|exact hl he)
 |halt x w'=>cases x<;>simp only[Oper.upon] at hh⊢ <;>first|exact hh|exact h _ _ _ (by simp) hh
theorem mem_ready {ops:Array Oper} {listed:Array Bool} {i:Nat}:i∈Region.ready .any ops listed↔i<ops.size∧listed.getD i true=false∧ ∃o,ops[i]? =some o∧ ∀e∈o.after.toList,Region.binds .any e=true→listed.getD e.on false=true:=by
 simp only[Region.ready,List.mem_filter,List.mem_range,Bool.and_eq_true,Bool.not_eq_true']
 constructor
 ·rintro ⟨h1,h2,h3⟩
  refine ⟨h1,h2,ops[i],Array.getElem?_eq_getElem h1,fun e he hb=> ?_⟩
  rw[Array.getElem?_eq_getElem h1] at h3
  simp only[Option.map_some,Option.getD_some] at h3
  rw[←Array.all_toList,List.all_eq_true] at h3
  have:=h3 e he
  rw[hb] at this
  simpa using this
 ·rintro ⟨h1,h2,o,h3,h4⟩
  refine ⟨h1,h2, ?_⟩
  rw[h3]
  simp only[Option.map_some,Option.getD_some]
  rw[←Array.all_toList,List.all_eq_true]
  intro e he
  cases hb:Region.binds .any e with
  |false=>simp
  |true=>simp[h4 e he hb]
def edgB (ops:List Oper):Bool:=(List.range ops.length).all fun i=>match ops[i]? with
 |some o=>o.after.toList.all fun e=> !Region.binds .any e||decide (e.on<i)
 |none=>true
theorem edgB_at {ops:List Oper} (h:edgB ops=true) {i:Nat} {o:Oper} (ho:ops[i]? =some o): ∀e∈o.after.toList,Region.binds .any e=true→e.on<i:=by
 have hi:i<ops.length:=(List.getElem?_eq_some_iff.1 ho).1
 have h1:=List.all_eq_true.1 h i (List.mem_range.2 hi)
 simp only[ho,List.all_eq_true] at h1
 intro e he hb
 have:=h1 e he
 rw[hb] at this
 simpa using this
theorem edgB_of {ops:List Oper} (h:drawOk ops=true):edgB ops=true:=by
 unfold edgB
 rw[List.all_eq_true]
 intro i hi
 cases ho:ops[i]? with
 |none=>rfl
 |some o=>
  simp only[List.all_eq_true]
  intro e he
  cases hb:Region.binds .any e with
  |false=>rfl
  |true=>simpa using (drawOk_at h ho).1 e he hb
theorem ready_nil {pre:Array Oper} {listed:Array Bool} (hd:edgB pre.toList=true) (hsz:listed.size=pre.size) (h:Region.ready .any pre listed= []): ∀j,j<pre.size→listed.getD j true=true:=by
 rcases cnt_ne (n:=pre.size) (b:=fun j=>listed.getD j true) with hall|⟨i,hi,hb,hlow⟩
 ·exact hall
 ·exfalso
  have ho:pre[i]? =some pre[i]:=Array.getElem?_eq_getElem hi
  have:i∈Region.ready .any pre listed:=mem_ready.2 ⟨hi,hb,_,ho,fun e he hbi=>by
   have hlt:=edgB_at hd (by rw[Array.getElem?_toList];exact ho) e he hbi
   have h3:=hlow e.on hlt
   have h4:e.on<listed.size:=by omega
   simp only[Array.getD,h4,dif_pos] at h3⊢
   exact h3⟩
  rw[h] at this
  cases this
theorem wpAny_done {ops:Array Oper}: ∀ (f:Nat) (listed:Array Bool),Region.ready .any ops listed= []→Q .normal a w→wpAny P .any ops Q f listed a w
 |0,_,h,hq=>⟨h,hq⟩
 |f+1,_,h,hq=>⟨fun _=>hq,fun i hi=>by rw[h] at hi;cases hi⟩
theorem getD_push {listed:Array Bool} {n j:Nat} {d:Bool} (hsz:listed.size=n) (hj:j<n):(listed.push false).getD j d=listed.getD j d:=by
 have h1:j<listed.size:=by omega
 have h2:j< (listed.push false).size:=by simp;omega
 simp only[Array.getD,h1,h2,dif_pos]
 exact Array.getElem_push_lt h1
theorem set_push {listed:Array Bool} {i:Nat} (hi:i<listed.size):(listed.push false).setIfInBounds i true=(listed.setIfInBounds i true).push false:=by
 apply Array.ext_getElem?
 intro j
 grind
theorem wpAny_tail {pre:Array Oper} {st:Oper} (hd:edgB pre.toList=true) (ht:tailOk pre.toList st=true): ∀ (fuel:Nat) (listed:Array Bool) (a:Act) (w:World),listed.size=pre.size→
  wpAny P .any pre (Qt P st Q) fuel listed a w→wpAny P .any (pre.push st) Q (fuel+1) (listed.push false) a w:=by
 simp only[tailOk,Bool.and_eq_true,Option.isNone_iff_eq_none,List.all_eq_true,List.mem_range,Array.length_toList,List.any_eq_true,beq_iff_eq] at ht
 obtain ⟨⟨⟨ht1,ht2⟩,ht3⟩,ht4⟩:=ht
 have hlast:(pre.push st)[pre.size]? =some st:=by simp
 have hold: ∀i,i<pre.size→(pre.push st)[i]? =pre[i]? :=fun i hi=>by
  rw[Array.getElem?_push,if_neg (by omega)]
 have hedge: ∀e∈st.after.toList,Region.binds .any e=true→e.on<pre.size:=fun e he hb=>by
  have:=ht3 e he
  rw[hb] at this
  simpa using this
 have finish: ∀ (f:Nat) (listed:Array Bool) (a:Act) (w:World),listed.size=pre.size→Region.ready .any pre listed= []→st.wp P a w (Q .normal) Q→wpAny P .any (pre.push st) Q (f+1) (listed.push false) a w:=by
  intro f listed a w hsz hr hq
  have hall:=ready_nil hd hsz hr
  have hD: ∀j,j<pre.size→listed.getD j false=true:=fun j hj=>by
   have:=hall j hj
   have h1:j<listed.size:=by omega
   simp only[Array.getD,h1,dif_pos] at this⊢
   exact this
  have hmem:pre.size∈Region.ready .any (pre.push st) (listed.push false):=mem_ready.2 ⟨by simp,by rw[←hsz];simp[Array.getD],st,hlast,fun e he hb=>by
   rw[getD_push hsz (hedge e he hb)]
   exact hD _ (hedge e he hb)⟩
  refine ⟨fun h=>absurd hmem (by rw[h];simp),fun i hi=> ?_⟩
  obtain ⟨h1,h2,_⟩:=mem_ready.1 hi
  have hin:i=pre.size:=by
   simp only[Array.size_push] at h1
   rcases Nat.lt_or_ge i pre.size with h|h
   ·rw[getD_push hsz h,hall i h] at h2
    cases h2
   ·omega
  subst hin
  unfold wpOp
  rw[hlast]
  simp only[Region.wanted,ht1,if_true]
  refine .inl (Oper.wp_mono (fun a' w' hq'=>wpAny_done f _ ?_ hq') hq)
  refine List.eq_nil_iff_forall_not_mem.2 fun j hj=> ?_
  obtain ⟨q1,q2,_⟩:=mem_ready.1 hj
  simp only[Array.size_push] at q1
  by_cases e:j=pre.size
  ·subst e
   simp[Array.getD,hsz] at q2
  ·have hjl:j<pre.size:=by omega
   have h3:((listed.push false).setIfInBounds pre.size true).getD j true=(listed.push false).getD j true:=by
    simp only[Array.getD_eq_getD_getElem?,Array.getElem?_setIfInBounds]
    rw[if_neg (by omega)]
   rw[h3,getD_push hsz hjl,hall j hjl] at q2
   cases q2
 intro fuel
 induction fuel with
 |zero=>
  intro listed a w hsz h
  exact finish 0 listed a w hsz h.1 h.2
 |succ fuel ih=>
  intro listed a w hsz h
  by_cases hr:Region.ready .any pre listed= []
  ·exact finish (fuel+1) listed a w hsz hr (h.1 hr)
  ·have hcase: ∀i,i∈Region.ready .any (pre.push st) (listed.push false)↔i∈Region.ready .any pre listed:=fun i=>by
    constructor
    ·intro hi
     obtain ⟨h1,h2,o,h3,h4⟩:=mem_ready.1 hi
     simp only[Array.size_push] at h1
     by_cases e:i=pre.size
     ·exfalso
      subst e
      rw[hlast] at h3
      cases h3
      apply hr
      refine List.eq_nil_iff_forall_not_mem.2 fun j hj=> ?_
      obtain ⟨q1,q2,_⟩:=mem_ready.1 hj
      obtain ⟨e,he,hb,hej⟩:=ht2 j q1
      have:=h4 e he hb
      rw[hej,getD_push hsz q1] at this
      have hjs:j<listed.size:=by omega
      simp only[Array.getD,hjs,dif_pos] at this q2
      rw[this] at q2
      cases q2
     ·have hil:i<pre.size:=by omega
      rw[hold i hil] at h3
      rw[getD_push hsz hil] at h2
      refine mem_ready.2 ⟨hil,h2,o,h3,fun e he hb=> ?_⟩
      have hlt:=edgB_at hd (by rw[Array.getElem?_toList];exact h3) e he hb
      have:=h4 e he hb
      rwa [getD_push hsz (by omega)] at this
    ·intro hi
     obtain ⟨h1,h2,o,h3,h4⟩:=mem_ready.1 hi
     refine mem_ready.2 ⟨by simp;omega,by rw[getD_push hsz h1];exact h2,o,by rw[hold i h1];exact h3,fun e he hb=> ?_⟩
     have hlt:=edgB_at hd (by rw[Array.getElem?_toList];exact h3) e he hb
     rw[getD_push hsz (by omega)]
     exact h4 e he hb
   refine ⟨fun hn=> ?_,fun i hi=> ?_⟩
   ·exfalso
    apply hr
    refine List.eq_nil_iff_forall_not_mem.2 fun j hj=> ?_
    have:=(hcase j).2 hj
    rw[hn] at this
    cases this
   ·have hi':=(hcase i).1 hi
    obtain ⟨h1,_,o,h3,_⟩:=mem_ready.1 hi'
    have h5:=h.2 i hi'
    unfold wpOp at h5⊢
    rw[hold i h1]
    rw[h3] at h5⊢
    simp only at h5⊢
    have hw:Region.wanted o (yielded (pre.push st) a.tmps)=Region.wanted o (yielded pre a.tmps):=by
     unfold Region.wanted
     cases hg:o.guard with
     |none=>rfl
     |some x=>
      obtain ⟨j,b⟩:=x
      have hm:o∈pre.toList:=by
       rw[←Array.getElem?_toList] at h3
       exact List.mem_of_getElem? h3
      have:=ht4 o hm
      rw[hg] at this
      simp only[decide_eq_true_eq] at this
      simp only[yielded,hold j this]
    have hstep: ∀a' w',wpAny P .any pre (Qt P st Q) fuel (listed.setIfInBounds i true) a' w'→wpAny P .any (pre.push st) Q (fuel+1) ((listed.push false).setIfInBounds i true) a' w':=fun a' w' hq=>by
     rw[set_push (by omega)]
     exact ih _ a' w' (by simpa using hsz) hq
    have hQ: ∀e a w,e≠Exit.normal→Qt P st Q e a w→Q e a w:=fun e a w he hq=>by
     cases e<;>first|exact absurd rfl he|exact hq
    rw[hw]
    split at h5
    ·rename_i hwt
     rw[if_pos hwt]
     rcases h5 with h5|⟨h5,a1,w1,h6⟩
     ·exact .inl (wp_congrQ hQ (Oper.wp_mono hstep h5))
     ·exact .inr ⟨h5,a1,w1,h6⟩
    ·rename_i hwt
     rw[if_neg hwt]
     exact hstep _ _ h5
theorem evD_tail (hT:TGood P ti) (hm:P.follows .mixedOrders=true) {id:Nat} {bb:Bool} {pre:Array Oper} {st:Oper} (hd:drawOk pre.toList=true) (ht:tailOk pre.toList st=true)
  (h:evD P ti bb pre.toList pre.toList 0 (fun E=>evU P ti st K E) [] [] (E.fresh (famA pre.toList))) (hs:St w0 tag0 E tag hv a w)
  (hN: ∀E' tag' hv' a' w',St w0 tag0 E' tag' hv' a' w'→K E'→Q .normal a' w'):(Code.region id (pre.push st) true).wp P Q a w:=by
 refine wp_region_any hm ?_
 have h1:=evD_any (Q:=Qt P st Q) hT hd h hs (fun E' tag' hv' a' w' hs' hk=>evU_ok hT hs' hk hN)
 have h2:=wpAny_tail (edgB_of hd) ht pre.size _ _ _ (by simp) h1
 have h3:(Array.replicate pre.size false).push false=Array.replicate (pre.push st).size false:=by
  rw[Array.size_push,Array.replicate_succ]
 rw[h3] at h2
 rw[Array.size_push] at h2⊢
 exact h2
theorem evD_tail2 (hT:TGood P ti) (hm:P.follows .mixedOrders=true) {id:Nat} {bb:Bool} {pre:Array Oper} {st as:Oper} (hd:drawOk pre.toList=true) (ht:tailOk pre.toList st=true) (hd2:edgB (pre.push st).toList=true) (ht2:tailOk (pre.push st).toList as=true)
  (h:evD P ti bb pre.toList pre.toList 0 (fun E=>evU P ti st (fun E=>evU P ti as K E) E) [] [] (E.fresh (famA pre.toList))) (hs:St w0 tag0 E tag hv a w)
  (hN: ∀E' tag' hv' a' w',St w0 tag0 E' tag' hv' a' w'→K E'→Q .normal a' w'):(Code.region id ((pre.push st).push as) true).wp P Q a w:=by
 refine wp_region_any hm ?_
 have h1:=evD_any (Q:=Qt P st (Qt P as Q)) hT hd h hs (fun E' tag' hv' a' w' hs' hk=>evU_ok hT hs' hk (fun E2 tag2 hv2 a2 w2 hs2 hk2=>evU_ok hT hs2 hk2 hN))
 have h2:=wpAny_tail (edgB_of hd) ht pre.size _ _ _ (by simp) h1
 have h3:=wpAny_tail hd2 ht2 _ _ _ _ (by simp) h2
 have h4:((Array.replicate pre.size false).push false).push false=Array.replicate ((pre.push st).push as).size false:=by
  rw[Array.size_push,Array.size_push,Array.replicate_succ,Array.replicate_succ]
 rw[h4] at h3
 rw[Array.size_push,Array.size_push] at h3⊢
 exact h3
def looseX (pre:List Oper) (st:Oper):Nat:=((List.range pre.length).find? fun j=> !(st.after.toList.any fun e=>Region.binds .any e&&e.on==j)).getD 0
def opdNot (t:Nat):Operand→Bool
 | .tmp s=>s !=t
 | .const _=>true
 |_=>false
def looseOk (pre:List Oper) (st:Oper):Bool:=
 st.guard.isNone&&st.dst.isNone&&
 (match pre[looseX pre st]? with
 |some xo=>xo.guard.isNone&& (match xo.op,xo.dst,st.op with| .extract (.tmp _) _,some t,.store _ p q=>opdNot t p&&opdNot t q|_,_,_=>false)
 |none=>false)&&
 (List.range pre.length).all (fun j=>j==looseX pre st||st.after.toList.any fun e=>Region.binds .any e&&e.on==j)&&
 st.after.toList.all (fun e=> !Region.binds .any e||decide (e.on<pre.length))&&
 pre.all (fun o=>match o.guard with|some (j,_)=>decide (j<pre.length)|none=>true)
def QN (Q:Exit→Act→World→Prop):Exit→Act→World→Prop:=fun e a w=>e= .normal∧Q .normal a w
theorem extract_run {xo:Oper} {s i:Nat} {t:Nat} {N:Act→World→Prop} {R:Exit→Act→World→Prop} (_hR: ∀e a w,e≠ .normal→ ¬R e a w) (ho:xo.op= .extract (.tmp s) i) (hd:xo.dst=some t) (h:xo.wp P a w N R):
  ∃v,(∀w',(execOp a.eval xo).run P w'= .ok (.value v) w')∧N (a.put (some t) v) w:=by
 unfold Oper.wp at h
 cases hx:a.eval (.tmp s) with
 |tuple vs=>
  cases hv:vs[i]? with
  |some v=>
   have hr: ∀w',(execOp a.eval xo).run P w'= .ok (.value v) w':=fun w'=>by simp[execOp,ho,hx,Instr.extract,hv]
   rw[hr w] at h
   simp only[Oper.upon,hd] at h
   exact ⟨v,hr,h⟩
  |none=>
   simp[execOp,ho,hx,Instr.extract,hv,stuck,Oper.upon] at h
 |_=>simp[execOp,ho,hx,Instr.extract,stuck,Oper.upon] at h
theorem eval_putN {t:Nat} {v:Value} {p:Operand} (h:opdNot t p=true):(a.put (some t) v).eval p=a.eval p:=by
 cases p with
 |tmp s=>
  simp only[opdNot,bne_iff_ne,ne_eq] at h
  simp only[Act.put,Act.eval,Array.getD_eq_getD_getElem?,Array.getElem?_setIfInBounds]
  rw[if_neg (fun e=>h e.symm)]
 |const c=>rfl
 |_=>cases h
theorem store_swap {st:Oper} {t ty:Nat} {v:Value} {p q:Operand} {N:Act→World→Prop} {R:Exit→Act→World→Prop} (hR: ∀e a w,e≠ .normal→ ¬R e a w) (ho:st.op= .store ty p q) (hd:st.dst=none) (hp:opdNot t p=true) (hq:opdNot t q=true)
  (h:st.wp P (a.put (some t) v) w N R):st.wp P a w (fun a' w'=>a'=a∧N (a.put (some t) v) w') R:=by
 unfold Oper.wp at h⊢
 have he:execOp (a.put (some t) v).eval st=execOp a.eval st:=by
  simp only[execOp,ho,eval_putN hp,eval_putN hq]
 rw[he] at h
 have hsk: ∀n w',(execOp a.eval st).run P w= .ok n w'→n= .skip:=fun n w' hn=>by
  simp only[execOp,ho,Sem.run_bind] at hn
  cases hs:(Instr.storeAt ty (a.eval p) (a.eval q)).run P w with
  |ok u w''=>rw[hs] at hn;simp only[Result.andThen_ok,Sem.run_pure] at hn;cases hn;rfl
  |halt x w''=>rw[hs] at hn;cases hn
 cases hr:(execOp a.eval st).run P w with
 |ok n w'=>
  obtain rfl:=hsk n w' hr
  rw[hr] at h
  simp only[Oper.upon,hd,Act.put] at h⊢
  exact ⟨by first|rfl|trivial,h⟩
 |halt x w'=>
  rw[hr] at h
  cases x<;>simp only[Oper.upon] at h<;>first|exact h.elim|exact (hR _ _ _ (by simp) h).elim
theorem getD_setT {l:Array Bool} {j:Nat} {d:Bool} (h:j<l.size):(l.setIfInBounds j true).getD j d=true:=by
 simp[Array.getD,h]
theorem wpAny_loose {pre:Array Oper} {st:Oper} (hd:edgB pre.toList=true) (ht:looseOk pre.toList st=true) (hR: ∀e a w,e≠ .normal→ ¬Q e a w): ∀ (fuel:Nat) (listed:Array Bool) (a:Act) (w:World),listed.size=pre.size→
  wpAny P .any pre (Qt P st Q) fuel listed a w→wpAny P .any (pre.push st) Q (fuel+1) (listed.push false) a w:=by
 simp only[looseOk,Bool.and_eq_true,Option.isNone_iff_eq_none,List.all_eq_true,List.mem_range,Array.length_toList,Bool.or_eq_true,List.any_eq_true,beq_iff_eq] at ht
 generalize looseX pre.toList st=x at ht
 obtain ⟨⟨⟨⟨⟨ht1,htd⟩,htx⟩,ht2⟩,ht3⟩,ht4⟩:=ht
 obtain ⟨xo,hxo,hxg,s,ix,t,ty,p,q,hxop,hxd,hst,hp,hq⟩: ∃xo,pre[x]? =some xo∧xo.guard=none∧ ∃s ix t ty p q,xo.op= .extract (.tmp s) ix∧xo.dst=some t∧st.op= .store ty p q∧opdNot t p=true∧opdNot t q=true:=by
  split at htx
  ·rename_i xo hxo
   rw[Bool.and_eq_true] at htx
   obtain ⟨h1,h2⟩:=htx
   split at h2
   ·rename_i s ix t ty p q e1 e2 e3
    rw[Bool.and_eq_true] at h2
    exact ⟨xo,by rw[←Array.getElem?_toList];exact hxo,by simpa using h1,s,ix,t,ty,p,q,e1,e2,e3,h2.1,h2.2⟩
   ·cases h2
  ·cases htx
 have hxl:x<pre.size:=(Array.getElem?_eq_some_iff.1 hxo).1
 have hlast:(pre.push st)[pre.size]? =some st:=by simp
 have hold: ∀i,i<pre.size→(pre.push st)[i]? =pre[i]? :=fun i hi=>by
  rw[Array.getElem?_push,if_neg (by omega)]
 have hedge: ∀e∈st.after.toList,Region.binds .any e=true→e.on<pre.size:=fun e he hb=>by
  have:=ht3 e he
  rw[hb] at this
  simpa using this
 have finish: ∀ (f:Nat) (listed:Array Bool) (a:Act) (w:World),listed.size=pre.size→Region.ready .any pre listed= []→st.wp P a w (Q .normal) Q→wpAny P .any (pre.push st) Q (f+1) (listed.push false) a w:=by
  intro f listed a w hsz hr hq
  have hall:=ready_nil hd hsz hr
  have hD: ∀j,j<pre.size→listed.getD j false=true:=fun j hj=>by
   have:=hall j hj
   have h1:j<listed.size:=by omega
   simp only[Array.getD,h1,dif_pos] at this⊢
   exact this
  have hmem:pre.size∈Region.ready .any (pre.push st) (listed.push false):=mem_ready.2 ⟨by simp,by rw[←hsz];simp[Array.getD],st,hlast,fun e he hb=>by
   rw[getD_push hsz (hedge e he hb)]
   exact hD _ (hedge e he hb)⟩
  refine ⟨fun h=>absurd hmem (by rw[h];simp),fun i hi=> ?_⟩
  obtain ⟨h1,h2,_⟩:=mem_ready.1 hi
  have hin:i=pre.size:=by
   simp only[Array.size_push] at h1
   rcases Nat.lt_or_ge i pre.size with h|h
   ·rw[getD_push hsz h,hall i h] at h2
    cases h2
   ·omega
  subst hin
  unfold wpOp
  rw[hlast]
  simp only[Region.wanted,ht1,if_true]
  refine .inl (Oper.wp_mono (fun a' w' hq'=>wpAny_done f _ ?_ hq') hq)
  refine List.eq_nil_iff_forall_not_mem.2 fun j hj=> ?_
  obtain ⟨q1,q2,_⟩:=mem_ready.1 hj
  simp only[Array.size_push] at q1
  by_cases e:j=pre.size
  ·subst e
   simp[Array.getD,hsz] at q2
  ·have hjl:j<pre.size:=by omega
   have h3:((listed.push false).setIfInBounds pre.size true).getD j true=(listed.push false).getD j true:=by
    simp only[Array.getD_eq_getD_getElem?,Array.getElem?_setIfInBounds]
    rw[if_neg (by omega)]
   rw[h3,getD_push hsz hjl,hall j hjl] at q2
   cases q2
 have hQt: ∀e a w,e≠Exit.normal→ ¬Qt P st Q e a w:=fun e a w he hq=>by
  cases e<;>first|exact absurd rfl he|exact hR _ _ _ he hq
 intro fuel
 induction fuel with
 |zero=>
  intro listed a w hsz h
  exact finish 0 listed a w hsz h.1 h.2
 |succ fuel ih=>
  intro listed a w hsz h
  by_cases hr:Region.ready .any pre listed= []
  ·exact finish (fuel+1) listed a w hsz hr (h.1 hr)
  ·have hcase: ∀i,i≠pre.size→(i∈Region.ready .any (pre.push st) (listed.push false)↔i∈Region.ready .any pre listed):=fun i e=>by
    constructor
    ·intro hi
     obtain ⟨h1,h2,o,h3,h4⟩:=mem_ready.1 hi
     simp only[Array.size_push] at h1
     have hil:i<pre.size:=by omega
     rw[hold i hil] at h3
     rw[getD_push hsz hil] at h2
     refine mem_ready.2 ⟨hil,h2,o,h3,fun e he hb=> ?_⟩
     have hlt:=edgB_at hd (by rw[Array.getElem?_toList];exact h3) e he hb
     have:=h4 e he hb
     rwa [getD_push hsz (by omega)] at this
    ·intro hi
     obtain ⟨h1,h2,o,h3,h4⟩:=mem_ready.1 hi
     refine mem_ready.2 ⟨by simp;omega,by rw[getD_push hsz h1];exact h2,o,by rw[hold i h1];exact h3,fun e he hb=> ?_⟩
     have hlt:=edgB_at hd (by rw[Array.getElem?_toList];exact h3) e he hb
     rw[getD_push hsz (by omega)]
     exact h4 e he hb
   refine ⟨fun hn=> ?_,fun i hi=> ?_⟩
   ·exfalso
    apply hr
    refine List.eq_nil_iff_forall_not_mem.2 fun j hj=> ?_
    have hjl:=(mem_ready.1 hj).1
    have:=(hcase j (by omega)).2 hj
    rw[hn] at this
    cases this
   ·by_cases ei:i=pre.size
    ·subst ei
     obtain ⟨_,_,o,h3,h4⟩:=mem_ready.1 hi
     rw[hlast] at h3
     cases h3
     have hoth: ∀j,j<pre.size→j≠x→listed.getD j true=true:=fun j hj hjx=>by
      rcases ht2 j hj with e|⟨e,he,hb,hej⟩
      ·exact absurd e hjx
      ·have:=h4 e he hb
       rw[hej,getD_push hsz hj] at this
       have hjs:j<listed.size:=by omega
       simp only[Array.getD,hjs,dif_pos] at this⊢
       exact this
     have honly: ∀j∈Region.ready .any pre listed,j=x:=fun j hj=>by
      obtain ⟨h1,h2,_⟩:=mem_ready.1 hj
      by_cases e:j=x
      ·exact e
      ·rw[hoth j h1 e] at h2
       cases h2
     have hx:x∈Region.ready .any pre listed:=by
      cases hrl:Region.ready .any pre listed with
      |nil=>exact absurd hrl hr
      |cons y ys=>
       have hy:y∈Region.ready .any pre listed:=by rw[hrl];exact List.mem_cons_self
       have:=honly y hy
       subst this
       exact List.mem_cons_self
     have h5:=h.2 x hx
     unfold wpOp at h5
     rw[hxo] at h5
     simp only[Region.wanted,hxg,if_true] at h5
     rcases h5 with h5|⟨_,a1,w1,h6⟩
     case inr=>exact absurd h6 (hQt _ _ _ (by simp))
     obtain ⟨v,hv,hk⟩:=extract_run hQt hxop hxd h5
     have hset: ∀j,j<pre.size→(listed.setIfInBounds x true).getD j true=true:=fun j hj=>by
      by_cases e:j=x
      ·subst e
       simp[Array.getD_eq_getD_getElem?,hsz,hj]
      ·have:=hoth j hj e
       simp only[Array.getD_eq_getD_getElem?,Array.getElem?_setIfInBounds] at this⊢
       rw[if_neg (fun h=>e h.symm)]
       exact this
     have hn:Region.ready .any pre (listed.setIfInBounds x true)= []:=List.eq_nil_iff_forall_not_mem.2 fun j hj=>by
      obtain ⟨h1,h2,_⟩:=mem_ready.1 hj
      rw[hset j h1] at h2
      cases h2
     have hk2:Qt P st Q .normal (a.put (some t) v) w:=by
      cases fuel with
      |zero=>exact hk.2
      |succ f=>exact hk.1 hn
     have hsw:=store_swap hR hst htd hp hq hk2
     unfold wpOp
     rw[hlast]
     simp only[Region.wanted,ht1,if_true]
     refine .inl (Oper.wp_mono (fun a' w' hq'=> ?_) hsw)
     obtain ⟨rfl,hN⟩:=hq'
     have hnl: ∀j,j∈Region.ready .any (pre.push st) ((listed.push false).setIfInBounds pre.size true)→j=x:=fun j hj=>by
      obtain ⟨q1,q2,_⟩:=mem_ready.1 hj
      simp only[Array.size_push] at q1
      by_cases e:j=pre.size
      ·subst e
       simp[Array.getD,hsz] at q2
      ·by_cases e2:j=x
       ·exact e2
       ·have hjl:j<pre.size:=by omega
        have h3:((listed.push false).setIfInBounds pre.size true).getD j true=(listed.push false).getD j true:=by
         simp only[Array.getD_eq_getD_getElem?,Array.getElem?_setIfInBounds]
         rw[if_neg (by omega)]
        rw[h3,getD_push hsz hjl,hoth j hjl e2] at q2
        cases q2
     have hset2: ∀ (d:Bool) j,j<pre.size→((listed.push false).setIfInBounds pre.size true).getD j d=listed.getD j d:=fun d j hj=>by
      have h3:((listed.push false).setIfInBounds pre.size true).getD j d=(listed.push false).getD j d:=by
       simp only[Array.getD_eq_getD_getElem?,Array.getElem?_setIfInBounds]
       rw[if_neg (by omega)]
      rw[h3,getD_push hsz hj]
     have hxr:x∈Region.ready .any (pre.push st) ((listed.push false).setIfInBounds pre.size true):=by
      obtain ⟨h1,h2,o,h3,h4⟩:=mem_ready.1 hx
      refine mem_ready.2 ⟨by simp;omega,by rw[hset2 _ x h1];exact h2,o,by rw[hold x h1];exact h3,fun e he hb=> ?_⟩
      have hlt:=edgB_at hd (by rw[Array.getElem?_toList];exact h3) e he hb
      rw[hset2 _ _ (by omega)]
      exact h4 e he hb
     refine ⟨fun h=>absurd hxr (by rw[h];simp),fun i hi=> ?_⟩
     obtain rfl:=hnl i hi
     unfold wpOp
     rw[hold _ hxl,hxo]
     simp only[Region.wanted,hxg,if_true]
     refine .inl ?_
     unfold Oper.wp
     rw[hv w']
     simp only[Oper.upon,hxd]
     refine wpAny_done _ _ ?_ hN
     refine List.eq_nil_iff_forall_not_mem.2 fun j hj=> ?_
     obtain ⟨q1,q2,_⟩:=mem_ready.1 hj
     simp only[Array.size_push] at q1
     by_cases e:j=i
     ·subst e
      rw[getD_setT (by simp;omega)] at q2
      cases q2
     ·have h3:(((listed.push false).setIfInBounds pre.size true).setIfInBounds i true).getD j true=((listed.push false).setIfInBounds pre.size true).getD j true:=by
       simp only[Array.getD_eq_getD_getElem?]
       rw[Array.getElem?_setIfInBounds,if_neg (fun h=>e h.symm)]
      rw[h3] at q2
      by_cases e2:j=pre.size
      ·subst e2
       simp[Array.getD,hsz] at q2
      ·rw[hset2 _ j (by omega),hoth j (by omega) e] at q2
       cases q2
    ·have hi':=(hcase i ei).1 hi
     obtain ⟨h1,_,o,h3,_⟩:=mem_ready.1 hi'
     have h5:=h.2 i hi'
     unfold wpOp at h5⊢
     rw[hold i h1]
     rw[h3] at h5⊢
     simp only at h5⊢
     have hw:Region.wanted o (yielded (pre.push st) a.tmps)=Region.wanted o (yielded pre a.tmps):=by
      unfold Region.wanted
      cases hg:o.guard with
      |none=>rfl
      |some x=>
       obtain ⟨j,b⟩:=x
       have hm:o∈pre.toList:=by
        rw[←Array.getElem?_toList] at h3
        exact List.mem_of_getElem? h3
       have:=ht4 o hm
       rw[hg] at this
       simp only[decide_eq_true_eq] at this
       simp only[yielded,hold j this]
     have hstep: ∀a' w',wpAny P .any pre (Qt P st Q) fuel (listed.setIfInBounds i true) a' w'→wpAny P .any (pre.push st) Q (fuel+1) ((listed.push false).setIfInBounds i true) a' w':=fun a' w' hq=>by
      rw[set_push (by omega)]
      exact ih _ a' w' (by simpa using hsz) hq
     have hQ: ∀e a w,e≠Exit.normal→Qt P st Q e a w→Q e a w:=fun e a w he hq=>absurd hq (hQt _ _ _ he)
     rw[hw]
     split at h5
     ·rename_i hwt
      rw[if_pos hwt]
      rcases h5 with h5|⟨h5,a1,w1,h6⟩
      ·exact .inl (wp_congrQ hQ (Oper.wp_mono hstep h5))
      ·exact .inr ⟨h5,a1,w1,h6⟩
     ·rename_i hwt
      rw[if_neg hwt]
      exact hstep _ _ h5
theorem evD_tailL (hT:TGood P ti) (hm:P.follows .mixedOrders=true) {id:Nat} {bb:Bool} {pre:Array Oper} {st as:Oper} (hd:drawOk pre.toList=true) (ht:looseOk pre.toList st=true) (hd2:edgB (pre.push st).toList=true) (ht2:tailOk (pre.push st).toList as=true)
  (h:evD P ti bb pre.toList pre.toList 0 (fun E=>evU P ti st (fun E=>evU P ti as K E) E) [] [] (E.fresh (famA pre.toList))) (hs:St w0 tag0 E tag hv a w)
  (hN: ∀E' tag' hv' a' w',St w0 tag0 E' tag' hv' a' w'→K E'→Q .normal a' w'):(Code.region id ((pre.push st).push as) true).wp P Q a w:=by
 have key:(Code.region id ((pre.push st).push as) true).wp P (QN Q) a w:=by
  refine wp_region_any hm ?_
  have h1:=evD_any (Q:=Qt P st (Qt P as (QN Q))) hT hd h hs (fun E' tag' hv' a' w' hs' hk=>evU_ok hT hs' hk (fun E2 tag2 hv2 a2 w2 hs2 hk2=>evU_ok hT hs2 hk2 (fun E3 tag3 hv3 a3 w3 hs3 hk3=>⟨rfl,hN _ _ _ _ _ hs3 hk3⟩)))
  have h2:=wpAny_loose (edgB_of hd) ht (fun e a w he hq=>by cases e<;>first|exact he rfl|exact absurd hq.1 (by simp)) pre.size _ _ _ (by simp) h1
  have h3:=wpAny_tail hd2 ht2 _ _ _ _ (by simp) h2
  have h4:((Array.replicate pre.size false).push false).push false=Array.replicate ((pre.push st).push as).size false:=by
   rw[Array.size_push,Array.size_push,Array.replicate_succ,Array.replicate_succ]
  rw[h4] at h3
  rw[Array.size_push,Array.size_push] at h3⊢
  exact h3
 exact wp_mono key (fun e a w hq=>by obtain ⟨rfl,hq⟩:=hq;exact hq)
end Go.Sm
namespace Go.Sm
open Go.RowKit
set_option linter.unusedVariables false
set_option linter.unusedSimpArgs false
variable {P : Program} {ti : TT} {E : Env} {tag tag' tag0 : Nat → Tag} {hv hv' : Hv} {a : Act} {w w' w0 w1 : World} {t d : Nat}
variable {Q : Exit → Act → World → Prop} {K : Env → Prop}
inductive Rd (B:Nat→Prop) {α:Type}:Sem α→Prop
 |pure (x:α):Rd B (.pure x)
 |load {m:Mode} {x:Addr} {k:Value→Sem α} (h:B x.block) (hk: ∀v,Rd B (k v)):Rd B (.load m x k)
 |program {k:Program→Sem α} (hk: ∀p,Rd B (k p)):Rd B (.program k)
 |halt (h:Halt):Rd B (.halt h)
theorem Rd.bind {B:Nat→Prop} {α β:Type} {s:Sem α} {f:α→Sem β} (h:Rd B s) (hf: ∀x,Rd B (f x)):Rd B (s.bind f):=by
 induction h with
 |pure x=>exact hf x
 |load h hk ih=>exact .load h fun v=>ih v
 |program hk ih=>exact .program fun p=>ih p
 |halt h=>exact .halt h
theorem Rd.same {B:Nat→Prop} {α:Type} {s:Sem α} (h:Rd B s): ∀ {w w':World} {x:α},s.run P w= .ok x w'→w'=w:=by
 induction h with
 |pure x=>
  intro w w' y h
  simp only[Sem.run,Result.ok.injEq] at h
  exact h.2.symm
 |load h hk ih=>
  intro w w' y h
  simp only[Sem.run] at h
  split at h
  ·exact ih _ h
  ·split at h
   ·exact ih _ h
   ·cases h
 |program hk ih=>
  intro w w' y h
  simp only[Sem.run] at h
  exact ih _ h
 |halt h=>
  intro w w' y h
  simp only[Sem.run] at h
  cases h
theorem Rd.move {B:Nat→Prop} {α:Type} {s:Sem α} (h:Rd B s): ∀ {w w1 w':World} {x:α},(∀k,B k→w1.heap[k]? =w.heap[k]? ∧ ∃cur e o,w.heap[k]? =some (.cells cur e o))→s.run P w= .ok x w'→s.run P w1= .ok x w1:=by
 induction h with
 |pure x=>
  intro w w1 w' y hB h
  simp only[Sem.run,Result.ok.injEq] at h⊢
  exact ⟨h.1,trivial⟩
 | @load m x k h hk ih=>
  intro w w1 w' y hB h'
  obtain ⟨h1,cur,e,o,h2⟩:=hB _ h
  have hc:w1.cell? x=w.cell? x:=World.cell?_of_block h1
  simp only[Sem.run] at h'⊢
  rw[hc]
  split at h'
  ·rename_i v hv
   exact ih v hB h'
  ·rename_i hn
   exfalso
   unfold World.farLoad at h'
   rw[h2] at h'
   simp at h'
 |program hk ih=>
  intro w w1 w' y hB h
  simp only[Sem.run] at h⊢
  exact ih _ hB h
 |halt h=>
  intro w w1 w' y hB h
  simp only[Sem.run] at h
  cases h
theorem Rd.underlying (B:Nat→Prop) (t:TypeId):Rd B (underlying t):=by
 refine .program fun p=> ?_
 show Rd B (match p.underlying t with|some d=>Pure.pure d|none=>stuck "no such type")
 split
 ·exact .pure _
 ·exact .halt _
theorem Rd.sizeOf (B:Nat→Prop) (t:TypeId):Rd B (sizeOf t):=by
 unfold Go.sizeOf
 refine Rd.bind ?_ fun x=> .pure _
 refine .program fun p=> ?_
 show Rd B (match p.info? t with|some d=>Pure.pure d|none=>stuck "no such type")
 split
 ·exact .pure _
 ·exact .halt _
theorem Rd.isAgg (B:Nat→Prop) (t:TypeId):Rd B (isAgg t):=by
 unfold Go.isAgg
 refine Rd.bind (Rd.underlying B t) fun x=> ?_
 split<;>exact .pure _
theorem Rd.loadCells {B:Nat→Prop} {x:Addr} (h:B x.block): ∀ (n i:Nat) (acc:Array Value),Rd B (loadCellsFrom x i n acc)
 |0,_,_=> .pure _
 |n+1,i,acc=>by
  unfold Go.loadCellsFrom
  refine Rd.bind (s:=Go.load (x.add i)) ?_ fun v=>Rd.loadCells h n (i+1) _
  exact .load (by unfold Addr.add;split<;>exact h) fun v=> .pure v
theorem Rd.loadAt {B:Nat→Prop} {t:TypeId} {v:Value} (h: ∀x,v= .pointer (some x)→B x.block):Rd B (Instr.loadAt t v):=by
 unfold Instr.loadAt
 have hs: ∀f:Addr→Sem Value,(∀x,v= .pointer (some x)→Rd B (f x))→Rd B ((Instr.sureAddr v).bind f):=by
  intro f hf
  unfold Instr.sureAddr
  split
  ·exact hf _ rfl
  ·exact .halt _
 refine hs _ fun x hx=> ?_
 unfold loadVar
 refine Rd.bind (Rd.isAgg B t) fun b=> ?_
 split
 ·refine Rd.bind (s:=Go.sizeOf t) (Rd.sizeOf B t) fun n=> ?_
  refine Rd.bind (s:=Go.loadCells x n) (Rd.loadCells (h x hx) n 0 #[]) fun c=> .pure _
 ·exact .load (h x hx) fun v=> .pure v
def ldS (o:Oper):Option Nat:=match o.op with
 | .load _ (.tmp s)=>some s
 |_=>none
def Quiet (P:Program) (x:Oper):Prop:= ∀ (a:Act) (w w':World) (nx:Next),(execOp a.eval x).run P w= .ok nx w'→
 w'=w∧(∃v,nx= .value v)∧ ∀w1,(∀s,ldS x=some s→Kept w w1 (a.eval (.tmp s)))→(execOp a.eval x).run P w1= .ok nx w1
theorem quiet_move {x:Oper} {s:Operand} (h:x.op= .move s):Quiet P x:=by
 intro a w w' nx hr
 simp only[execOp,h,Sem.run_pure,Result.ok.injEq] at hr⊢
 exact ⟨hr.2.symm,⟨_,hr.1.symm⟩,fun _ _=>⟨hr.1,trivial⟩⟩
theorem val_run {s:Sem Value} {nx:Next} (h:(do pure (Next.value (←s)):Sem Next).run P w= .ok nx w'): ∃v,nx= .value v∧s.run P w= .ok v w':=by
 rw[Sem.run_bind] at h
 cases hs:s.run P w with
 |ok v w2=>
  rw[hs] at h
  simp only[Result.andThen_ok,Sem.run_pure,Result.ok.injEq] at h
  exact ⟨v,h.1.symm,by rw[h.2]⟩
 |halt x w2=>rw[hs] at h;cases h
theorem val_run' {s:Sem Value} {v:Value} (h:s.run P w= .ok v w'):(do pure (Next.value (←s)):Sem Next).run P w= .ok (.value v) w':=by
 rw[Sem.run_bind,h]
 rfl
theorem quiet_load {x:Oper} {t s:Nat} (h:x.op= .load t (.tmp s)):Quiet P x:=by
 intro a w w' nx hr
 simp only[execOp,h] at hr⊢
 obtain ⟨v,rfl,h1⟩:=val_run hr
 have hrd:Rd (fun k=> ∃y:Addr,a.eval (.tmp s)= .pointer (some y)∧y.block=k) (Instr.loadAt t (a.eval (.tmp s))):=Rd.loadAt fun y hy=>⟨y,hy,rfl⟩
 refine ⟨hrd.same h1,⟨v,rfl⟩,fun w1 hk=>val_run' (hrd.move ?_ h1)⟩
 rintro k ⟨y,hy,rfl⟩
 exact hk s (by simp[ldS,h]) y hy
theorem quiet_field {x:Oper} {t f u o:Nat} {s:Operand} (g:(ti t).good P t) (hf:(ti t).fld f=some (o,u)) (h:x.op= .fieldAddr t s f):Quiet P x:=by
 intro a w w' nx hr
 simp only[execOp,h] at hr⊢
 obtain ⟨v,rfl,h1⟩:=val_run hr
 have key: ∀w,(∃y,(Instr.fieldAt t (a.eval s) f).run P w= .ok y w∧ ∀w1,(Instr.fieldAt t (a.eval s) f).run P w1= .ok y w1)∨ ∀y w',(Instr.fieldAt t (a.eval s) f).run P w≠ .ok y w':=by
  intro w
  obtain ⟨n,hn,hn0⟩:=g.fs f o u hf
  obtain ⟨x2,h2,rfl⟩:=Option.map_eq_some_iff.1 hn
  simp only[TI.fld] at hf
  split at hf
  ·rename_i fs hd
   obtain ⟨fl,h5,h6⟩:=Option.map_eq_some_iff.1 hf
   simp only[Prod.mk.injEq] at h6
   have hu: ∀w,(Go.underlying t).run P w= .ok (.struct fs) w:=fun w=>by rw[run_underlying g.und w,hd]
   cases hv:a.eval s with
   |pointer p=>
    cases p with
    |none=>
     right
     intro y w'
     simp[Instr.fieldAt,hu,h5,Instr.sureAddr,stuck]
    |some y=>
     left
     have hrun: ∀w,(Instr.fieldAt t (.pointer (some y)) f).run P w= .ok (.pointer (some (y.add fl.offset))) w:=fun w=>by
      have hsz:(Go.sizeOf fl.type).run P w= .ok x2.size w:=by
       rw[h6.2]
       simp[Go.sizeOf,typeInfo,h2]
      simp[Instr.fieldAt,hu,h5,Instr.sureAddr,fieldPlace,hsz,hn0]
     exact ⟨_,hrun w,hrun⟩
   |_=>
    right
    intro y w'
    simp[Instr.fieldAt,hu,h5,Instr.sureAddr,stuck]
  ·cases hf
 rcases key w with ⟨y,h2,h3⟩|h2
 ·rw[h2] at h1
  simp only[Result.ok.injEq] at h1
  obtain ⟨rfl,rfl⟩:=h1
  exact ⟨rfl,⟨_,rfl⟩,fun w1 _=>val_run' (h3 w1)⟩
 ·exact absurd h1 (h2 _ _)
theorem quiet_extract {x:Oper} {s:Operand} {i:Nat} (h:x.op= .extract s i):Quiet P x:=by
 intro a w w' nx hr
 simp only[execOp,h] at hr⊢
 obtain ⟨v,rfl,h1⟩:=val_run hr
 have hi: ∀w w1 v,(Instr.extract (a.eval s) i).run P w= .ok v w'→w'=w∧(Instr.extract (a.eval s) i).run P w1= .ok v w1:=by
  intro w w1 v h
  unfold Instr.extract at h⊢
  repeat' split at h
  all_goals simp_all [stuck,Sem.run]
 exact ⟨(hi w w v h1).1,⟨_,rfl⟩,fun w1 _=>val_run' (hi w w1 v h1).2⟩
theorem closB_L {ops:List Oper} {L:Nat→Bool} (hL: ∀j k,L k=true→predB ops k j=true→L j=true): ∀ (f i k:Nat),closB ops f i k=true→L k=true→L i=true
 |0,_,_,h,_=>by simp[closB] at h
 |f+1,i,k,h,hk=>by
  simp only[closB] at h
  split at h
  ·rename_i h1;exact hL _ _ hk h1
  ·split at h
   ·rename_i o ho
    obtain ⟨e,h1,h2,h3⟩:=closE_mem h
    refine closB_L hL f i e.on h3 (hL _ _ hk ?_)
    unfold predB
    rw[ho]
    exact List.any_eq_true.2 ⟨e,h1,by simp[h2]⟩
   ·cases h
def lateI (pre:List Oper) (m:Oper) (i:Nat):Bool:= !closB (pre++ [m]) (pre.length+1) i pre.length
def lateAt (pre:List Oper) (m:Oper) (i:Nat):Bool:=match pre[i]? with
 |some o=>o.guard.isNone&& (o.apart (pre++ [m]).toArray m&& ((match o.op with| .select _ _=>false|_=>true)&& (o.looksAt (pre++ [m]).toArray).all fun t=>(List.range pre.length).all fun j=>match pre[j]? with
  |some oj=>oj.dst !=some t||(j !=i&&predB pre i j)
  |none=>true))
 |none=>true
def lateOk (pre:List Oper) (m:Oper):Bool:=
 m.guard.isNone&& (match m.op with| .select _ _=>false|_=>true)&& (m.after.toList.all (fun e=> !Region.binds .any e||decide (e.on<pre.length))&& (pre.all (fun o=>match o.guard with|some (j,_)=>decide (j<pre.length)|none=>true)&&
  (List.range pre.length).all fun i=> !lateI pre m i||lateAt pre m i))
def NxOk (m:Oper) (nx:Next):Prop:=(∃v,nx= .value v)∨(nx= .skip∧m.dst=none)
def nxPut (m:Oper) (a:Act):Next→Act
 | .value v=>a.put m.dst v
 |_=>a
theorem nxPut_comm {m x:Oper} {nx:Next} {v:Value} (h: ∀d,x.dst=some d→m.dst≠some d):nxPut m (a.put x.dst v) nx=(nxPut m a nx).put x.dst v:=by
 unfold nxPut
 split
 ·exact Act.put_comm _ _ _ h
 ·rfl
theorem nx_upon {m:Oper} {nx:Next} {N:Act→World→Prop} {R:Exit→Act→World→Prop} (hn:NxOk m nx) (h:(execOp a.eval m).run P w= .ok nx w1) (hN:N (nxPut m a nx) w1):m.wp P a w N R:=by
 unfold Oper.wp
 rw[h]
 rcases hn with ⟨v,rfl⟩|⟨rfl,hd⟩
 ·exact hN
 ·simp only[Oper.upon,hd]
  exact hN
def Qm (P:Program) (pre:List Oper) (m:Oper) (Q:Exit→Act→World→Prop):Exit→Act→World→Prop:=fun e a w=>
 e= .normal∧ ∃nx w1,(execOp a.eval m).run P w= .ok nx w1∧NxOk m nx∧Q .normal (nxPut m a nx) w1∧ ∀i o s,lateI pre m i=true→pre[i]? =some o→ldS o=some s→Kept w w1 (a.eval (.tmp s))
def DC (pre:Array Oper) (listed:Array Bool):Prop:= ∀ (k:Nat) (o:Oper),pre[k]? =some o→listed.getD k false=true→ ∀e∈o.after.toList,Region.binds .any e=true→listed.getD e.on false=true
theorem DC.set {pre:Array Oper} {listed:Array Bool} {i:Nat} (h:DC pre listed) (hs:listed.size=pre.size) (hi:i∈Region.ready .any pre listed):DC pre (listed.setIfInBounds i true):=by
 obtain ⟨h1,h2,o,h3,h4⟩:=mem_ready.1 hi
 have up: ∀j,listed.getD j false=true→(listed.setIfInBounds i true).getD j false=true:=fun j hj=>by
  simp only[Array.getD_eq_getD_getElem?,Array.getElem?_setIfInBounds] at hj⊢
  split
  ·split<;>simp_all
  ·exact hj
 intro k o' ho' hk e he hb
 by_cases hik:k=i
 ·subst hik
  rw[h3] at ho'
  cases ho'
  exact up _ (h4 e he hb)
 ·refine up _ (h k o' ho' ?_ e he hb)
  simp only[Array.getD_eq_getD_getElem?,Array.getElem?_setIfInBounds] at hk⊢
  rwa [if_neg (fun e=>hik e.symm)] at hk
theorem getD_tf {l:Array Bool} {j:Nat} (h:j<l.size):l.getD j true=l.getD j false:=by simp[Array.getD,h]
theorem quiet_step {x:Oper} {N:Act→World→Prop} {R:Exit→Act→World→Prop} (hR: ∀e a w,e≠ .normal→ ¬R e a w) (hq:Quiet P x) (h:x.wp P a w N R): ∃v,(execOp a.eval x).run P w= .ok (.value v) w∧N (a.put x.dst v) w:=by
 unfold Oper.wp at h
 cases hr:(execOp a.eval x).run P w with
 |ok nx w'=>
  obtain ⟨rfl,⟨v,rfl⟩,_⟩:=hq a w w' nx hr
  rw[hr] at h
  exact ⟨v,rfl,h⟩
 |halt y w'=>
  rw[hr] at h
  cases y<;>simp only[Oper.upon] at h<;>first|exact h.elim|exact (hR _ _ _ (by simp) h).elim
section
variable {pre : Array Oper} {m : Oper}
theorem late_after (hd:edgB pre.toList=true) (hl:lateOk pre.toList m=true) (hq: ∀i o,lateI pre.toList m i=true→pre[i]? =some o→Quiet P o):
  ∀ (fuel:Nat) (listed:Array Bool) (a:Act) (w:World),listed.size=pre.size→DC pre listed→(∀j,j<pre.size→listed.getD j true=false→lateI pre.toList m j=true)→wpAny P .any pre (Qm P pre.toList m Q) fuel listed a w→
  ∃ (v:Next) (w1:World) (aE:Act),(execOp a.eval m).run P w= .ok v w1∧NxOk m v∧(∀i o s,lateI pre.toList m i=true→pre[i]? =some o→ldS o=some s→Kept w w1 (aE.eval (.tmp s)))∧
   (∀t,(∀j o,pre[j]? =some o→listed.getD j true=false→o.dst≠some t)→aE.eval (.tmp t)=a.eval (.tmp t))∧wpAny P .any (pre.push m) Q fuel (listed.push true) (nxPut m a v) w1:=by
 simp only[lateOk,Bool.and_eq_true,Option.isNone_iff_eq_none,List.all_eq_true,List.mem_range,Array.length_toList,Bool.or_eq_true,Bool.not_eq_true'] at hl
 obtain ⟨⟨hl1,hl2⟩,hl3,hl4,hl5⟩:=hl
 have hms: ∀cs b,m.op≠ .select cs b:=fun cs b e=>by rw[e] at hl2;cases hl2
 have hold: ∀i,i<pre.size→(pre.push m)[i]? =pre[i]? :=fun i hi=>by rw[Array.getElem?_push,if_neg (by omega)]
 have hlate: ∀i o,lateI pre.toList m i=true→pre[i]? =some o→o.guard=none∧(∀cs b,o.op≠ .select cs b)∧(∀d,o.dst=some d→d∉m.looksAt (pre.toList++ [m]).toArray)∧(∀d,o.dst=some d→m.dst≠some d)∧(∀d,m.dst=some d→d∉o.looksAt (pre.toList++ [m]).toArray)∧
   ∀t∈o.looksAt (pre.toList++ [m]).toArray,∀j oj,pre[j]? =some oj→oj.dst=some t→j≠i∧predB pre.toList i j=true:=by
  intro i o hli ho
  have hil:i<pre.size:=(Array.getElem?_eq_some_iff.1 ho).1
  have h1:=(hl5 i hil).resolve_left (by rw[hli];simp)
  unfold lateAt at h1
  rw[Array.getElem?_toList,ho] at h1
  simp only[Bool.and_eq_true,Option.isNone_iff_eq_none,List.all_eq_true,List.mem_range,Array.length_toList] at h1
  obtain ⟨g1,g2,g3,g4⟩:=h1
  obtain ⟨q1,q2,q3⟩:=Oper.apart_spec g2
  refine ⟨g1,(fun cs b e=>by rw[e] at g3;cases g3),q1,q2,q3,fun t ht j oj hj hdj=> ?_⟩
  have hjl:j<pre.size:=(Array.getElem?_eq_some_iff.1 hj).1
  have:=g4 t ht j hjl
  rw[Array.getElem?_toList,hj] at this
  simpa [hdj] using this
 have hQb: ∀e a w,e≠Exit.normal→ ¬Qm P pre.toList m Q e a w:=fun e a w he hq=>he hq.1
 have hallN: ∀ (listed:Array Bool),listed.size=pre.size→(∀j,j<pre.size→listed.getD j true=true)→Region.ready .any (pre.push m) (listed.push true)= []:=by
  intro listed hs hall
  refine List.eq_nil_iff_forall_not_mem.2 fun j hj=> ?_
  obtain ⟨q1,q2,_⟩:=mem_ready.1 hj
  simp only[Array.size_push] at q1
  by_cases e:j=pre.size
  ·subst e
   rw[Array.getD_eq_getD_getElem?,←hs,Array.getElem?_push_size] at q2
   cases q2
  ·have hjl:j<pre.size:=by omega
   have:(listed.push true).getD j true=listed.getD j true:=by
    have h1:j<listed.size:=by omega
    have h2:j< (listed.push true).size:=by simp;omega
    simp only[Array.getD,h1,h2,dif_pos]
    exact Array.getElem_push_lt h1
   rw[this,hall j hjl] at q2
   cases q2
 have hpush: ∀ (listed:Array Bool) (j:Nat) (d:Bool),listed.size=pre.size→j<pre.size→(listed.push true).getD j d=listed.getD j d:=by
  intro listed j d hs hj
  have h1:j<listed.size:=by omega
  have h2:j< (listed.push true).size:=by simp;omega
  simp only[Array.getD,h1,h2,dif_pos]
  exact Array.getElem_push_lt h1
 intro fuel
 induction fuel with
 |zero=>
  intro listed a w hsz hdc hun h
  obtain ⟨hr,_,v,w1,h1,hnx,h2,h3⟩:=h
  have hall:=ready_nil hd hsz hr
  exact ⟨v,w1,a,h1,hnx,fun i o s hi ho=>h3 i o s hi (by rw[Array.getElem?_toList];exact ho),fun _ _=>rfl,hallN listed hsz hall,h2⟩
 |succ fuel ih=>
  intro listed a w hsz hdc hun h
  by_cases hr:Region.ready .any pre listed= []
  ·obtain ⟨_,v,w1,h1,hnx,h2,h3⟩:=h.1 hr
   have hall:=ready_nil hd hsz hr
   exact ⟨v,w1,a,h1,hnx,fun i o s hi ho=>h3 i o s hi (by rw[Array.getElem?_toList];exact ho),fun _ _=>rfl,wpAny_done _ _ (hallN listed hsz hall) h2⟩
  ·have step: ∀i∈Region.ready .any pre listed,∃o vi,pre[i]? =some o∧lateI pre.toList m i=true∧(execOp a.eval o).run P w= .ok (.value vi) w∧
     ∃ (v:Next) (w1:World) (aE:Act),(execOp a.eval m).run P w= .ok v w1∧NxOk m v∧(∀i o s,lateI pre.toList m i=true→pre[i]? =some o→ldS o=some s→Kept w w1 (aE.eval (.tmp s)))∧
      (∀t,(∀j o,pre[j]? =some o→listed.getD j true=false→o.dst≠some t)→aE.eval (.tmp t)=a.eval (.tmp t))∧wpAny P .any (pre.push m) Q fuel ((listed.push true).setIfInBounds i true) ((nxPut m a v).put o.dst vi) w1:=by
    intro i hi
    obtain ⟨h1,h2,o,h3,h4⟩:=mem_ready.1 hi
    have hli:=hun i h1 h2
    obtain ⟨g1,g2,g3,g4,g5,g6⟩:=hlate i o hli h3
    have h5:=h.2 i hi
    unfold wpOp at h5
    rw[h3] at h5
    simp only[Region.wanted,g1,if_true] at h5
    rcases h5 with h5|⟨_,a1,w1,h6⟩
    case inr=>exact absurd h6 (hQb _ _ _ (by simp))
    obtain ⟨vi,hv,hk⟩:=quiet_step hQb (hq i o hli h3) h5
    have hsz2:(listed.setIfInBounds i true).size=pre.size:=by simpa using hsz
    obtain ⟨v,w1,aE,q1,hnx,q2,q3,q4⟩:=ih _ _ _ hsz2 (hdc.set hsz hi) (fun j hj hf=>hun j hj (by
     by_cases e:j=i
     ·subst e;exact h2
     ·simp only[Array.getD_eq_getD_getElem?,Array.getElem?_setIfInBounds] at hf⊢
      rwa [if_neg (fun e2=>e e2.symm)] at hf)) hk
    rw[execOp_put (ops:=(pre.toList++ [m]).toArray) m hms a o.dst vi g3] at q1
    refine ⟨o,vi,h3,hli,hv,v,w1,aE,q1,hnx,q2,fun t ht=> ?_, ?_⟩
    ·rw[q3 t (fun j oj hj hf=>ht j oj hj (by
      by_cases e:j=i
      ·subst e;exact h2
      ·simp only[Array.getD_eq_getD_getElem?,Array.getElem?_setIfInBounds] at hf⊢
       rwa [if_neg (fun e2=>e e2.symm)] at hf))]
     have:=ht i o h3 h2
     exact Act.eval_put fun d hd hx=>by
      cases hx
      exact this hd
    ·rw[nxPut_comm g4] at q4
     have:(listed.setIfInBounds i true).push true=(listed.push true).setIfInBounds i true:=by
      apply Array.ext_getElem?
      intro j
      grind
     rwa [this] at q4
   obtain ⟨i0,hi0⟩:=List.exists_mem_of_ne_nil _ hr
   obtain ⟨o0,v0,p1,p2,p3,v,w1,aE,p4,hnx,p5,p6,p7⟩:=step i0 hi0
   refine ⟨v,w1,aE,p4,hnx,p5,p6,fun hn=> ?_,fun i hi=> ?_⟩
   ·exfalso
    obtain ⟨h1,h2,o,h3,h4⟩:=mem_ready.1 hi0
    have:i0∈Region.ready .any (pre.push m) (listed.push true):=mem_ready.2 ⟨by simp;omega,by rw[hpush _ _ _ hsz h1];exact h2,o,by rw[hold i0 h1];exact h3,fun e he hb=>by
     have hlt:=edgB_at hd (by rw[Array.getElem?_toList];exact h3) e he hb
     rw[hpush _ _ _ hsz (by omega)]
     exact h4 e he hb⟩
    rw[hn] at this
    cases this
   ·obtain ⟨h1,h2,o,h3,h4⟩:=mem_ready.1 hi
    simp only[Array.size_push] at h1
    have hil:i<pre.size:=by
     rcases Nat.lt_or_ge i pre.size with hlt|hge
     ·exact hlt
     ·have:i=pre.size:=by omega
      rw[this,Array.getD_eq_getD_getElem?,←hsz,Array.getElem?_push_size] at h2
      cases h2
    rw[hold i hil] at h3
    rw[hpush _ _ _ hsz hil] at h2
    have hir:i∈Region.ready .any pre listed:=mem_ready.2 ⟨hil,h2,o,h3,fun e he hb=>by
     have hlt:=edgB_at hd (by rw[Array.getElem?_toList];exact h3) e he hb
     have:=h4 e he hb
     rwa [hpush _ _ _ hsz (by omega)] at this⟩
    obtain ⟨o',vi,r1,r2,r3,v',w1',aE',r4,hnx',r5,r6,r7⟩:=step i hir
    rw[h3] at r1
    cases r1
    rw[p4] at r4
    simp only[Result.ok.injEq] at r4
    obtain ⟨rfl,rfl⟩:=r4
    obtain ⟨g1,g2,g3,g4,g5,g6⟩:=hlate i o r2 h3
    unfold wpOp
    rw[hold i hil,h3]
    simp only[Region.wanted,g1,if_true]
    refine .inl ?_
    unfold Oper.wp
    have hexo:execOp (nxPut m a v).eval o=execOp a.eval o:=by
     unfold nxPut
     split
     ·exact execOp_put (ops:=(pre.toList++ [m]).toArray) o g2 a m.dst _ g5
     ·rfl
    rw[hexo]
    have hkept: ∀s,ldS o=some s→Kept w w1 (a.eval (.tmp s)):=fun s hs=>by
     have:=p5 i o s r2 h3 hs
     rwa [p6 s (fun j oj hj hf hdj=>by
      have hsl:s∈o.looksAt (pre.toList++ [m]).toArray:=by
       unfold ldS at hs
       split at hs
       ·rename_i t' s' hop
        cases hs
        simp[Oper.looksAt,hop,Op.operands]
       ·cases hs
      obtain ⟨_,hp⟩:=g6 s hsl j oj hj hdj
      obtain ⟨e,he,hb,rfl⟩:=predB_mem (by rw[Array.getElem?_toList];exact h3) hp
      have h10:=(mem_ready.1 hir).2.2
      obtain ⟨o2,h11,h12⟩:=h10
      rw[h3] at h11
      cases h11
      have:=h12 e he hb
      have hjl:e.on<listed.size:=by
       have:=(Array.getElem?_eq_some_iff.1 hj).1
       omega
      rw[getD_tf hjl,this] at hf
      cases hf)] at this
    rw[(hq i o r2 h3 a w w _ r3).2.2 w1 hkept]
    exact r7
theorem late_ready (hl:lateOk pre.toList m=true) {listed:Array Bool} (hs:listed.size=pre.size) (hdc:DC pre listed) (h:pre.size∈Region.ready .any (pre.push m) (listed.push false)): ∀j,j<pre.size→listed.getD j true=false→lateI pre.toList m j=true:=by
 simp only[lateOk,Bool.and_eq_true,Option.isNone_iff_eq_none,List.all_eq_true,List.mem_range,Array.length_toList,Bool.or_eq_true,Bool.not_eq_true'] at hl
 obtain ⟨_,hl3,_⟩:=hl
 intro j hj hf
 unfold lateI
 cases hc:closB (pre.toList++ [m]) (pre.toList.length+1) j pre.toList.length with
 |false=>rfl
 |true=>
  exfalso
  obtain ⟨_,_,o,h3,h4⟩:=mem_ready.1 h
  rw[Array.getElem?_push_size] at h3
  cases h3
  have hget: ∀k,k<pre.size→(pre.toList++ [m])[k]? =pre[k]? :=fun k hk=>by
   rw[List.getElem?_append_left (by simpa using hk),Array.getElem?_toList]
  have hlast:(pre.toList++ [m])[pre.size]? =some m:=by
   rw[List.getElem?_append_right (by simp)]
   simp
  have key:=closB_L (ops:=pre.toList++ [m]) (L:=fun k=>decide (k=pre.size)||listed.getD k false) (fun i k hk hp=>by
   simp only[Bool.or_eq_true,decide_eq_true_eq] at hk⊢
   right
   rcases Nat.lt_or_ge k pre.size with hlt|hge
   ·have hk2:listed.getD k false=true:=hk.resolve_left (by omega)
    have hpk: ∃o,pre[k]? =some o:=⟨_,Array.getElem?_eq_getElem hlt⟩
    obtain ⟨o,ho⟩:=hpk
    obtain ⟨e,he,hb,rfl⟩:=predB_mem ((hget k hlt).trans ho) hp
    exact hdc k o ho hk2 e he hb
   ·have hkp:k=pre.size:=by
     rcases hk with hk|hk
     ·exact hk
     ·rw[Array.getD_eq_getD_getElem?,Array.getElem?_eq_none (by omega)] at hk
      cases hk
    subst hkp
    obtain ⟨e,he,hb,rfl⟩:=predB_mem hlast hp
    have hlt:e.on<pre.size:=by
     have:=hl3 e he
     simpa [hb] using this
    have:=h4 e he hb
    rwa [getD_push hs hlt] at this) _ _ _ hc (by simp)
  simp only[Bool.or_eq_true,decide_eq_true_eq] at key
  rcases key with key|key
  ·omega
  ·rw[getD_tf (by omega),key] at hf
   cases hf
theorem wpAny_late (hd:edgB pre.toList=true) (hl:lateOk pre.toList m=true) (hq: ∀i o,lateI pre.toList m i=true→pre[i]? =some o→Quiet P o):
  ∀ (fuel:Nat) (listed:Array Bool) (a:Act) (w:World),listed.size=pre.size→DC pre listed→wpAny P .any pre (Qm P pre.toList m Q) fuel listed a w→wpAny P .any (pre.push m) Q (fuel+1) (listed.push false) a w:=by
 have hl0:=hl
 simp only[lateOk,Bool.and_eq_true,Option.isNone_iff_eq_none,List.all_eq_true,List.mem_range,Array.length_toList,Bool.or_eq_true,Bool.not_eq_true'] at hl
 obtain ⟨⟨hl1,hl2⟩,hl3,hl4,hl5⟩:=hl
 have hlast:(pre.push m)[pre.size]? =some m:=by simp
 have hold: ∀i,i<pre.size→(pre.push m)[i]? =pre[i]? :=fun i hi=>by rw[Array.getElem?_push,if_neg (by omega)]
 have hQb: ∀e a w,e≠Exit.normal→ ¬Qm P pre.toList m Q e a w:=fun e a w he hq=>he hq.1
 have runM: ∀ (fuel:Nat) (listed:Array Bool) (a:Act) (w:World),listed.size=pre.size→DC pre listed→pre.size∈Region.ready .any (pre.push m) (listed.push false)→wpAny P .any pre (Qm P pre.toList m Q) fuel listed a w→
   wpOp P (pre.push m) Q pre.size (wpAny P .any (pre.push m) Q fuel ((listed.push false).setIfInBounds pre.size true)) a w:=by
  intro fuel listed a w hsz hdc hm h
  obtain ⟨v,w1,aE,h1,hnx,_,_,h2⟩:=late_after hd hl0 hq fuel listed a w hsz hdc (late_ready hl0 hsz hdc hm) h
  unfold wpOp
  rw[hlast]
  simp only[Region.wanted,hl1,if_true]
  have:(listed.push false).setIfInBounds pre.size true=listed.push true:=by
   apply Array.ext_getElem?
   intro j
   grind
  rw[this]
  exact .inl (nx_upon hnx h1 h2)
 intro fuel
 induction fuel with
 |zero=>
  intro listed a w hsz hdc h
  have hall:=ready_nil hd hsz h.1
  have hm:pre.size∈Region.ready .any (pre.push m) (listed.push false):=mem_ready.2 ⟨by simp,by rw[Array.getD_eq_getD_getElem?,←hsz,Array.getElem?_push_size];rfl,m,hlast,fun e he hb=>by
   have hlt:e.on<pre.size:=by
    have:=hl3 e he
    simpa [hb] using this
   rw[getD_push hsz hlt,←getD_tf (by omega)]
   exact hall _ hlt⟩
  refine ⟨(fun hn=>by rw[hn] at hm;cases hm),fun i hi=> ?_⟩
  obtain ⟨h1,h2,_⟩:=mem_ready.1 hi
  simp only[Array.size_push] at h1
  have:i=pre.size:=by
   rcases Nat.lt_or_ge i pre.size with hlt|hge
   ·rw[getD_push hsz hlt,hall i hlt] at h2
    cases h2
   ·omega
  subst this
  exact runM 0 listed a w hsz hdc hm h
 |succ fuel ih=>
  intro listed a w hsz hdc h
  have hcase: ∀i,i<pre.size→(i∈Region.ready .any (pre.push m) (listed.push false)↔i∈Region.ready .any pre listed):=fun i hil=>by
   constructor
   ·intro hi
    obtain ⟨h1,h2,o,h3,h4⟩:=mem_ready.1 hi
    rw[hold i hil] at h3
    rw[getD_push hsz hil] at h2
    refine mem_ready.2 ⟨hil,h2,o,h3,fun e he hb=> ?_⟩
    have hlt:=edgB_at hd (by rw[Array.getElem?_toList];exact h3) e he hb
    have:=h4 e he hb
    rwa [getD_push hsz (by omega)] at this
   ·intro hi
    obtain ⟨h1,h2,o,h3,h4⟩:=mem_ready.1 hi
    refine mem_ready.2 ⟨by simp;omega,by rw[getD_push hsz h1];exact h2,o,by rw[hold i h1];exact h3,fun e he hb=> ?_⟩
    have hlt:=edgB_at hd (by rw[Array.getElem?_toList];exact h3) e he hb
    rw[getD_push hsz (by omega)]
    exact h4 e he hb
  refine ⟨fun hn=> ?_,fun i hi=> ?_⟩
  ·exfalso
   by_cases hr:Region.ready .any pre listed= []
   ·have hall:=ready_nil hd hsz hr
    have hm:pre.size∈Region.ready .any (pre.push m) (listed.push false):=mem_ready.2 ⟨by simp,by rw[Array.getD_eq_getD_getElem?,←hsz,Array.getElem?_push_size];rfl,m,hlast,fun e he hb=>by
     have hlt:e.on<pre.size:=by
      have:=hl3 e he
      simpa [hb] using this
     rw[getD_push hsz hlt,←getD_tf (by omega)]
     exact hall _ hlt⟩
    rw[hn] at hm
    cases hm
   ·apply hr
    refine List.eq_nil_iff_forall_not_mem.2 fun j hj=> ?_
    have:=(hcase j (mem_ready.1 hj).1).2 hj
    rw[hn] at this
    cases this
  ·by_cases ei:i=pre.size
   ·subst ei
    exact runM (fuel+1) listed a w hsz hdc hi h
   ·have hil:i<pre.size:=by
     have:=(mem_ready.1 hi).1
     simp only[Array.size_push] at this
     omega
    have hi':=(hcase i hil).1 hi
    obtain ⟨h1,_,o,h3,_⟩:=mem_ready.1 hi'
    have h5:=h.2 i hi'
    unfold wpOp at h5⊢
    rw[hold i h1]
    rw[h3] at h5⊢
    simp only at h5⊢
    have hw:Region.wanted o (yielded (pre.push m) a.tmps)=Region.wanted o (yielded pre a.tmps):=by
     unfold Region.wanted
     cases hg:o.guard with
     |none=>rfl
     |some x=>
      obtain ⟨j,b⟩:=x
      have hm:o∈pre.toList:=by
       rw[←Array.getElem?_toList] at h3
       exact List.mem_of_getElem? h3
      have:=hl4 o hm
      rw[hg] at this
      simp only[decide_eq_true_eq] at this
      simp only[yielded,hold j this]
    have hstep: ∀a' w',wpAny P .any pre (Qm P pre.toList m Q) fuel (listed.setIfInBounds i true) a' w'→wpAny P .any (pre.push m) Q (fuel+1) ((listed.push false).setIfInBounds i true) a' w':=fun a' w' hq=>by
     rw[set_push (by omega)]
     exact ih _ a' w' (by simpa using hsz) (hdc.set hsz hi') hq
    rw[hw]
    split at h5
    ·rename_i hwt
     rw[if_pos hwt]
     rcases h5 with h5|⟨h5,a1,w1,h6⟩
     ·exact .inl (wp_congrQ (fun e a w he hq=>absurd hq (hQb _ _ _ he)) (Oper.wp_mono hstep h5))
     ·exact absurd h6 (hQb _ _ _ (by simp))
    ·rename_i hwt
     rw[if_neg hwt]
     exact hstep _ _ h5
end
end Go.Sm
namespace Go.Sm
open Go.RowKit
set_option linter.unusedVariables false
set_option linter.unusedSimpArgs false
variable {P : Program} {ti : TT} {E : Env} {tag tag' tag0 : Nat → Tag} {hv hv' : Hv} {a : Act} {w w' w0 w1 : World} {t d : Nat}
variable {Q : Exit → Act → World → Prop} {K : Env → Prop}
def tailC (pre:List Oper) (st:Oper):Bool:=
 st.guard.isNone&& (st.after.toList.all (fun e=> !Region.binds .any e||decide (e.on<pre.length))&& (pre.all (fun o=>match o.guard with|some (j,_)=>decide (j<pre.length)|none=>true)&&
  (List.range pre.length).all fun i=> !lateI pre st i))
section
variable {pre : Array Oper} {m : Oper}
theorem all_ready (hl:tailC pre.toList m=true) {listed:Array Bool} (hs:listed.size=pre.size) (hdc:DC pre listed) (h:pre.size∈Region.ready .any (pre.push m) (listed.push false)): ∀j,j<pre.size→listed.getD j true=true:=by
 simp only[tailC,Bool.and_eq_true,Option.isNone_iff_eq_none,List.all_eq_true,List.mem_range,Array.length_toList,Bool.or_eq_true,Bool.not_eq_true'] at hl
 obtain ⟨_,hl3,_,hl5⟩:=hl
 intro j hj
 have hc:closB (pre.toList++ [m]) (pre.toList.length+1) j pre.toList.length=true:=by
  have:=hl5 j hj
  unfold lateI at this
  simpa using this
 obtain ⟨_,_,o,h3,h4⟩:=mem_ready.1 h
 rw[Array.getElem?_push_size] at h3
 cases h3
 have hget: ∀k,k<pre.size→(pre.toList++ [m])[k]? =pre[k]? :=fun k hk=>by
  rw[List.getElem?_append_left (by simpa using hk),Array.getElem?_toList]
 have hlast:(pre.toList++ [m])[pre.size]? =some m:=by
  rw[List.getElem?_append_right (by simp)]
  simp
 have key:=closB_L (ops:=pre.toList++ [m]) (L:=fun k=>decide (k=pre.size)||listed.getD k false) (fun i k hk hp=>by
  simp only[Bool.or_eq_true,decide_eq_true_eq] at hk⊢
  right
  rcases Nat.lt_or_ge k pre.size with hlt|hge
  ·have hk2:listed.getD k false=true:=hk.resolve_left (by omega)
   have hpk: ∃o,pre[k]? =some o:=⟨_,Array.getElem?_eq_getElem hlt⟩
   obtain ⟨o,ho⟩:=hpk
   obtain ⟨e,he,hb,rfl⟩:=predB_mem ((hget k hlt).trans ho) hp
   exact hdc k o ho hk2 e he hb
  ·have hkp:k=pre.size:=by
    rcases hk with hk|hk
    ·exact hk
    ·rw[Array.getD_eq_getD_getElem?,Array.getElem?_eq_none (by omega)] at hk
     cases hk
   subst hkp
   obtain ⟨e,he,hb,rfl⟩:=predB_mem hlast hp
   have hlt:e.on<pre.size:=by
    have:=hl3 e he
    simpa [hb] using this
   have:=h4 e he hb
   rwa [getD_push hs hlt] at this) _ _ _ hc (by simp)
 simp only[Bool.or_eq_true,decide_eq_true_eq] at key
 rcases key with key|key
 ·omega
 ·rw[getD_tf (by omega)]
  exact key
theorem wpAny_tailC (hd:edgB pre.toList=true) (hl:tailC pre.toList m=true):
  ∀ (fuel:Nat) (listed:Array Bool) (a:Act) (w:World),listed.size=pre.size→DC pre listed→wpAny P .any pre (Qt P m Q) fuel listed a w→wpAny P .any (pre.push m) Q (fuel+1) (listed.push false) a w:=by
 have hl0:=hl
 simp only[tailC,Bool.and_eq_true,Option.isNone_iff_eq_none,List.all_eq_true,List.mem_range,Array.length_toList,Bool.or_eq_true,Bool.not_eq_true'] at hl
 obtain ⟨hl1,hl3,hl4,hl5⟩:=hl
 have hlast:(pre.push m)[pre.size]? =some m:=by simp
 have hold: ∀i,i<pre.size→(pre.push m)[i]? =pre[i]? :=fun i hi=>by rw[Array.getElem?_push,if_neg (by omega)]
 have hallN: ∀ (listed:Array Bool),listed.size=pre.size→(∀j,j<pre.size→listed.getD j true=true)→Region.ready .any (pre.push m) (listed.push true)= []:=by
  intro listed hs hall
  refine List.eq_nil_iff_forall_not_mem.2 fun j hj=> ?_
  obtain ⟨q1,q2,_⟩:=mem_ready.1 hj
  simp only[Array.size_push] at q1
  by_cases e:j=pre.size
  ·subst e
   rw[Array.getD_eq_getD_getElem?,←hs,Array.getElem?_push_size] at q2
   cases q2
  ·have hjl:j<pre.size:=by omega
   have:(listed.push true).getD j true=listed.getD j true:=by
    have h1:j<listed.size:=by omega
    have h2:j< (listed.push true).size:=by simp;omega
    simp only[Array.getD,h1,h2,dif_pos]
    exact Array.getElem_push_lt h1
   rw[this,hall j hjl] at q2
   cases q2
 have runM: ∀ (fuel:Nat) (listed:Array Bool) (a:Act) (w:World),listed.size=pre.size→DC pre listed→pre.size∈Region.ready .any (pre.push m) (listed.push false)→wpAny P .any pre (Qt P m Q) fuel listed a w→
   wpOp P (pre.push m) Q pre.size (wpAny P .any (pre.push m) Q fuel ((listed.push false).setIfInBounds pre.size true)) a w:=by
  intro fuel listed a w hsz hdc hm h
  have hall:=all_ready hl0 hsz hdc hm
  have hr:Region.ready .any pre listed= []:=List.eq_nil_iff_forall_not_mem.2 fun j hj=>by
   obtain ⟨q1,q2,_⟩:=mem_ready.1 hj
   rw[hall j q1] at q2
   cases q2
  have hq:m.wp P a w (Q .normal) Q:=by
   cases fuel with
   |zero=>exact h.2
   |succ f=>exact h.1 hr
  unfold wpOp
  rw[hlast]
  simp only[Region.wanted,hl1,if_true]
  refine .inl (Oper.wp_mono (fun a' w' hq'=>wpAny_done _ _ ?_ hq') hq)
  have:(listed.push false).setIfInBounds pre.size true=listed.push true:=by
   apply Array.ext_getElem?
   intro j
   grind
  rw[this]
  exact hallN listed hsz hall
 intro fuel
 induction fuel with
 |zero=>
  intro listed a w hsz hdc h
  have hall:=ready_nil hd hsz h.1
  have hm:pre.size∈Region.ready .any (pre.push m) (listed.push false):=mem_ready.2 ⟨by simp,by rw[Array.getD_eq_getD_getElem?,←hsz,Array.getElem?_push_size];rfl,m,hlast,fun e he hb=>by
   have hlt:e.on<pre.size:=by
    have:=hl3 e he
    simpa [hb] using this
   rw[getD_push hsz hlt,←getD_tf (by omega)]
   exact hall _ hlt⟩
  refine ⟨(fun hn=>by rw[hn] at hm;cases hm),fun i hi=> ?_⟩
  obtain ⟨h1,h2,_⟩:=mem_ready.1 hi
  simp only[Array.size_push] at h1
  have:i=pre.size:=by
   rcases Nat.lt_or_ge i pre.size with hlt|hge
   ·rw[getD_push hsz hlt,hall i hlt] at h2
    cases h2
   ·omega
  subst this
  exact runM 0 listed a w hsz hdc hm h
 |succ fuel ih=>
  intro listed a w hsz hdc h
  have hcase: ∀i,i<pre.size→(i∈Region.ready .any (pre.push m) (listed.push false)↔i∈Region.ready .any pre listed):=fun i hil=>by
   constructor
   ·intro hi
    obtain ⟨h1,h2,o,h3,h4⟩:=mem_ready.1 hi
    rw[hold i hil] at h3
    rw[getD_push hsz hil] at h2
    refine mem_ready.2 ⟨hil,h2,o,h3,fun e he hb=> ?_⟩
    have hlt:=edgB_at hd (by rw[Array.getElem?_toList];exact h3) e he hb
    have:=h4 e he hb
    rwa [getD_push hsz (by omega)] at this
   ·intro hi
    obtain ⟨h1,h2,o,h3,h4⟩:=mem_ready.1 hi
    refine mem_ready.2 ⟨by simp;omega,by rw[getD_push hsz h1];exact h2,o,by rw[hold i h1];exact h3,fun e he hb=> ?_⟩
    have hlt:=edgB_at hd (by rw[Array.getElem?_toList];exact h3) e he hb
    rw[getD_push hsz (by omega)]
    exact h4 e he hb
  refine ⟨fun hn=> ?_,fun i hi=> ?_⟩
  ·exfalso
   by_cases hr:Region.ready .any pre listed= []
   ·have hall:=ready_nil hd hsz hr
    have hm:pre.size∈Region.ready .any (pre.push m) (listed.push false):=mem_ready.2 ⟨by simp,by rw[Array.getD_eq_getD_getElem?,←hsz,Array.getElem?_push_size];rfl,m,hlast,fun e he hb=>by
     have hlt:e.on<pre.size:=by
      have:=hl3 e he
      simpa [hb] using this
     rw[getD_push hsz hlt,←getD_tf (by omega)]
     exact hall _ hlt⟩
    rw[hn] at hm
    cases hm
   ·apply hr
    refine List.eq_nil_iff_forall_not_mem.2 fun j hj=> ?_
    have:=(hcase j (mem_ready.1 hj).1).2 hj
    rw[hn] at this
    cases this
  ·by_cases ei:i=pre.size
   ·subst ei
    exact runM (fuel+1) listed a w hsz hdc hi h
   ·have hil:i<pre.size:=by
     have:=(mem_ready.1 hi).1
     simp only[Array.size_push] at this
     omega
    have hi':=(hcase i hil).1 hi
    obtain ⟨h1,_,o,h3,_⟩:=mem_ready.1 hi'
    have h5:=h.2 i hi'
    unfold wpOp at h5⊢
    rw[hold i h1]
    rw[h3] at h5⊢
    simp only at h5⊢
    have hw:Region.wanted o (yielded (pre.push m) a.tmps)=Region.wanted o (yielded pre a.tmps):=by
     unfold Region.wanted
     cases hg:o.guard with
     |none=>rfl
     |some x=>
      obtain ⟨j,b⟩:=x
      have hm:o∈pre.toList:=by
       rw[←Array.getElem?_toList] at h3
       exact List.mem_of_getElem? h3
      have:=hl4 o hm
      rw[hg] at this
      simp only[decide_eq_true_eq] at this
      simp only[yielded,hold j this]
    have hstep: ∀a' w',wpAny P .any pre (Qt P m Q) fuel (listed.setIfInBounds i true) a' w'→wpAny P .any (pre.push m) Q (fuel+1) ((listed.push false).setIfInBounds i true) a' w':=fun a' w' hq=>by
     rw[set_push (by omega)]
     exact ih _ a' w' (by simpa using hsz) (hdc.set hsz hi') hq
    have hQ: ∀e a w,e≠Exit.normal→Qt P m Q e a w→Q e a w:=fun e a w he hq=>by
     cases e<;>first|exact absurd rfl he|exact hq
    rw[hw]
    split at h5
    ·rename_i hwt
     rw[if_pos hwt]
     rcases h5 with h5|⟨h5,a1,w1,h6⟩
     ·exact .inl (wp_congrQ hQ (Oper.wp_mono hstep h5))
     ·exact .inr ⟨h5,a1,w1,h6⟩
    ·rename_i hwt
     rw[if_neg hwt]
     exact hstep _ _ h5
end
def Qts (P:Program):List Oper→(Exit→Act→World→Prop)→Exit→Act→World→Prop
 | [],Q=>Q
 |o::r,Q=>Qt P o (Qts P r Q)
def tailsOk:List Oper→List Oper→Bool
 |_,[]=>true
 |pre,o::r=>edgB pre&& (tailC pre o&&tailsOk (pre++ [o]) r)
theorem DC0 (pre:Array Oper) (n:Nat):DC pre (Array.replicate n false):=fun k o _ h=>by
 exfalso
 rw[Array.getD_eq_getD_getElem?,Array.getElem?_replicate] at h
 split at h<;>cases h
theorem wpAny_tails: ∀ (tail:List Oper) {pre:Array Oper},tailsOk pre.toList tail=true→wpAny P .any pre (Qts P tail Q) pre.size (Array.replicate pre.size false) a w→
  wpAny P .any (pre++tail.toArray) Q (pre++tail.toArray).size (Array.replicate (pre++tail.toArray).size false) a w
 | [],pre,_,h=>by simpa [Qts] using h
 |o::r,pre,ht,h=>by
  simp only[tailsOk,Bool.and_eq_true] at ht
  have h1:=wpAny_tailC ht.1 ht.2.1 _ _ _ _ (by simp) (DC0 _ _) h
  have h2:(Array.replicate pre.size false).push false=Array.replicate (pre.push o).size false:=by rw[Array.size_push,Array.replicate_succ]
  rw[h2,show pre.size+1=(pre.push o).size by simp] at h1
  have h3:=wpAny_tails r (pre:=pre.push o) (by rw[Array.toList_push];exact ht.2.2) h1
  have e:pre++(o::r).toArray=pre.push o++r.toArray:=by
   apply Array.ext'
   simp
  rw[e]
  exact h3
def evT (P:Program) (ti:TT):List Oper→(Env→Prop)→Env→Prop
 | [],K,E=>K E
 |o::r,K,E=>evU P ti o (evT P ti r K) E
theorem evT_ok (hT:TGood P ti): ∀ (tail:List Oper) {E:Env} {tag:Nat→Tag} {hv:Hv} {a:Act} {w:World},St w0 tag0 E tag hv a w→evT P ti tail K E→(∀E' tag' hv' a' w',St w0 tag0 E' tag' hv' a' w'→K E'→Q .normal a' w')→Qts P tail Q .normal a w
 | [],_,_,_,_,_,hs,h,hN=>hN _ _ _ _ _ hs h
 |o::r,_,_,_,_,_,hs,h,hN=>evU_ok hT hs h (fun E' tag' hv' a' w' hs' hk=>evT_ok hT r hs' hk hN)
def tailK (o:Oper):Bool:=match o.op with
 | .store _ _ _=>true
 | .fieldAddr _ _ _=>true
 | .indexAddr _ _ _=>true
 | .nilCheck _=>true
 | .move _=>true
 |_=>false
def splitR:List Oper→List Oper→Option (List Oper×Oper×List Oper)
 | [],_=>none
 |o::r,acc=>match tailK o with
  |true=>splitR r (o::acc)
  |false=>match o.op with
   | .call c=>match c.callee with
    | .builtin .append=>some (r.reverse,o,acc)
    |_=>match acc with
     |t::_=>match t.op with
      | .indexAddr _ _ _=>none
      |_=>some (r.reverse,o,acc)
     |_=>some (r.reverse,o,acc)
   |_=>none
def splitA (ops:List Oper):Option (List Oper×Oper×List Oper):=match ops.reverse with
 |o::r=>match o.op with
  | .store _ _ _=>splitR r [o]
  |_=>none
 | []=>none
theorem splitR_eq: ∀ {l acc pre tail:List Oper} {m:Oper},splitR l acc=some (pre,m,tail)→l.reverse++acc=pre++m::tail∧ ∃c,m.op= .call c
 | [],_,_,_,_,h=>by cases h
 |o::r,acc,pre,tail,m,h=>by
  simp only[splitR] at h
  split at h
  ·obtain ⟨h1,h2⟩:=splitR_eq h
   exact ⟨by simpa using h1,h2⟩
  ·split at h
   ·rename_i c hc
    split at h
    ·cases h
     exact ⟨by simp,c,hc⟩
    ·split at h
     ·split at h
      ·cases h
      ·cases h
       exact ⟨by simp,c,hc⟩
     ·cases h
      exact ⟨by simp,c,hc⟩
   ·cases h
theorem splitA_eq {ops pre tail:List Oper} {m:Oper} (h:splitA ops=some (pre,m,tail)):ops=pre++m::tail∧ ∃c,m.op= .call c:=by
 unfold splitA at h
 split at h
 ·rename_i o r hr
  split at h
  ·obtain ⟨h1,h2⟩:=splitR_eq h
   refine ⟨?_,h2⟩
   rw[←h1]
   have:ops=(o::r).reverse:=by rw[←hr,List.reverse_reverse]
   rw[this]
   simp
  ·cases h
 ·cases h
def leadL:List Oper→List Oper
 | []=> []
 |o::r=>match o.op with
  | .move _=>o::leadL r
  | .fieldAddr _ _ _=>o::leadL r
  | .load _ (.tmp _)=>o::leadL r
  |_=> []
def leadA (pre tail:List Oper):List Oper:=match tail with
 |o::_=>match o.op with
  | .indexAddr _ _ _=>leadL pre
  |_=> []
 | []=> []
def xsT (ti:TT):List Oper→Prop
 | []=>True
 |o::r=>(match o.op with
  | .fieldAddr t _ f=>(ti t).ok=true∧((ti t).fld f).isSome=true
  |_=>True)∧xsT ti r
def xsE (E:Env):List Oper→Prop
 | []=>True
 |o::r=>(match o.op with
  | .load _ (.tmp s)=>match lkp E.sl s with
   |some (.p (.bx b _))=>(lkp E.bx b).isSome=true
   |_=>False
  |_=>True)∧xsE E r
theorem leadL_get: ∀ {l:List Oper} {i:Nat} {o:Oper},(leadL l)[i]? =some o→l[i]? =some o
 | [],i,o,h=>by simp[leadL] at h
 |x::r,i,o,h=>by
  unfold leadL at h
  cases i with
  |zero=>split at h<;>simp_all
  |succ i=>split at h<;>first|(simp at h;simpa using leadL_get h)|simp at h
theorem leadL_kind: ∀ {l:List Oper} {o:Oper},o∈leadL l→(∃s,o.op= .move s)∨(∃t s f,o.op= .fieldAddr t s f)∨ ∃t s,o.op= .load t (.tmp s)
 | [],o,h=>by simp[leadL] at h
 |x::r,o,h=>by
  unfold leadL at h
  split at h
  ·rename_i s hs
   rcases List.mem_cons.1 h with rfl|h
   ·exact .inl ⟨s,hs⟩
   ·exact leadL_kind h
  ·rename_i t s f hs
   rcases List.mem_cons.1 h with rfl|h
   ·exact .inr (.inl ⟨t,s,f,hs⟩)
   ·exact leadL_kind h
  ·rename_i t s hs
   rcases List.mem_cons.1 h with rfl|h
   ·exact .inr (.inr ⟨t,s,hs⟩)
   ·exact leadL_kind h
  ·cases h
theorem xsT_mem {o:Oper}: ∀ {l:List Oper},xsT ti l→o∈l→match o.op with| .fieldAddr t _ f=>(ti t).ok=true∧((ti t).fld f).isSome=true|_=>True
 |x::r,h,hm=>by
  rcases List.mem_cons.1 hm with rfl|hm
  ·exact h.1
  ·exact xsT_mem h.2 hm
theorem xsE_mem {o:Oper} {t s:Nat} (ho:o.op= .load t (.tmp s)): ∀ {l:List Oper},xsE E l→o∈l→ ∃b off ls,lkp E.sl s=some (.p (.bx b off))∧lkp E.bx b=some ls
 |x::r,h,hm=>by
  rcases List.mem_cons.1 hm with rfl|hm
  ·have h1:=h.1
   rw[ho] at h1
   simp only at h1
   split at h1
   ·rename_i b off hs
    exact ⟨b,off,_,hs,(Option.isSome_iff_exists.1 h1).choose_spec⟩
   ·exact h1.elim
  ·exact xsE_mem ho h.2 hm
def isApp (m:Oper):Bool:=match m.op with
 | .call c=>match c.callee with| .builtin .append=>true|_=>false
 |_=>false
def kApp (P:Program) (ti:TT) (lead:List Oper) (m:Oper) (K:Env→Prop):Env→Prop:=fun E=>match m.op with
 | .call c=>match c.callee with
  | .builtin .append=>xsE E lead∧match apE ti E (dn m) c with
   |some (C,E')=>C∧K (E'.put m.dst (.v false [.r [dn m]]))
   |none=>False
  |_=>evU P ti m K E
 |_=>False
def kT (P:Program) (ti:TT) (tail:List Oper) (K:Env→Prop):Env→Prop:=fun E=>evT P ti tail K E
def appOk (pre tail:List Oper) (m:Oper):Bool:=drawOk pre&& (match isApp m with
 |true=>lateOk pre m&& ((List.range pre.length).all (fun i=> !lateI pre m i||decide (i< (leadA pre tail).length))&& (edgB (pre++ [m])&&tailsOk (pre++ [m]) tail))
 |false=>tailsOk pre (m::tail))
theorem evA_region (hT:TGood P ti) (hm:P.follows .mixedOrders=true) {id:Nat} {bb:Bool} {ops:Array Oper} {pre tail:List Oper} {m:Oper} (hsp:splitA ops.toList=some (pre,m,tail)) (hok:appOk pre tail m=true) (hx:xsT ti (leadA pre tail))
  (h:evD P ti bb pre pre 0 (kApp P ti (leadA pre tail) m (kT P ti tail K)) [] [] (E.fresh (famA pre))) (hs:St w0 tag0 E tag hv a w)
  (hN: ∀E' tag' hv' a' w',St w0 tag0 E' tag' hv' a' w'→K E'→Q .normal a' w'):(Code.region id ops true).wp P Q a w:=by
 obtain ⟨hops,c,hc⟩:=splitA_eq hsp
 have ho:ops=(pre.toArray.push m)++tail.toArray:=by
  apply Array.ext'
  rw[hops]
  simp
 subst ho
 simp only[appOk,Bool.and_eq_true] at hok
 obtain ⟨hd,hok⟩:=hok
 have hd':drawOk (pre.toArray).toList=true:=by simpa using hd
 have h':evD P ti bb (pre.toArray).toList (pre.toArray).toList 0 (kApp P ti (leadA pre tail) m (kT P ti tail K)) [] [] (E.fresh (famA (pre.toArray).toList)):=by simpa using h
 cases hia:isApp m with
 |false=>
  rw[hia] at hok
  simp only at hok
  refine wp_region_any hm ?_
  have h1:=evD_any (Q:=Qts P (m::tail) Q) hT hd' h' hs (fun E' tag' hv' a' w' hs' hk=>by
   refine evT_ok (K:=K) hT (m::tail) hs' ?_ hN
   simp only[kApp,hc] at hk
   split at hk
   ·rename_i hcal
    simp[isApp,hc,hcal] at hia
   ·exact hk)
  have h2:=wpAny_tails (m::tail) (pre:=pre.toArray) (by simpa using hok) h1
  have e:pre.toArray++(m::tail).toArray=pre.toArray.push m++tail.toArray:=by
   apply Array.ext'
   simp
  rw[e] at h2
  exact h2
 |true=>
  rw[hia] at hok
  simp only[Bool.and_eq_true,List.all_eq_true,List.mem_range,Bool.or_eq_true,Bool.not_eq_true',decide_eq_true_eq] at hok
  obtain ⟨hl,hlate,hd2,htl⟩:=hok
  have hmem: ∀i o,lateI pre m i=true→pre[i]? =some o→o∈leadL pre∧o∈leadA pre tail:=by
   intro i o hi ho
   have hil:i<pre.length:=(List.getElem?_eq_some_iff.1 ho).1
   have h1:=(hlate i hil).resolve_left (by rw[hi];simp)
   have h2:(leadA pre tail)[i]? =some o:=by
    rw[List.getElem?_eq_getElem h1]
    have h3:leadA pre tail=leadL pre∨leadA pre tail= []:=by
     unfold leadA
     split
     ·split<;>simp
     ·simp
    rcases h3 with h3|h3
    ·have h4:(leadL pre)[i]? =some ((leadA pre tail)[i]):=by
      rw[←h3,List.getElem?_eq_getElem h1]
     have:=leadL_get h4
     rw[ho] at this
     rw[←this]
    ·rw[h3] at h1;simp at h1
   have h5:=List.mem_of_getElem? h2
   refine ⟨?_,h5⟩
   unfold leadA at h5
   split at h5
   ·split at h5
    ·exact h5
    ·cases h5
   ·cases h5
  have hq: ∀i o,lateI (pre.toArray).toList m i=true→(pre.toArray)[i]? =some o→Quiet P o:=by
   intro i o hi ho
   obtain ⟨hm1,hm2⟩:=hmem i o (by simpa using hi) (by simpa using ho)
   rcases leadL_kind hm1 with ⟨s,hs⟩|⟨t,s,f,hs⟩|⟨t,s,hs⟩
   ·exact quiet_move hs
   ·have:=xsT_mem hx hm2
    rw[hs] at this
    obtain ⟨⟨off,u⟩,hf⟩:=Option.isSome_iff_exists.1 this.2
    exact quiet_field (hT t this.1) hf hs
   ·exact quiet_load hs
  have key:(Code.region id (pre.toArray.push m++tail.toArray) true).wp P (QN Q) a w:=by
   refine wp_region_any hm ?_
   have h1:=evD_any (Q:=Qm P pre m (Qts P tail (QN Q))) hT hd' h' hs (fun E' tag' hv' a' w' hs' hk=>by
    simp only[kApp,hc] at hk
    split at hk
    ·obtain ⟨hx2,hk⟩:=hk
     split at hk
     ·rename_i C E2 hap
      obtain ⟨v,w1,tg,hh,q1,q2,q3,q4⟩:=apE_ok hT hs' hc hap hk.1
      refine ⟨rfl,.value v,w1,q1,.inl ⟨v,rfl⟩,evT_ok (K:=K) hT tail (q2.put q3) hk.2 (fun E3 tag3 hv3 a3 w3 hs3 hk3=>⟨rfl,hN _ _ _ _ _ hs3 hk3⟩),fun i o s hi ho hld=> ?_⟩
      obtain ⟨hm1,hm2⟩:=hmem i o hi ho
      unfold ldS at hld
      split at hld
      ·rename_i t s' hop
       cases hld
       obtain ⟨b,off,ls,g1,g2⟩:=xsE_mem hop hx2 hm2
       exact q4 _ b off ls g1 g2
      ·cases hld
     ·exact hk.elim
    ·rename_i hne
     exfalso
     unfold isApp at hia
     rw[hc] at hia
     simp only at hia
     cases hia)
   have h2:=wpAny_late (Q:=Qts P tail (QN Q)) (edgB_of hd') (by simpa using hl) hq pre.toArray.size (Array.replicate pre.toArray.size false) _ _ (by simp) (DC0 _ _) h1
   have h3:(Array.replicate pre.toArray.size false).push false=Array.replicate (pre.toArray.push m).size false:=by rw[Array.size_push,Array.replicate_succ]
   rw[h3,show pre.toArray.size+1=(pre.toArray.push m).size by simp] at h2
   exact wpAny_tails tail (pre:=pre.toArray.push m) (by simpa using htl) h2
  exact wp_mono key (fun e a w hq=>by obtain ⟨rfl,hq⟩:=hq;exact hq)
theorem store_nx {st:Oper} {ty:Nat} {p q:Operand} {N:Act→World→Prop} {R:Exit→Act→World→Prop} (hR: ∀e a w,e≠ .normal→ ¬R e a w) (ho:st.op= .store ty p q) (hd:st.dst=none) (h:st.wp P a w N R):
  ∃w1,(execOp a.eval st).run P w= .ok .skip w1∧N a w1:=by
 unfold Oper.wp at h
 have he:execOp a.eval st=(do Instr.storeAt ty (a.eval p) (a.eval q);pure .skip:Sem Next):=by simp[execOp,ho]
 rw[he] at h⊢
 rw[Sem.run_bind] at h⊢
 cases hs:(Instr.storeAt ty (a.eval p) (a.eval q)).run P w with
 |ok u w2=>
  rw[hs] at h
  simp only[Result.andThen_ok,Sem.run_pure,Oper.upon,hd] at h⊢
  exact ⟨w2,rfl,h⟩
 |halt x w2=>
  rw[hs] at h
  cases x<;>simp only[Result.andThen,Oper.upon] at h<;>first|exact h.elim|exact (hR _ _ _ (by simp) h).elim
def isAss (o:Oper):Bool:=match o.op with
 | .assign _=>true
 |_=>false
def splitQ:List Oper→List Oper→Option (List Oper×Oper×List Oper)
 | [],_=>none
 |o::r,acc=>match isAss o with
  |true=>splitQ r (o::acc)
  |false=>match o.op with
   | .store _ _ _=>some (r.reverse,o,acc)
   |_=>none
def splitS (ops:List Oper):Option (List Oper×Oper×List Oper):=match ops.reverse with
 |o::o'::r=>match isAss o,isAss o' with
  |true,true=>splitQ r [o',o]
  |_,_=>none
 |_=>none
theorem splitQ_eq: ∀ {l acc pre tail:List Oper} {m:Oper},splitQ l acc=some (pre,m,tail)→l.reverse++acc=pre++m::tail∧ ∃t p q,m.op= .store t p q
 | [],_,_,_,_,h=>by cases h
 |o::r,acc,pre,tail,m,h=>by
  simp only[splitQ] at h
  split at h
  ·obtain ⟨h1,h2⟩:=splitQ_eq h
   exact ⟨by simpa using h1,h2⟩
  ·split at h
   ·rename_i t p q hc
    cases h
    exact ⟨by simp,t,p,q,hc⟩
   ·cases h
theorem splitS_eq {ops pre tail:List Oper} {m:Oper} (h:splitS ops=some (pre,m,tail)):ops=pre++m::tail∧ ∃t p q,m.op= .store t p q:=by
 unfold splitS at h
 split at h
 ·rename_i o o' r hr
  split at h
  ·obtain ⟨h1,h2⟩:=splitQ_eq h
   refine ⟨?_,h2⟩
   rw[←h1]
   have:ops=(o::o'::r).reverse:=by rw[←hr,List.reverse_reverse]
   rw[this]
   simp
  ·cases h
 ·cases h
end Go.Sm
namespace Go.Sm
open Go.RowKit
set_option linter.unusedVariables false
set_option linter.unusedSimpArgs false
variable {P : Program} {ti : TT} {E : Env} {tag tag' tag0 : Nat → Tag} {hv hv' : Hv} {a : Act} {w w' w0 w1 : World} {t d : Nat}
variable {Q : Exit → Act → World → Prop} {K : Env → Prop}
def Det (P:Program) {α:Type} (s:Sem α):Prop:= ∀w v w',s.run P w= .ok v w'→w'=w∧ ∀w1,s.run P w1= .ok v w1
theorem Det.pure {α:Type} (x:α):Det P (Pure.pure x:Sem α):=fun w v w' h=>by
 simp only[Sem.run_pure,Result.ok.injEq] at h⊢
 exact ⟨h.2.symm,fun _=>⟨h.1,trivial⟩⟩
theorem Det.bind {α β:Type} {s:Sem α} {f:α→Sem β} (h:Det P s) (hf: ∀x,Det P (f x)):Det P (s>>=f):=fun w v w' hr=>by
 rw[Sem.run_bind] at hr
 cases hs:s.run P w with
 |ok x w2=>
  rw[hs] at hr
  simp only[Result.andThen_ok] at hr
  obtain ⟨rfl,h1⟩:=h _ _ _ hs
  obtain ⟨rfl,h2⟩:=hf x _ _ _ hr
  exact ⟨rfl,fun w1=>by rw[Sem.run_bind,h1 w1];exact h2 w1⟩
 |halt y w2=>rw[hs] at hr;cases hr
theorem Det.halt {α:Type} {s:Sem α} (h: ∀w v w',s.run P w≠ .ok v w'):Det P s:=fun w v w' hr=>absurd hr (h _ _ _)
theorem Det.stuck {α:Type} (m:String):Det P (Go.stuck m:Sem α):= .halt fun w v w' h=>by simp[Go.stuck,Sem.run] at h
theorem Det.unsupported {α:Type} (m:Unsupported):Det P (Go.unsupported m:Sem α):= .halt fun w v w' h=>by simp[Go.unsupported,Sem.run] at h
theorem Det.rd {α:Type} {s:Sem α} (h:Rd (fun _=>False) s):Det P s:=fun w v w' hr=>⟨h.same hr,fun w1=>h.move (fun k hk=>hk.elim) hr⟩
theorem Det.bounds {α:Type} (k:IntKind) (x y:Int) (c:BoundsCode):Det P (boundsPanic k x y c:Sem α):= .halt fun w v w' h=>by
 have hp: ∀ (b:Bool) w v w',(runtimePanic (.bounds (IntKind.i64.wrap x) y b c):Sem α).run P w≠ .ok v w':=fun b w v w' h=>by
  simp[runtimePanic,goPanic,program,Sem.run] at h
 unfold boundsPanic at h
 dsimp only at h
 split at h
 ·rw[Sem.run_bind] at h
  cases hs:((· ==1)<$>choose (.extern "runtime.boundsError.signed" 2):Sem Bool).run P w with
  |ok z w2=>rw[hs] at h;exact hp _ _ _ _ h
  |halt z w2=>rw[hs] at h;cases h
 ·exact hp _ _ _ _ h
theorem Det.indexAt (t:TypeId) (x ix:Value):Det P (Instr.indexAt t x ix):=by
 unfold Instr.indexAt
 refine Det.bind ?_ fun y=> ?_
 ·unfold asIntOf
  split
  ·exact .pure _
  ·exact .unsupported _
  ·exact .stuck _
 ·refine Det.bind (.rd (Rd.underlying _ t)) fun u=> ?_
  have hj: ∀z:Option Addr×Nat×TypeId,Det P (match z with
   |(base,len,elem)=>do
    let __do_lift←Go.underlying t
    let tiny:=len≤1&& (match __do_lift with| .array .. =>true|_=>false)
    match base with
    |some a=>
     if 0≤y.2∧y.2<len then Pure.pure (Value.pointer (some (a.add (y.2.toNat* (←Go.sizeOf elem)))))
     else if tiny then Go.unsupported (.noEntry "op/indexAddr.an index out of range at an array of length 0 or 1 (ledger 616)")
     else boundsPanic y.1 y.2 len .index
    |none=>boundsPanic y.1 y.2 0 .index):=by
   rintro ⟨base,len,elem⟩
   have hj2: ∀tiny:Bool,Det P (match base with
    |some a=>
     if 0≤y.2∧y.2<len then (do Pure.pure (Value.pointer (some (a.add (y.2.toNat* (←Go.sizeOf elem))))))
     else if tiny then Go.unsupported (.noEntry "op/indexAddr.an index out of range at an array of length 0 or 1 (ledger 616)")
     else boundsPanic y.1 y.2 len .index
    |none=>boundsPanic y.1 y.2 0 .index):=by
    intro tiny
    cases base with
    |none=>exact .bounds _ _ _ _
    |some a=>
     dsimp only
     split
     ·exact Det.bind (.rd (Rd.sizeOf _ _)) fun n=> .pure _
     ·split
      ·exact .unsupported _
      ·exact .bounds _ _ _ _
   exact Det.bind (.rd (Rd.underlying _ t)) fun u2=>hj2 _
  split
  ·refine Det.bind ?_ fun v=>Det.bind (.pure _) fun z=>hj z
   unfold Instr.sureAddr
   split
   ·exact .pure _
   ·exact .stuck _
  ·exact Det.bind (.pure _) fun z=>hj z
  ·exact Det.bind (.stuck _) fun z=>hj z
theorem quiet_index {x:Oper} {t:Nat} {s i:Operand} (h:x.op= .indexAddr t s i):Quiet P x:=by
 intro a w w' nx hr
 simp only[execOp,h] at hr⊢
 obtain ⟨v,rfl,h1⟩:=val_run hr
 obtain ⟨q1,q2⟩:=Det.indexAt t (a.eval s) (a.eval i) _ _ _ h1
 exact ⟨q1,⟨v,rfl⟩,fun w1 _=>val_run' (q2 w1)⟩
theorem store_frame {w':World} (hs:St w0 tag0 E tag hv a w) {b off:Nat} {ls new:List LV} {ag:Bool} {X V:Value} (hT:TGood P ti) (hok:(ti t).ok=true) (hb:lkp E.bx b=some ls) (hp:SR tag hv w (.p (.bx b off)) X) (hv1:VV tag hv w ag new V)
  (hlen:new.length=(ti t).sz) (hoff:off+new.length≤ls.length) (hr:(Instr.storeAt t X V).run P w= .ok () w'): ∀b',tag b'≠ .own [b,0]→w'.heap[b']? =w.heap[b']? :=by
 obtain ⟨k,hk1,rfl⟩:=hp
 obtain ⟨k',cur,e,hk2,ht,hbl,hall⟩:=hs.bx b ls hb
 rw[hk1] at hk2
 cases hk2
 obtain ⟨cs,rfl,hcs,hag⟩:=hv1
 have hcells:=cells_mkV hcs hag
 have hcl:cs.length=new.length:=hcs.len.symm
 have hcur:cur.size=ls.length:=by rw[hall.len];simp
 have g:=hT t hok
 obtain ⟨w2,h1,h2,h3,h4,h5,h6,cur',h7,h8,h9⟩:=run_storeCells_blk (P:=P) k e cs cur off 0 w hbl (by omega) (fun v hv=>by
  obtain ⟨j,hj⟩:=List.getElem?_of_mem hv
  have hj2:j<new.length:=by rw[←hcl];exact (List.getElem?_eq_some_iff.1 hj).1
  exact (hcs.get j _ _ (List.getElem?_eq_getElem hj2) hj).one)
 have hsz:=g.size w
 have h10:(mkV ag cs).cells.size=(ti t).sz:=by rw[←Array.length_toList,hcells,hcl,hlen]
 simp only[Instr.storeAt,Instr.sureAddr,Sem.run_bind,Sem.run_pure,Result.andThen_ok,storeVar,hsz,h10,ne_eq,not_true_eq_false,if_false,hcells,h1,Result.ok.injEq] at hr
 obtain ⟨_,rfl⟩:=hr
 exact fun b' hne=>h6 b' (fun e=>hne (e▸ht))
theorem store_framePt (hT:TGood P ti) (hs:St w0 tag0 E tag hv a w) {p:List Nat} {sz i off:Nat} {new:List LV} {ag:Bool} {X V:Value} {C:Prop} {E':Env} {w':World} (hok:(ti t).ok=true)
  (hp:SR tag hv w (.p (.pt p sz i off)) X) (hv1:VV tag hv w ag new V) (hlen:new.length=(ti t).sz) (hst:E.stPt p i off new=some (C,E')) (hC:C)
  (hsz: ∀z,(∃r rest x e cols rows,p=r::rest∧lkp E.rt r=some x∧getL rest x=some (.o e cols,.ls z rows))→z.length=sz) (hr:(Instr.storeAt t X V).run P w= .ok () w'):
  ∃b,normT tag hv b= .own p∧ ∀b',b'≠b→w'.heap[b']? =w.heap[b']? :=by
 replace hs:=hs.norm
 replace hv1:=hv1.norm
 have hp:PR (normT tag hv) hv w (.pt p sz i off) X:=PR.norm hp
 generalize normT tag hv=tag at hs hv1 hp⊢
 cases p with
 |nil=>simp[Env.stPt] at hst
 |cons r rest=>
  simp only[Env.stPt] at hst
  split at hst
  ·rename_i x ys hx hys
   split at hst
   ·rename_i e cols z rows hg
    cases hst
    obtain ⟨hvl,hi,hoff,hrk,hnd⟩:=hC
    have hzs:z.length=sz:=hsz z ⟨r,rest,x,e,cols,rows,rfl,hx,hg⟩
    have hroot:=hs.rt r x hx
    obtain ⟨v',h1,_⟩:=VR.get rest [r] _ _ _ _ _ hroot hvl hg
    obtain ⟨hh1,h0|⟨b,c,cur,rfl,hc,hm,ht,hbl,hcs,hl,hr0⟩⟩:=h1.open_own
    ·rw[h0.2] at hi;simp at hi
    obtain ⟨b',n',c',hp1,rfl⟩:=hp
    rw[show ([r]++rest)=r::rest from rfl] at hh1 ht
    rw[hh1] at hp1
    cases hp1
    obtain ⟨cs,rfl,hcs2,hag⟩:=hv1
    have hcells:=cells_mkV hcs2 hag
    have hcl:cs.length=new.length:=hcs2.len.symm
    have hyl:=yvs_len hys
    have hlt:i*z.length+z.length≤cur.size:=by
     rw[hcs]
     have h1:(i+1)*z.length≤c*z.length:=Nat.mul_le_mul_right _ (by omega)
     rw[Nat.add_mul] at h1
     omega
    obtain ⟨w2,q1,q2,q3,q4,q5,q6,cur',q7,q8,q9⟩:=run_storeCells_blk (P:=P) b e cs cur (i*sz+off) 0 w hbl (by rw[←hzs];omega) (fun v hv=>by
     obtain ⟨j,hj⟩:=List.getElem?_of_mem hv
     have hj2:j<new.length:=by rw[←hcl];exact (List.getElem?_eq_some_iff.1 hj).1
     exact (hcs2.get j _ _ (List.getElem?_eq_getElem hj2) hj).one)
    have g:=hT t hok
    have hsz2:=g.size w
    have h10:(mkV ag cs).cells.size=(ti t).sz:=by rw[←Array.length_toList,hcells,hcl,hlen]
    simp only[Instr.storeAt,Instr.sureAddr,Sem.run_bind,Sem.run_pure,Result.andThen_ok,storeVar,hsz2,h10,ne_eq,not_true_eq_false,if_false,hcells,q1,Result.ok.injEq] at hr
    obtain ⟨_,rfl⟩:=hr
    exact ⟨b,ht,q6⟩
   ·cases hst
  ·cases hst
def tailX (m:Oper):Bool:=match m.op with
 | .store _ _ _=>m.dst.isNone
 | .assign _=>true
 | .fieldAddr _ _ _=>true
 | .indexAddr _ _ _=>true
 |_=>false
theorem nx_of {m:Oper} {N:Act→World→Prop} (ht:tailX m=true) (h:m.wp P a w N (fun _ _ _=>False)): ∃nx w1,(execOp a.eval m).run P w= .ok nx w1∧NxOk m nx∧N (nxPut m a nx) w1:=by
 have hv: ∀s:Sem Value,execOp a.eval m=(do pure (Next.value (←s)):Sem Next)→ ∃nx w1,(execOp a.eval m).run P w= .ok nx w1∧NxOk m nx∧N (nxPut m a nx) w1:=fun s he=>by
  unfold Oper.wp at h
  cases hr:(execOp a.eval m).run P w with
  |ok nx w1=>
   rw[hr] at h
   have hr2:=hr
   rw[he] at hr2
   obtain ⟨v,rfl,_⟩:=val_run hr2
   exact ⟨_,_,rfl,.inl ⟨v,rfl⟩,h⟩
  |halt y w1=>
   rw[hr] at h
   cases y<;>exact h.elim
 unfold tailX at ht
 split at ht
 ·rename_i ty p q ho
  obtain ⟨w1,q1,q2⟩:=store_nx (fun _ _ _ _ h=>h) ho (by simpa using ht) h
  exact ⟨_,_,q1,.inr ⟨rfl,by simpa using ht⟩,q2⟩
 ·rename_i s ho
  unfold Oper.wp at h
  have he:execOp a.eval m=(pure (.value (a.eval s)):Sem Next):=by simp[execOp,ho]
  rw[he] at h⊢
  exact ⟨_,_,rfl,.inl ⟨_,rfl⟩,h⟩
 ·rename_i ty x f ho
  exact hv (Instr.fieldAt ty (a.eval x) f) (by simp[execOp,ho])
 ·rename_i ty x i ho
  exact hv (Instr.indexAt ty (a.eval x) (a.eval i)) (by simp[execOp,ho])
 ·cases ht
def teL (pre:List Oper) (m:Oper):List Oper:=m.after.toList.filterMap fun e=>match e.ground with
 | .textOnly _=>pre[e.on]?
 |_=>none
def lateKd (o m:Oper):Bool:=match o.op with
 | .extract _ _=>true
 | .move _=>true
 | .fieldAddr _ _ _=>true
 | .indexAddr _ _ _=>true
 | .load _ (.tmp _)=>true
 |_=>false
def lateTe (pre:List Oper) (m:Oper):Bool:=(List.range pre.length).all fun i=> !lateI pre m i||(m.after.toList.any (fun e=>decide (e.on=i)&& (match e.ground with| .textOnly _=>true|_=>false))&& (match pre[i]? with|some o=>lateKd o m|none=>true))
def latesOk:List Oper→List Oper→Bool
 |_,[]=>true
 |pre,m::r=>edgB pre&& (lateOk pre m&& (tailX m&& (lateTe pre m&&latesOk (pre++ [m]) r)))
def xsG (ti:TT):List Oper→List Oper→Prop
 |_,[]=>True
 |pre,m::r=>xsT ti (teL pre m)∧xsG ti (pre++ [m]) r
def ld1 (ti:TT) (E:Env) (m:Oper) (s:Nat):Prop:=match m.op with
 | .store ty x y=>match opd ti E 0 x with
  |some (.p (.bx b _))=>match lkp E.sl s with
   |some (.p (.bx b' _))=>b'≠b∧(lkp E.bx b').isSome=true
   |some (.p (.ps ds))=>0<ds.length
   |_=>False
  |some (.p (.pt p _ i off))=>(match opd ti E ty y with
   |some (.v _ new)=>(E.nlP p i off new).isNone=true
   |_=>False)∧match lkp E.sl s with
   |some (.p (.bx b' _))=>p≠ [b',0]∧(lkp E.bx b').isSome=true
   |some (.p (.ps ds))=>0<ds.length
   |_=>False
  |_=>False
 |_=>False
def ldsG (ti:TT) (E:Env) (m:Oper):List Oper→Prop
 | []=>True
 |o::r=>(match o.op with
  | .load _ (.tmp s)=>ld1 ti E m s
  |_=>True)∧ldsG ti E m r
theorem ldsG_mem {m o:Oper} {t s:Nat} (ho:o.op= .load t (.tmp s)): ∀ {l:List Oper},ldsG ti E m l→o∈l→ld1 ti E m s
 |x::r,h,hm=>by
  rcases List.mem_cons.1 hm with rfl|hm
  ·have h1:=h.1
   rw[ho] at h1
   exact h1
  ·exact ldsG_mem ho h.2 hm
def evL (P:Program) (ti:TT):List Oper→List Oper→(Env→Prop)→Env→Prop
 |_,[],K,E=>K E
 |pre,m::r,K,E=>ldsG ti E m (teL pre m)∧evU P ti m (evL P ti (pre++ [m]) r K) E
def QmS (P:Program):List Oper→List Oper→(Exit→Act→World→Prop)→Exit→Act→World→Prop
 |_,[],Q=>Q
 |pre,m::r,Q=>Qm P pre m (QmS P (pre++ [m]) r Q)
theorem late_te {pre:List Oper} {m:Oper} (h:lateTe pre m=true) {i:Nat} {o:Oper} (hi:lateI pre m i=true) (ho:pre[i]? =some o):lateKd o m=true∧o∈teL pre m:=by
 have hil:i<pre.length:=(List.getElem?_eq_some_iff.1 ho).1
 have h1:=List.all_eq_true.1 h i (List.mem_range.2 hil)
 rw[hi,ho] at h1
 simp only[Bool.not_true,Bool.false_or,Bool.and_eq_true,List.any_eq_true,decide_eq_true_eq] at h1
 obtain ⟨⟨e,he,h2,h3⟩,h4⟩:=h1
 refine ⟨h4,List.mem_filterMap.2 ⟨e,he, ?_⟩⟩
 split at h3
 ·rename_i row hg
  rw[h2,ho]
 ·cases h3
theorem kept_of {m o:Oper} {K:Env→Prop} {nx:Next} (hT:TGood P ti) (hs:St w0 tag0 E tag hv a w) (h:evU P ti m K E) {s t:Nat} (h1:ld1 ti E m s) (hr:(execOp a.eval m).run P w= .ok nx w1):Kept w w1 (a.eval (.tmp s)):=by
 unfold ld1 at h1
 split at h1
 ·rename_i ty x y ho
  split at h1
  ·rename_i b off hx
   unfold evU at h
   rw[ho] at h
   simp only[hx] at h
   split at h
   ·rename_i b2 off2 ag new hx2 hy
    rw[Option.some.injEq,SV.p.injEq,PV.bx.injEq] at hx2
    obtain ⟨rfl,rfl⟩:=hx2
    split at h
    ·rename_i ls hb
     obtain ⟨g1,g2,g3,_⟩:=h
     have hp:=opd_ok hs hx
     have hst:(Instr.storeAt ty (a.eval x) (a.eval y)).run P w= .ok () w1:=by
      simp only[execOp,ho,Sem.run_bind] at hr
      cases hq:(Instr.storeAt ty (a.eval x) (a.eval y)).run P w with
      |ok u w2=>
       rw[hq] at hr
       simp only[Result.andThen_ok,Sem.run_pure,Result.ok.injEq] at hr
       rw[hr.2]
      |halt z w2=>rw[hq] at hr;cases hr
     have hfr:=store_frame hs hT g1 hb hp (opd_ok hs hy) g2 g3 hst
     split at h1
     ·rename_i b' off' hsl
      obtain ⟨h2,h3⟩:=h1
      obtain ⟨ls',h3⟩:=Option.isSome_iff_exists.1 h3
      obtain ⟨k,q1,q2⟩:=hs.sl s _ hsl
      obtain ⟨k',cur,e,q3,q4,q5,_⟩:=hs.bx b' ls' h3
      rw[q1] at q3
      cases q3
      intro z hz
      rw[q2] at hz
      cases hz
      exact ⟨hfr _ (by rw[q4];intro e;injection e with e;injection e with e _;exact h2 e),cur,e,(0,0),q5⟩
     ·rename_i ds hsl
      obtain ⟨b',off',q1,q2,q3⟩:=hs.sl s _ hsl
      intro z hz
      rw[q1] at hz
      cases hz
      refine ⟨hfr _ (by rw[q2];intro e;cases e), ?_⟩
      obtain ⟨u,hu,_⟩:=q3 0 h1
      unfold World.cell? at hu
      split at hu
      ·rename_i c e o hc
       exact ⟨c,e,o,hc⟩
      ·cases hu
     ·exact h1.elim
    ·exact h.elim
   ·rename_i p sz i off2 ag new hx2 hy
    rw[Option.some.injEq,SV.p.injEq] at hx2
    cases hx2
   ·exact h.elim
  ·rename_i p sz i off hx
   unfold evU at h
   rw[ho] at h
   simp only[hx] at h
   split at h
   ·rename_i b2 off2 ag new hx2 hy
    rw[Option.some.injEq,SV.p.injEq] at hx2
    cases hx2
   ·rename_i p' sz' i' off2 ag new hx2 hy
    rw[Option.some.injEq,SV.p.injEq,PV.pt.injEq] at hx2
    obtain ⟨rfl,rfl,rfl,rfl⟩:=hx2
    obtain ⟨hnn,h1⟩:=h1
    rw[hy] at hnn
    simp only[Option.isNone_iff_eq_none] at hnn
    rw[hnn] at h
    simp only at h
    split at h
    ·rename_i C E' hst
     obtain ⟨g1,g2,g3,g4,g5⟩:=h
     have hstr:(Instr.storeAt ty (a.eval x) (a.eval y)).run P w= .ok () w1:=by
      simp only[execOp,ho,Sem.run_bind] at hr
      cases hq:(Instr.storeAt ty (a.eval x) (a.eval y)).run P w with
      |ok u w2=>
       rw[hq] at hr
       simp only[Result.andThen_ok,Sem.run_pure,Result.ok.injEq] at hr
       rw[hr.2]
      |halt z w2=>rw[hq] at hr;cases hr
     obtain ⟨b,hb1,hfr⟩:=store_framePt hT hs g1 (opd_ok hs hx) (opd_ok hs hy) g2 hst g4 (fun z hz=>by
      obtain ⟨r,rest,x,e,cols,rows,rfl,h5,h6⟩:=hz
      simpa [Env.szAt,Env.at_,h5,h6] using g3) hstr
     have hsn:=hs.norm
     split at h1
     ·rename_i b' off' hsl
      obtain ⟨h2,h3⟩:=h1
      obtain ⟨ls',h3⟩:=Option.isSome_iff_exists.1 h3
      obtain ⟨k,q1,q2⟩:=hsn.sl s _ hsl
      obtain ⟨k',cur,e,q3,q4,q5,_⟩:=hsn.bx b' ls' h3
      rw[q1] at q3
      cases q3
      intro z hz
      rw[q2] at hz
      cases hz
      exact ⟨hfr _ (fun e=>by subst e;rw[hb1] at q4;injection q4 with q4;exact h2 q4),cur,e,(0,0),q5⟩
     ·rename_i ds hsl
      obtain ⟨b',off',q1,q2,q3⟩:=hsn.sl s _ hsl
      intro z hz
      rw[q1] at hz
      cases hz
      refine ⟨hfr _ (fun e=>by subst e;rw[hb1] at q2;cases q2), ?_⟩
      obtain ⟨u,hu,_⟩:=q3 0 h1
      unfold World.cell? at hu
      split at hu
      ·rename_i c e o hc
       exact ⟨c,e,o,hc⟩
      ·cases hu
     ·exact h1.elim
    ·exact h.elim
   ·exact h.elim
  ·exact h1.elim
 ·exact h1.elim
theorem evL_ok (hT:TGood P ti): ∀ (tail pre:List Oper) {E:Env} {tag:Nat→Tag} {hv:Hv} {a:Act} {w:World},latesOk pre tail=true→St w0 tag0 E tag hv a w→evL P ti pre tail K E→
  (∀E' tag' hv' a' w',St w0 tag0 E' tag' hv' a' w'→K E'→Q .normal a' w')→QmS P pre tail (QN Q) .normal a w
 | [],_,_,_,_,_,_,_,hs,h,hN=>⟨rfl,hN _ _ _ _ _ hs h⟩
 |m::r,pre,E,tag,hv,a,w,hok,hs,h,hN=>by
  simp only[latesOk,Bool.and_eq_true] at hok
  obtain ⟨k1,k2,k3,k4,k5⟩:=hok
  have h2:=evU_ok (Q:=fun _ _ _=>False) (N:=QmS P (pre++ [m]) r (QN Q) .normal) hT hs h.2 (fun E2 tag2 hv2 a2 w2 hs2 hk2=>evL_ok hT r (pre++ [m]) k5 hs2 hk2 hN)
  obtain ⟨nx,w1,q1,q2,q3⟩:=nx_of k3 h2
  refine ⟨rfl,nx,w1,q1,q2,q3,fun i o s hi ho hld=> ?_⟩
  obtain ⟨g1,g2⟩:=late_te k4 hi ho
  unfold ldS at hld
  split at hld
  ·rename_i t s' hop
   cases hld
   exact kept_of (o:=o) (t:=t) hT hs h.2 (ldsG_mem hop h.1 g2) q1
  ·cases hld
theorem wpAny_lates (hT:TGood P ti): ∀ (tail:List Oper) {pre:Array Oper},latesOk pre.toList tail=true→xsG ti pre.toList tail→wpAny P .any pre (QmS P pre.toList tail Q) pre.size (Array.replicate pre.size false) a w→
  wpAny P .any (pre++tail.toArray) Q (pre++tail.toArray).size (Array.replicate (pre++tail.toArray).size false) a w
 | [],pre,_,_,h=>by simpa [QmS] using h
 |m::r,pre,ht,hx,h=>by
  simp only[latesOk,Bool.and_eq_true] at ht
  obtain ⟨k1,k2,k3,k4,k5⟩:=ht
  have hq: ∀i o,lateI pre.toList m i=true→pre[i]? =some o→Quiet P o:=fun i o hi ho=>by
   obtain ⟨g1,g2⟩:=late_te k4 hi (by rw[Array.getElem?_toList];exact ho)
   unfold lateKd at g1
   split at g1
   ·rename_i s j hs;exact quiet_extract hs
   ·rename_i s hs;exact quiet_move hs
   ·rename_i t s f hs
    have:=xsT_mem hx.1 g2
    rw[hs] at this
    obtain ⟨⟨off,u⟩,hf⟩:=Option.isSome_iff_exists.1 this.2
    exact quiet_field (hT t this.1) hf hs
   ·rename_i t s i hs;exact quiet_index hs
   ·rename_i t s hs;exact quiet_load hs
   ·cases g1
  have h1:=wpAny_late (Q:=QmS P (pre.toList++ [m]) r Q) k1 k2 hq pre.size (Array.replicate pre.size false) _ _ (by simp) (DC0 _ _) h
  have h2:(Array.replicate pre.size false).push false=Array.replicate (pre.push m).size false:=by rw[Array.size_push,Array.replicate_succ]
  rw[h2,show pre.size+1=(pre.push m).size by simp] at h1
  have h3:=wpAny_lates hT r (pre:=pre.push m) (by rw[Array.toList_push];exact k5) (by rw[Array.toList_push];exact hx.2) (by rw[Array.toList_push];exact h1)
  have e:pre++(m::r).toArray=pre.push m++r.toArray:=by
   apply Array.ext'
   simp
  rw[e]
  exact h3
def appOkG (pre tail:List Oper):Bool:=drawOk pre&&latesOk pre tail
def kL (P:Program) (ti:TT) (pre tail:List Oper) (K:Env→Prop):Env→Prop:=fun E=>evL P ti pre tail K E
theorem evG_region (hT:TGood P ti) (hm:P.follows .mixedOrders=true) {id:Nat} {bb:Bool} {ops:Array Oper} {pre tail:List Oper} (hops:ops.toList=pre++tail) (hok:appOkG pre tail=true) (hx:xsG ti pre tail)
  (h:evD P ti bb pre pre 0 (kL P ti pre tail K) [] [] (E.fresh (famA pre))) (hs:St w0 tag0 E tag hv a w)
  (hN: ∀E' tag' hv' a' w',St w0 tag0 E' tag' hv' a' w'→K E'→Q .normal a' w'):(Code.region id ops true).wp P Q a w:=by
 have ho:ops=pre.toArray++tail.toArray:=by
  apply Array.ext'
  rw[hops]
  simp
 subst ho
 simp only[appOkG,Bool.and_eq_true] at hok
 obtain ⟨hd,htl⟩:=hok
 have hd':drawOk (pre.toArray).toList=true:=by simpa using hd
 have h':evD P ti bb (pre.toArray).toList (pre.toArray).toList 0 (kL P ti pre tail K) [] [] (E.fresh (famA (pre.toArray).toList)):=by simpa using h
 have key:(Code.region id (pre.toArray++tail.toArray) true).wp P (QN Q) a w:=by
  refine wp_region_any hm ?_
  have h1:=evD_any (Q:=QmS P pre tail (QN Q)) hT hd' h' hs (fun E' tag' hv' a' w' hs' hk=>evL_ok (K:=K) hT tail pre htl hs' hk hN)
  exact wpAny_lates hT tail (pre:=pre.toArray) (by simpa using htl) (by simpa using hx) (by simpa using h1)
 exact wp_mono key (fun e a w hq=>by obtain ⟨rfl,hq⟩:=hq;exact hq)
def adrK (o:Oper):Bool:=match o.op with
 | .fieldAddr _ _ _=>true
 | .indexAddr _ _ _=>true
 |_=>false
def splitC:List Oper→List Oper→Option (List Oper×List Oper)
 | [],_=>none
 |o::r,acc=>match adrK o with
  |true=>splitC r (o::acc)
  |false=>some ((o::r).reverse,acc)
def splitB (ops:List Oper):Option (List Oper×List Oper):=match ops.reverse with
 |o::r=>match o.op with
  | .store _ _ _=>match splitC r [o] with
   |some (pre,t::t2::tail)=>match decide (pre.length≤t.after.size) with
    |true=>some (pre,t::t2::tail)
    |false=>none
   |_=>none
  |_=>none
 | []=>none
theorem splitC_eq: ∀ {l acc pre tail:List Oper},splitC l acc=some (pre,tail)→l.reverse++acc=pre++tail
 | [],_,_,_,h=>by cases h
 |o::r,acc,pre,tail,h=>by
  simp only[splitC] at h
  split at h
  ·have:=splitC_eq h
   simpa using this
  ·cases h
   simp
theorem splitB_eq {ops pre tail:List Oper} (h:splitB ops=some (pre,tail)):ops=pre++tail:=by
 unfold splitB at h
 split at h
 ·rename_i o r hr
  split at h
  ·split at h
   ·rename_i hc
    split at h
    ·cases h
     have:=splitC_eq hc
     rw[←this]
     have:ops=(o::r).reverse:=by rw[←hr,List.reverse_reverse]
     rw[this]
     simp
    ·cases h
   ·cases h
  ·cases h
 ·cases h
def teN (m:Oper):Nat:=(m.after.toList.filter fun e=>match e.ground with| .textOnly _=>true|_=>false).length
def splitV (ops:List Oper):Option (List Oper×List Oper):=match ops.reverse with
 |o::o'::r=>match isAss o with
  |true=>match o'.op with
   | .store _ _ _=>match decide (2≤teN o') with
    |true=>some (r.reverse,[o',o])
    |false=>none
   |_=>none
  |false=>none
 |_=>none
theorem splitV_eq {ops pre tail:List Oper} (h:splitV ops=some (pre,tail)):ops=pre++tail:=by
 unfold splitV at h
 split at h
 ·rename_i o o' r hr
  split at h
  ·split at h
   ·split at h
    ·cases h
     have:ops=(o::o'::r).reverse:=by rw[←hr,List.reverse_reverse]
     rw[this]
     simp
    ·cases h
   ·cases h
  ·cases h
 ·cases h
def splitG (ops:List Oper):Option (List Oper×List Oper):=match splitS ops with
 |some (pre,m,tail)=>some (pre,m::tail)
 |none=>match splitV ops with
  |some x=>some x
  |none=>splitB ops
theorem splitG_eq {ops pre tail:List Oper} (h:splitG ops=some (pre,tail)):ops=pre++tail:=by
 unfold splitG at h
 split at h
 ·rename_i pre' m' tail' hs
  cases h
  exact (splitS_eq hs).1
 ·split at h
  ·rename_i x hx
   cases h
   exact splitV_eq hx
  ·exact splitB_eq h
end Go.Sm
namespace Go.Sm
open Go.RowKit
set_option linter.unusedVariables false
set_option linter.unusedSimpArgs false
variable {P : Program} {ti : TT} {E : Env} {tag tag' tag0 : Nat → Tag} {hv hv' : Hv} {a : Act} {w w' w0 : World} {t d : Nat}
def lastSt:List Oper→Option Oper
 | []=>none
 | [o]=>match o.op with
  | .store _ _ _=>some o
  |_=>none
 |_::y::r=>lastSt (y::r)
def initL:List Oper→List Oper
 | []=> []
 | [_]=> []
 |x::y::r=>x::initL (y::r)
theorem lastSt_eq: ∀ {l:List Oper} {st:Oper},lastSt l=some st→l=initL l++ [st]
 | [],_,h=>by cases h
 | [o],st,h=>by
  simp only[lastSt] at h
  split at h
  ·cases h;rfl
  ·cases h
 |x::y::r,st,h=>by
  simp only[lastSt] at h
  have:=lastSt_eq h
  simp only[initL,List.cons_append]
  rw[←this]
def lastSA:List Oper→Option (Oper×Oper)
 | []=>none
 | [_]=>none
 | [o,p]=>match o.op,p.op with
  | .store _ _ _,.assign _=>some (o,p)
  |_,_=>none
 |_::y::z::r=>lastSA (y::z::r)
theorem lastSA_eq: ∀ {l:List Oper} {st as:Oper},lastSA l=some (st,as)→l=initL (initL l)++ [st,as]
 | [],_,_,h=>by cases h
 | [_],_,_,h=>by cases h
 | [o,p],st,as,h=>by
  simp only[lastSA] at h
  split at h
  ·cases h;rfl
  ·cases h
 |x::y::z::r,st,as,h=>by
  simp only[lastSA] at h
  have:=lastSA_eq h
  simp only[initL,List.cons_append] at this⊢
  rw[←this]
def kTail2 (P:Program) (ti:TT) (st as:Oper) (K:Env→Prop):Env→Prop:=fun E=>evU P ti st (fun E=>evU P ti as K E) E
def kTail (P:Program) (ti:TT) (st:Oper) (K:Env→Prop):Env→Prop:=fun E=>evU P ti st K E
def ew (P:Program) (ti:TT) (vs:List Nat):Code→(Exit→Env→Prop)→Env→Prop
 | .skip,Q,E=>Q .normal E
 | .region _ ops draw,Q,E=>match draw with
  |true=>match splitA ops.toList with
   |some (pre,m,tail)=>xsT ti (leadA pre tail)∧evD P ti (kilB pre) pre pre 0 (kApp P ti (leadA pre tail) m (kT P ti tail (fun E=>Q .normal (E.keep vs)))) [] [] (E.fresh (famA pre))
   |none=>match splitG ops.toList with
   |some (pre,tail)=>xsG ti pre tail∧evD P ti (kilB pre) pre pre 0 (kL P ti pre tail (fun E=>Q .normal (E.keep vs))) [] [] (E.fresh (famA pre))
   |none=>match lastSA ops.toList with
   |some (st,as)=>evD P ti (kilB (initL (initL ops.toList))) (initL (initL ops.toList)) (initL (initL ops.toList)) 0 (kTail2 P ti st as (fun E=>Q .normal (E.keep vs))) [] [] (E.fresh (famA (initL (initL ops.toList))))
   |none=>match lastSt ops.toList with
   |some st=>evD P ti (kilB (initL ops.toList)) (initL ops.toList) (initL ops.toList) 0 (kTail P ti st (fun E=>Q .normal (E.keep vs))) [] [] (E.fresh (famA (initL ops.toList)))
   |none=>evD P ti (kilB ops.toList) ops.toList ops.toList 0 (fun E=>Q .normal (E.keep vs)) [] [] (E.fresh (famA ops.toList))
  |false=>ev P ti ops.toList ops.toList (fun E=>Q .normal (E.keep vs)) E
 | .seq x y,Q,E=>ew P ti vs x (fun e E'=>match e with| .normal=>ew P ti vs y Q E'|e=>Q e E') E
 | .cond c x y,Q,E=>match opd ti E 0 c with
  |some (.v false [.s (.sc (.bool b))])=>(b=true→ew P ti vs x Q E)∧(b=false→ew P ti vs y Q E)
  |_=>False
 | .block id c,Q,E=>ew P ti vs c (fun e E'=>match e with| .exit i=>if i=id then Q .normal E' else Q (.exit i) E'|e=>Q e E') E
 | .loop c,Q,E=> ∃ (I:Env→Prop) (μ:Env→Nat),(∃E',Gh E E'∧I E')∧ ∀E1,I E1→ew P ti vs c (fun e E'=>match e with| .normal=> ∃E2,Gh E' E2∧I E2∧μ E2<μ E1|e=>Q e E') E1
 | .exit i,Q,E=>Q (.exit i) E
 | .ret,Q,E=>Q .ret E
 |_,_,_=>False
def codeOk:Code→Bool
 | .region _ ops true=>match splitA ops.toList with
  |some (pre,m,tail)=>appOk pre tail m
  |none=>match splitG ops.toList with
  |some (pre,tail)=>appOkG pre tail
  |none=>match lastSA ops.toList with
  |some (st,as)=>drawOk (initL (initL ops.toList))&& ((tailOk (initL (initL ops.toList)) st||looseOk (initL (initL ops.toList)) st)&& (edgB (initL (initL ops.toList)++ [st])&&tailOk (initL (initL ops.toList)++ [st]) as))
  |none=>match lastSt ops.toList with
  |some st=>drawOk (initL ops.toList)&&tailOk (initL ops.toList) st
  |none=>drawOk ops.toList
 | .seq x y=>codeOk x&&codeOk y
 | .cond _ x y=>codeOk x&&codeOk y
 | .block _ c=>codeOk c
 | .loop c=>codeOk c
 |_=>true
theorem min_ex {p:Nat→Prop}: ∀n,p n→ ∃m,p m∧ ∀k,k<m→ ¬p k:=by
 intro n
 induction n using Nat.strongRecOn with
 |_ n ih=>
  intro h
  by_cases hx: ∃k,k<n∧p k
  ·obtain ⟨k,h1,h2⟩:=hx
   exact ih k h1 h2
  ·exact ⟨n,h,fun k hk hp=>hx ⟨k,hk,hp⟩⟩
open Classical in
theorem ew_ok (hT:TGood P ti) (hm:P.follows .mixedOrders=true) (vs:List Nat): ∀ (c:Code) (Q:Exit→Env→Prop) (R:Exit→Act→World→Prop) {E:Env} {tag:Nat→Tag} {hv:Hv} {a:Act} {w:World},codeOk c=true→
  St w0 tag0 E tag hv a w→ew P ti vs c Q E→(∀e E' tag' hv' a' w',St w0 tag0 E' tag' hv' a' w'→Q e E'→R e a' w')→c.wp P R a w:=by
 intro c
 induction c with
 |skip=>exact fun Q R _ _ _ _ _ _ hs h hR=>wp_skip (hR _ _ _ _ _ _ hs h)
 |region id ops draw=>
  intro Q R E tag hv a w hok hs h hR
  cases draw with
  |true=>
   simp only[ew] at h
   simp only[codeOk] at hok
   split at h
   ·rename_i pre m tail hsp
    rw[hsp] at hok
    exact evA_region hT hm hsp hok h.1 h.2 hs (fun E' tag' hv' a' w' hs' hk=>hR _ _ _ _ _ _ (hs'.keep vs) hk)
   rename_i hsp
   rw[hsp] at hok
   simp only at hok
   split at h
   ·rename_i pre tail hsb
    rw[hsb] at hok
    exact evG_region hT hm (splitG_eq hsb) hok h.1 h.2 hs (fun E' tag' hv' a' w' hs' hk=>hR _ _ _ _ _ _ (hs'.keep vs) hk)
   rename_i hsb
   rw[hsb] at hok
   simp only at hok
   split at h
   ·rename_i st as hst
    rw[hst] at hok
    simp only[Bool.and_eq_true] at hok
    have he:ops=((initL (initL ops.toList)).toArray.push st).push as:=by
     apply Array.ext'
     rw[Array.toList_push,Array.toList_push,List.append_assoc]
     exact lastSA_eq hst
    rw[he]
    rcases Bool.or_eq_true_iff.1 hok.2.1 with h21|h21
    ·exact evD_tail2 hT hm hok.1 h21 (by rw[Array.toList_push];exact hok.2.2.1) (by rw[Array.toList_push];exact hok.2.2.2) h hs (fun E' tag' hv' a' w' hs' hk=>hR _ _ _ _ _ _ (hs'.keep vs) hk)
    ·exact evD_tailL hT hm hok.1 h21 (by rw[Array.toList_push];exact hok.2.2.1) (by rw[Array.toList_push];exact hok.2.2.2) h hs (fun E' tag' hv' a' w' hs' hk=>hR _ _ _ _ _ _ (hs'.keep vs) hk)
   rename_i hsa
   rw[hsa] at hok
   simp only at hok
   split at h
   ·rename_i st hst
    rw[hst] at hok
    simp only[Bool.and_eq_true] at hok
    have he:ops=(initL ops.toList).toArray.push st:=by
     apply Array.ext'
     rw[Array.toList_push]
     exact lastSt_eq hst
    rw[he]
    exact evD_tail hT hm hok.1 hok.2 h hs (fun E' tag' hv' a' w' hs' hk=>hR _ _ _ _ _ _ (hs'.keep vs) hk)
   ·rename_i hst
    rw[hst] at hok
    exact evD_region hT hm hok h hs (fun E' tag' hv' a' w' hs' hk=>hR _ _ _ _ _ _ (hs'.keep vs) hk)
  |false=>
   simp only[ew] at h
   exact wp_region_list (ev_ok hT ops ops.toList hs h (fun E' tag' hv' a' w' hs' hk=>hR _ _ _ _ _ _ (hs'.keep vs) hk))
 |seq x y ihx ihy=>
  intro Q R E tag hv a w hok hs h hR
  simp only[ew] at h
  simp only[codeOk,Bool.and_eq_true] at hok
  refine wp_seq (ihx _ _ hok.1 hs h (fun e E' tag' hv' a' w' hs' hk=> ?_))
  cases e with
  |normal=>exact ihy Q R hok.2 hs' hk hR
  |_=>exact hR _ _ _ _ _ _ hs' hk
 |cond c x y ihx ihy=>
  intro Q R E tag hv a w hok hs h hR
  simp only[ew] at h
  split at h
  ·rename_i b hc
   have hb:=SR_bool (opd_ok hs hc)
   simp only[codeOk,Bool.and_eq_true] at hok
   refine wp_cond hb ?_
   cases b with
   |true=>exact ihx Q R hok.1 hs (h.1 rfl) hR
   |false=>exact ihy Q R hok.2 hs (h.2 rfl) hR
  ·exact h.elim
 |block id c ih=>
  intro Q R E tag hv a w hok hs h hR
  simp only[ew] at h
  refine wp_block (ih _ _ hok hs h (fun e E' tag' hv' a' w' hs' hk=> ?_))
  cases e with
  |exit i=>
   simp only[Exit.inBlock]
   by_cases hi:i=id
   ·simp only[hi,if_true] at hk⊢
    exact hR _ _ _ _ _ _ hs' hk
   ·simp only[hi,if_false] at hk⊢
    exact hR _ _ _ _ _ _ hs' hk
  |_=>exact hR _ _ _ _ _ _ hs' hk
 |loop c ih=>
  intro Q R E tag hv a w hok hs h hR
  simp only[ew] at h
  obtain ⟨I,μ,⟨E0,hg,hI⟩,hround⟩:=h
  obtain ⟨t1,h1,hs1⟩:=hg _ _ _ _ _ _ hs
  let p:Act→World→Nat→Prop:=fun a w n=> ∃E tag hv,St w0 tag0 E tag hv a w∧I E∧μ E=n
  have hmin: ∀a w,(∃n,p a w n)→ ∃m,p a w m∧ ∀k,k<m→ ¬p a w k:=fun a w ⟨n,hn⟩=>min_ex n hn
  refine wp_loop (fun a w=> ∃n,p a w n) (fun a w=>if hx: ∃n,p a w n then (hmin a w hx).choose else 0) ⟨_,E0,t1,h1,hs1,hI,rfl⟩ ?_
  intro a w hx
  obtain ⟨⟨E1,tg,hh,hs2,hI2,hmu⟩,hlow⟩:=(hmin a w hx).choose_spec
  refine ih _ _ hok hs2 (hround E1 hI2) (fun e E' tag' hv' a' w' hs' hk=> ?_)
  cases e with
  |normal=>
   obtain ⟨E2,hg2,hI3,hlt⟩:=hk
   obtain ⟨t3,h3,hs3⟩:=hg2 _ _ _ _ _ _ hs'
   have hx': ∃n,p a' w' n:=⟨_,E2,t3,h3,hs3,hI3,rfl⟩
   refine ⟨hx', ?_⟩
   rw[dif_pos hx',dif_pos hx]
   have hle:(hmin a' w' hx').choose≤μ E2:=by
    rcases Nat.lt_or_ge (μ E2) (hmin a' w' hx').choose with hlt2|hge
    ·exact absurd ⟨E2,t3,h3,hs3,hI3,rfl⟩ ((hmin a' w' hx').choose_spec.2 _ hlt2)
    ·exact hge
   omega
  |_=>exact hR _ _ _ _ _ _ hs' hk
 |exit i=>exact fun Q R _ _ _ _ _ _ hs h hR=>wp_exit (hR _ _ _ _ _ _ hs h)
 |ret=>exact fun Q R _ _ _ _ _ _ hs h hR=>wp_ret (hR _ _ _ _ _ _ hs h)
 |_=>exact fun Q R _ _ _ _ _ _ hs h hR=>False.elim (by simp[ew] at h)
end Go.Sm
namespace Go
open Go.RowKit
set_option linter.unusedVariables false
set_option linter.unusedSimpArgs false
variable {P : Program}
end Go
namespace Go.Sm
open Go.RowKit
variable {P : Program}
section
variable {tag : Nat → Tag} {hv : Hv} {w : World}
end
end Go.Sm
namespace Go.Sm
open Go.RowKit
set_option linter.unusedVariables false
set_option linter.unusedSimpArgs false
variable {P : Program} {ti : TT} {E : Env} {tag tag' tag0 : Nat → Tag} {hv hv' : Hv} {a : Act} {w w' w0 : World} {t d : Nat}
def numL {α:Type}:Nat→List α→List (Nat×α)
 |_,[]=> []
 |n,x::r=>(n,x)::numL (n+1) r
theorem lkp_numL {α:Type}: ∀ (l:List α) (n t:Nat) (x:α),lkp (numL n l) t=some x→n≤t∧l[t-n]? =some x
 | [],_,_,_,h=>by simp[numL,lkp] at h
 |y::r,n,t,x,h=>by
  simp only[numL,lkp] at h
  split at h
  ·rename_i he
   subst he
   cases h
   simp
  ·rename_i hne
   obtain ⟨h1,h2⟩:=lkp_numL r (n+1) t x h
   refine ⟨by omega, ?_⟩
   rw[show t-n=(t- (n+1))+1 by omega]
   simpa using h2
def env0 (nt:Nat) (as:List SV):Env:= {nt,sl:=numL 0 as,bx:= [],rt:= []}
def resOne (ti:TT) (E:Env):ResultVar→Option (Prop×Bool×List LV)
 | .tmp t=>match lkp E.sl t with
  |some (.v ag ls)=>some (True,ag,ls)
  |_=>none
 | .cell t T=>match lkp E.sl t with
  |some (.p (.bx b off))=>match lkp E.bx b with
   |some ls=>some ((ti T).ok=true∧off+(ti T).sz≤ls.length,(ti T).agg,(ls.drop off).take (ti T).sz)
   |none=>none
  |_=>none
def LOk (E:Env):LV→Md→Lf→Prop
 | .s l,.s,l'=>l=l'
 | .n _,.s,.ls _ rows=>rows= []
 | .n _,.o _ _,.ls _ rows=>rows= []
 | .r [r],.o e cols,l=>lkp E.rt r=some (.o e cols,l)
 |_,_,_=>False
def LsOk (E:Env):List LV→ML→Prop
 | [],[]=>True
 |y::r,(m,l)::q=>LOk E y m l∧LsOk E r q
 |_,_=>False
def nmO:LV→Md→Option Nat
 | .r [r],.o _ _=>some r
 |_,_=>none
def nmsL:List LV→ML→List (Option Nat)
 |y::r,(m,_)::q=>nmO y m::nmsL r q
 |_,_=> []
def resOk (ti:TT) (E:Env):List ResultVar→List (Bool×ML)→Prop
 | [],[]=>True
 |v::r,(ag,ml)::q=>(match resOne ti E v with|some (C,ag',ls)=>C∧ag'=ag∧LsOk E ls ml∧(ag=false→ml.length=1)|none=>False)∧resOk ti E r q
 |_,_=>False
def nmsR (ti:TT) (E:Env):List ResultVar→List (Bool×ML)→List (Option Nat)
 |v::r,(_,ml)::q=>(match resOne ti E v with|some (_,_,ls)=>nmsL ls ml|none=> [])++nmsR ti E r q
 |_,_=> []
def idxN:List (Option Nat)→Nat→Option Nat
 | [],_=>none
 |x::r,n=>if x=some n then some 0 else (idxN r n).map (· +1)
theorem idxN_of: ∀ {l:List (Option Nat)} {j n:Nat},(l.filterMap id).Nodup→l[j]? =some (some n)→idxN l n=some j
 | [],_,_,_,h=>by simp at h
 |x::r,0,n,_,h=>by
  simp only[List.getElem?_cons_zero,Option.some.injEq] at h
  simp[idxN,h]
 |x::r,j+1,n,hn,h=>by
  simp only[List.getElem?_cons_succ] at h
  have hmem:n∈r.filterMap id:=List.mem_filterMap.2 ⟨some n,List.mem_of_getElem? h,rfl⟩
  have hne:x≠some n:=by
   rintro rfl
   simp only[List.filterMap_cons,id_eq,List.nodup_cons] at hn
   exact hn.1 hmem
  have hn':(r.filterMap id).Nodup:=by
   cases x with
   |none=>simpa using hn
   |some y=>simp only[List.filterMap_cons,id_eq,List.nodup_cons] at hn;exact hn.2
  simp[idxN,hne,idxN_of hn' h]
def tagR (nm:List (Option Nat)) (tag:Nat→Tag):Nat→Tag:=fun b=>match tag b with
 | .own (r::rest)=>match idxN nm r with
  |some j=> .own (j::rest)
  |none=> .off
 | .own []=> .off
 |s=>s
def hvR (nm:List (Option Nat)) (hv:Hv):Hv:=fun p=>match p with
 |j::rest=>match nm[j]? with
  |some (some r)=>hv (r::rest)
  |_=> .slice none 0 0
 | []=> .slice none 0 0
theorem LOk_ok {nm:List (Option Nat)} (hnd:(nm.filterMap id).Nodup) (hs:St w0 tag0 E tag hv a w) {y:LV} {m:Md} {l:Lf} {v:Value} {j:Nat} (h:LOk E y m l) (hj:nm[j]? =some (nmO y m)) (hv0:LR tag hv w y v):
  VR (tagR nm tag) (hvR nm hv) w [j] m l v:=by
 unfold LOk at h
 split at h
 ·subst h
  exact VR.move hv0 [j] (fun b hb=>⟨by simp[tagR,hb],rfl⟩) (fun rest hr=>by cases hr)
 ·subst h
  rw[show v= .slice none 0 0 from hv0]
  exact .sh0
 ·subst h
  rw[show v= .slice none 0 0 from hv0]
  refine .own0 ?_
  simp only[nmO] at hj
  simp[hvR,hj]
 ·rename_i r e cols
  have h1:=hs.rt r _ h
  rw[hv0.1]
  simp only[nmO] at hj
  refine h1.move [j] (fun b hb=>⟨by simp[tagR,hb],rfl⟩) (fun rest _=>⟨?_,fun b hb=>⟨?_,rfl⟩⟩)
  ·simp[hvR,hj]
  ·have hb':tag b= .own (r::rest):=by simpa using hb
   simp[tagR,hb',idxN_of hnd hj]
 ·exact h.elim
theorem LsOk_ok {nm:List (Option Nat)} (hnd:(nm.filterMap id).Nodup) (hs:St w0 tag0 E tag hv a w): ∀ {ls:List LV} {ml:ML} {cs:List Value} {b:Nat},LsOk E ls ml→(∀j x,(nmsL ls ml)[j]? =some x→nm[b+j]? =some x)→All2 (LR tag hv w) ls cs→RC (tagR nm tag) (hvR nm hv) w b ml cs
 | [],[],cs,b,_,_,hc=>by cases hc;trivial
 | [],_::_,cs,b,h,_,_=>by simp[LsOk] at h
 |_::_,[],cs,b,h,_,_=>by simp[LsOk] at h
 |y::r,(m,l)::q,cs,b,h,hn,hc=>by
  cases hc with
  |cons h1 h2=>
   refine ⟨LOk_ok hnd hs h.1 (hn 0 _ rfl) h1,LsOk_ok hnd hs h.2 (fun j x hj=> ?_) h2⟩
   have:=hn (j+1) x (by simpa [nmsL] using hj)
   rwa [show b+(j+1)=b+1+j by omega] at this
theorem nmsL_len: ∀ {ls:List LV} {ml:ML},LsOk E ls ml→(nmsL ls ml).length=ml.length
 | [],[],_=>rfl
 | [],_::_,h=>by simp[LsOk] at h
 |_::_,[],h=>by simp[LsOk] at h
 |y::r,(m,l)::q,h=>by simp[nmsL,nmsL_len h.2]
def resV (tmps:Array Value):ResultVar→Sem Value
 | .tmp t=>pure (tmps.getD t undef)
 | .cell x t=>do loadVar t (←asAddr (tmps.getD x undef))
theorem results_eq (fn:Func) (tmps:Array Value):results fn tmps=(do let vs←fn.results.mapM (resV tmps);pure (if h:vs.size=1 then vs[0] else .tuple vs)):=by
 unfold results
 congr 1
theorem resOne_ok (hT:TGood P ti) (hs:St w0 tag0 E tag hv a w) {r:ResultVar} {C:Prop} {ag:Bool} {ls:List LV} (h:resOne ti E r=some (C,ag,ls)) (hC:C):
  ∃v,(resV a.tmps r).run P w= .ok v w∧ ∃cs,v=mkV ag cs∧All2 (LR tag hv w) ls cs:=by
 unfold resOne at h
 split at h
 ·rename_i t
  split at h
  ·rename_i ag' ls' hl
   cases h
   obtain ⟨cs,h1,h2,_⟩:=hs.sl t _ hl
   exact ⟨_,rfl,cs,h1,h2⟩
  ·cases h
 ·rename_i t T
  split at h
  ·rename_i b off hl
   split at h
   ·rename_i ls' hb
    cases h
    obtain ⟨k,h1,h2⟩:=hs.sl t _ hl
    obtain ⟨k',cur,e,h3,ht,hbl,hall⟩:=hs.bx b ls' hb
    rw[h1] at h3
    cases h3
    have g:=hT T hC.1
    have hlen:off+(ti T).sz≤cur.toList.length:=by rw[←hall.len];exact hC.2
    have h4:=mkV_load (P:=P) (w:=w) (agg:=(ti T).agg) g rfl k off ((cur.toList.drop off).take (ti T).sz) (by simp only[List.length_take,List.length_drop];omega) (fun j v hj=>by
     rw[List.getElem?_take] at hj
     split at hj
     ·rw[List.getElem?_drop] at hj
      simp only[World.cell?,hbl,Option.isSome_none,Bool.false_eq_true,if_false]
      simpa using hj
     ·cases hj)
    simp only[Act.eval] at h2
    simp only[Instr.loadAt,Instr.sureAddr,Sem.run_bind,Sem.run_pure,Result.andThen_ok] at h4
    refine ⟨_, ?_,_,rfl,(hall.drop off).take _⟩
    simp only[resV,h2,asAddr,Sem.run_bind,Sem.run_pure,Result.andThen_ok]
    exact h4
   ·cases h
  ·cases h
theorem resAll_ok (hT:TGood P ti) {nm:List (Option Nat)} (hnd:(nm.filterMap id).Nodup) (hs:St w0 tag0 E tag hv a w): ∀ {rv:List ResultVar} {rs:List (Bool×ML)} {b:Nat},resOk ti E rv rs→(∀j x,(nmsR ti E rv rs)[j]? =some x→nm[b+j]? =some x)→
  ∃vs,(rv.mapM (resV a.tmps)).run P w= .ok vs w∧RVs (tagR nm tag) (hvR nm hv) w b rs vs∧vs.length=rv.length
 | [],[],b,_,_=>⟨[],rfl,trivial,rfl⟩
 | [],_::_,b,h,_=>by simp[resOk] at h
 |_::_,[],b,h,_=>by simp[resOk] at h
 |v::r,(ag,ml)::q,b,h,hn=>by
  simp only[resOk] at h
  obtain ⟨h1,h2⟩:=h
  split at h1
  ·rename_i C ag' ls hr
   obtain ⟨hC,rfl,hls,hag⟩:=h1
   obtain ⟨u,h3,cs,h4,h5⟩:=resOne_ok hT hs hr hC
   have hn1: ∀j x,(nmsL ls ml)[j]? =some x→nm[b+j]? =some x:=fun j x hj=>hn j x (by
    simp only[nmsR,hr]
    rw[List.getElem?_append_left (List.getElem?_eq_some_iff.1 hj).1]
    exact hj)
   have hlen:=nmsL_len hls
   obtain ⟨vs,h6,h7,h8⟩:=resAll_ok hT hnd hs (b:=b+ml.length) h2 (fun j x hj=>by
    have:=hn (ml.length+j) x (by
     simp only[nmsR,hr]
     rw[List.getElem?_append_right (by omega),hlen]
     simpa using hj)
    rwa [←Nat.add_assoc] at this)
   refine ⟨u::vs, ?_,⟨⟨cs,h4,LsOk_ok hnd hs hls hn1 h5,hag⟩,h7⟩,by simp[h8]⟩
   rw[List.mapM_cons]
   simp only[Sem.run_bind]
   rw[h3]
   simp only[Result.andThen_ok]
   rw[h6]
   rfl
  ·exact h1.elim
def kEnd (ti:TT) (res:List ResultVar) (rs:List (Bool×ML)):Exit→Env→Prop:=fun e E=>match e with
 | .normal| .ret=>resOk ti E res rs∧((nmsR ti E res rs).filterMap id).Nodup
 |_=>False
theorem vc_of_ew (hT:TGood P ti) (hm:P.follows .mixedOrders=true) (vs:List Nat) {f:FuncId} {fn:Func} {c:Code} (hf:P.funcs[f]? =some fn) (hb:fn.body=some c) (hn:(fn.name== "runtime.NumGoroutine")=false) (hok:codeOk c=true)
  {as:List SV} {rs:List (Bool×ML)} (hl:fn.results.toList.length=rs.length)
  (h:ew P ti vs c (kEnd ti fn.results.toList rs) (env0 (as.length+(fn.ntmps-as.length)) as)):VC P f as rs:=by
 refine ⟨⟨fn,c,hf,hb,hn⟩,fun w tag hv vals htag hhi hargs=>calls_of_wp hf hb ?_⟩
 have hlen:vals.length=as.length:=hargs.len.symm
 have hs:St w tag (env0 (as.length+(fn.ntmps-as.length)) as) tag hv {tmps:=vals.toArray++Array.replicate (fn.ntmps-vals.toArray.size) undef,defers:= []} w:=by
  refine ⟨by simp[env0,hlen],rfl,fun t sv hl=> ?_,fun b ls hl=>by simp[env0,lkp] at hl,fun r x hl=>by simp[env0,lkp] at hl,⟨rfl,rfl,rfl,Nat.le_refl _,fun _ _ _=>⟨rfl,rfl⟩⟩,hhi⟩
  obtain ⟨_,h2⟩:=lkp_numL as 0 t sv hl
  simp only[Nat.sub_zero] at h2
  have ht:t<as.length:=(List.getElem?_eq_some_iff.1 h2).1
  have h3:vals[t]? =some vals[t]:=List.getElem?_eq_getElem (by omega)
  have h4:=hargs.get t sv _ h2 h3
  have h5:Act.eval {tmps:=vals.toArray++Array.replicate (fn.ntmps-vals.toArray.size) undef,defers:= []} (.tmp t)=vals[t]:=by
   simp only[Act.eval,Array.getD_eq_getD_getElem?]
   rw[Array.getElem?_append_left (by simp;omega)]
   simp[h3]
  rw[h5]
  exact h4
 refine ew_ok hT hm vs c _ _ hok hs h (fun e E' tag' hv' a' w' hs' hk=> ?_)
 have key:(resOk ti E' fn.results.toList rs∧((nmsR ti E' fn.results.toList rs).filterMap id).Nodup)→a'.defers= []∧ ∃v,(results fn a'.tmps).run P w'= .ok v w'∧ ∃tag' hv' rv,Ending.returned v= .returned rv∧Fr w tag tag' w'∧(∀b,w'.heap.size≤b→tag' b= .off)∧RV tag' hv' w' rs rv:=by
  rintro ⟨h1,h2⟩
  refine ⟨hs'.df, ?_⟩
  obtain ⟨vs',h3,h4,h5⟩:=resAll_ok hT (nm:=nmsR ti E' fn.results.toList rs) h2 hs' (b:=0) h1 (fun j x hj=>by simpa using hj)
  have hmap:(fn.results.mapM (resV a'.tmps)).run P w'= .ok vs'.toArray w':=by
   rw[Array.mapM_eq_mapM_toList,Sem.run_map,h3]
   rfl
  have hF:Fr w tag (tagR (nmsR ti E' fn.results.toList rs) tag') w':=by
   refine ⟨hs'.fr.os,hs'.fr.tape,hs'.fr.output,hs'.fr.size,fun b hb hq=> ?_⟩
   obtain ⟨q1,q2⟩:=hs'.fr.heap b hb hq
   refine ⟨q1, ?_⟩
   rcases hq with hq|hq<;>simp[tagR,q2,hq]
  have hI: ∀b,w'.heap.size≤b→tagR (nmsR ti E' fn.results.toList rs) tag' b= .off:=fun b hb=>by simp[tagR,hs'.hi b hb]
  by_cases h1':vs'.length=1
  ·match vs',h1',h4,hmap with
   | [u],_,h4,hmap=>
    refine ⟨u, ?_,_,hvR (nmsR ti E' fn.results.toList rs) hv',u,rfl,hF,hI, ?_⟩
    ·rw[results_eq]
     simp only[Sem.run_bind,hmap,Result.andThen_ok]
     simp
    ·have:rs.length=1:=by rw[←hl,←h5];rfl
     match rs,this,h4 with
     | [p],_,h4=>exact h4
  ·refine ⟨.tuple vs'.toArray, ?_,_,hvR (nmsR ti E' fn.results.toList rs) hv',_,rfl,hF,hI, ?_⟩
   ·rw[results_eq]
    simp only[Sem.run_bind,hmap,Result.andThen_ok]
    simp[h1']
   ·unfold RV
    split
    ·rename_i p
     exfalso
     apply h1'
     rw[h5,hl]
     rfl
    ·exact ⟨vs',rfl,h4⟩
 cases e with
 |normal=>exact key hk
 |ret=>exact key hk
 |_=>exact hk.elim
def rtM:Nat→List (Md×Lf×Lf)→List (Nat×Md×Lf)
 |_,[]=> []
 |k,(m,l,_)::r=>(k,m,l)::rtM (k+1) r
def pinM (pv:Nat→Value):Nat→List (Md×Lf×Lf)→List (Nat×SV)
 |_,[]=> []
 |k,_::r=>(4100+k,.pin k [] (pv k))::pinM pv (k+1) r
def env0M (nt:Nat) (as:List SV) (ms:List (Md×Lf×Lf)) (pv:Nat→Value):Env:= {nt,sl:=numL 0 as++pinM pv 900 ms,bx:= [],rt:=rtM 900 ms}
def mEnd (E:Env) (pv:Nat→Value):Nat→List (Md×Lf×Lf)→Prop
 |_,[]=>True
 |k,(m,_,l')::r=>lkp E.rt k=some (m,l')∧lkp E.sl (4100+k)=some (.pin k [] (pv k))∧mEnd E pv (k+1) r
def kEndM (ti:TT) (res:List ResultVar) (ms:List (Md×Lf×Lf)) (n:Option Int) (pv:Nat→Value):Exit→Env→Prop:=fun e E=>match e with
 | .normal| .ret=>(resOk ti E res (mRes n)∧((nmsR ti E res (mRes n)).filterMap id).Nodup)∧mEnd E pv 900 ms
 |_=>False
theorem lkp_rtM: ∀ {ms:List (Md×Lf×Lf)} {k r:Nat} {x:Md×Lf},lkp (rtM k ms) r=some x→ ∃i y,ms[i]? =some y∧r=k+i∧x=(y.1,y.2.1)
 | [],_,_,_,h=>by simp[rtM,lkp] at h
 |(m,l,l')::ms,k,r,x,h=>by
  simp only[rtM,lkp] at h
  split at h
  ·rename_i e
   subst e
   cases h
   exact ⟨0,_,rfl,rfl,rfl⟩
  ·obtain ⟨i,y,h1,h2,h3⟩:=lkp_rtM h
   exact ⟨i+1,y,by simpa using h1,by omega,h3⟩
theorem lkp_pinM {pv:Nat→Value}: ∀ {ms:List (Md×Lf×Lf)} {k t:Nat} {sv:SV},lkp (pinM pv k ms) t=some sv→ ∃j,sv= .pin j [] (pv j)
 | [],_,_,_,h=>by simp[pinM,lkp] at h
 |_::ms,k,t,sv,h=>by
  simp only[pinM,lkp] at h
  split at h
  ·cases h
   exact ⟨_,rfl⟩
  ·exact lkp_pinM h
theorem mEnd_get {pv:Nat→Value}: ∀ {ms:List (Md×Lf×Lf)} {k i:Nat} {x:Md×Lf×Lf},mEnd E pv k ms→ms[i]? =some x→lkp E.rt (k+i)=some (x.1,x.2.2)∧lkp E.sl (4100+(k+i))=some (.pin (k+i) [] (pv (k+i)))
 | [],_,_,_,_,h=>by simp at h
 |(m,l,l')::ms,k,0,x,h,hx=>by
  simp only[List.getElem?_cons_zero,Option.some.injEq] at hx
  subst hx
  exact ⟨h.1,h.2.1⟩
 |(m,l,l')::ms,k,i+1,x,h,hx=>by
  simp only[List.getElem?_cons_succ] at hx
  have:=mEnd_get h.2.2 hx
  rw[show k+(i+1)=k+1+i by omega]
  exact this
theorem vm_of_ew (hT:TGood P ti) (hm:P.follows .mixedOrders=true) (vs:List Nat) {f:FuncId} {fn:Func} {c:Code} (hf:P.funcs[f]? =some fn) (hb:fn.body=some c) (hn:(fn.name== "runtime.NumGoroutine")=false) (hok:codeOk c=true)
  {as:List SV} {ms:List (Md×Lf×Lf)} {n:Option Int} (hl:fn.results.toList.length=(mRes n).length)
  (h: ∀pv,ew P ti vs c (kEndM ti fn.results.toList ms n pv) (env0M (as.length+(fn.ntmps-as.length)) as ms pv)):VM P f as ms n:=by
 refine ⟨⟨fn,c,hf,hb,hn⟩,fun w tag hv vals htag hhi hargs hms=>calls_of_wp hf hb ?_⟩
 have hlen:vals.length=as.length:=hargs.len.symm
 have hs:St w tag (env0M (as.length+(fn.ntmps-as.length)) as ms (fun k=>hv [k])) tag hv {tmps:=vals.toArray++Array.replicate (fn.ntmps-vals.toArray.size) undef,defers:= []} w:=by
  refine ⟨by simp[env0M,hlen],rfl,fun t sv hl=> ?_,fun b ls hl=>by simp[env0M,lkp] at hl,fun r x hl=> ?_,⟨rfl,rfl,rfl,Nat.le_refl _,fun _ _ _=>⟨rfl,rfl⟩⟩,hhi⟩
  ·simp only[env0M] at hl
   rw[lkp_app] at hl
   split at hl
   ·rename_i y hy
    cases hl
    obtain ⟨_,h2⟩:=lkp_numL as 0 t sv hy
    simp only[Nat.sub_zero] at h2
    have ht:t<as.length:=(List.getElem?_eq_some_iff.1 h2).1
    have h3:vals[t]? =some vals[t]:=List.getElem?_eq_getElem (by omega)
    have h4:=hargs.get t sv _ h2 h3
    have h5:Act.eval {tmps:=vals.toArray++Array.replicate (fn.ntmps-vals.toArray.size) undef,defers:= []} (.tmp t)=vals[t]:=by
     simp only[Act.eval,Array.getD_eq_getD_getElem?]
     rw[Array.getElem?_append_left (by simp;omega)]
     simp[h3]
    rw[h5]
    exact h4
   ·obtain ⟨j,rfl⟩:=lkp_pinM hl
    exact rfl
  ·obtain ⟨i,y,h1,rfl,rfl⟩:=lkp_rtM hl
   exact hms i y h1
 refine ew_ok hT hm vs c _ _ hok hs (h _) (fun e E' tag' hv' a' w' hs' hk=> ?_)
 have key:((resOk ti E' fn.results.toList (mRes n)∧((nmsR ti E' fn.results.toList (mRes n)).filterMap id).Nodup)∧mEnd E' (fun k=>hv [k]) 900 ms)→
   a'.defers= []∧ ∃v,(results fn a'.tmps).run P w'= .ok v w'∧ ∃tag' hv',Ending.returned v= .returned (mVal n)∧Fr w tag tag' w'∧(∀b,w'.heap.size≤b→tag' b= .off)∧
   ∀i x,ms[i]? =some x→hv' [900+i]=hv [900+i]∧VR tag' hv' w' [900+i] x.1 x.2.2 (hv [900+i]):=by
  rintro ⟨⟨h1,h2⟩,h9⟩
  refine ⟨hs'.df, ?_⟩
  obtain ⟨vs',h3,h4,h5⟩:=resAll_ok hT (nm:=nmsR ti E' fn.results.toList (mRes n)) h2 hs' (b:=0) h1 (fun j x hj=>by simpa using hj)
  have hmap:(fn.results.mapM (resV a'.tmps)).run P w'= .ok vs'.toArray w':=by
   rw[Array.mapM_eq_mapM_toList,Sem.run_map,h3]
   rfl
  have hend: ∀v,(results fn a'.tmps).run P w'= .ok v w'→v=mVal n→ ∃v,(results fn a'.tmps).run P w'= .ok v w'∧ ∃tag' hv',Ending.returned v= .returned (mVal n)∧Fr w tag tag' w'∧(∀b,w'.heap.size≤b→tag' b= .off)∧
    ∀i x,ms[i]? =some x→hv' [900+i]=hv [900+i]∧VR tag' hv' w' [900+i] x.1 x.2.2 (hv [900+i]):=fun v hr he=>by
   refine ⟨v,hr,tag',hv',by rw[he],hs'.fr,hs'.hi,fun i x hx=> ?_⟩
   obtain ⟨q1,q2⟩:=mEnd_get h9 hx
   have e:hv' [900+i]=hv [900+i]:=hs'.sl _ _ q2
   exact ⟨e,by rw[←e];exact hs'.rt _ _ q1⟩
  cases n with
  |none=>
   have h1':vs'.length=0:=by rw[h5,hl];rfl
   match vs',h1',hmap with
   | [],_,hmap=>
    refine hend _ ?_ rfl
    rw[results_eq]
    simp only[Sem.run_bind,hmap,Result.andThen_ok]
    simp[mVal]
  |some n=>
  have h1':vs'.length=1:=by rw[h5,hl];rfl
  match vs',h1',h4,hmap with
  | [u],_,h4,hmap=>
   have hu:u= .int .i64 n:=by
    obtain ⟨⟨cs,q1,q2,_⟩,_⟩:=h4
    match cs,q2 with
    | [c0],q2=>
     have:=q2.1
     cases this
     rw[q1]
     rfl
    | [],q2=>exact q2.elim
    |_::_::_,q2=>exact q2.2.elim
   subst hu
   refine hend _ ?_ rfl
   rw[results_eq]
   simp only[Sem.run_bind,hmap,Result.andThen_ok]
   simp[mVal]
 cases e with
 |normal=>exact key hk
 |ret=>exact key hk
 |_=>exact hk.elim
def rtX:Nat→List (Md×Lf)→List (Nat×Md×Lf)
 |_,[]=> []
 |k,(m,l)::r=>(k,m,l)::rtX (k+1) r
def env0X (nt:Nat) (as:List SV) (ms:List (Md×Lf)):Env:= {nt,sl:=numL 0 as,bx:= [],rt:=rtX 900 ms}
def EndX (ti:TT) (res:List ResultVar) (rs:List (Bool×ML)) (E:Env):Prop:= ∃E',Gh E E'∧resOk ti E' res rs∧((nmsR ti E' res rs).filterMap id).Nodup
theorem EndX.of {res:List ResultVar} {rs:List (Bool×ML)} (E':Env) (hg:Gh E E') (h:resOk ti E' res rs∧((nmsR ti E' res rs).filterMap id).Nodup):EndX ti res rs E:=⟨E',hg,h⟩
def kEndX (ti:TT) (res:List ResultVar) (rs:List (Bool×ML)):Exit→Env→Prop:=fun e E=>match e with
 | .normal| .ret=>EndX ti res rs E
 |_=>False
theorem lkp_rtX: ∀ {ms:List (Md×Lf)} {k r:Nat} {x:Md×Lf},lkp (rtX k ms) r=some x→ ∃i,ms[i]? =some x∧r=k+i
 | [],_,_,_,h=>by simp[rtX,lkp] at h
 |(m,l)::ms,k,r,x,h=>by
  simp only[rtX,lkp] at h
  split at h
  ·rename_i e
   subst e
   cases h
   exact ⟨0,rfl,rfl⟩
  ·obtain ⟨i,h1,h2⟩:=lkp_rtX h
   exact ⟨i+1,by simpa using h1,by omega⟩
theorem vx_of_ew (hT:TGood P ti) (hm:P.follows .mixedOrders=true) (vs:List Nat) {f:FuncId} {fn:Func} {c:Code} (hf:P.funcs[f]? =some fn) (hb:fn.body=some c) (hn:(fn.name== "runtime.NumGoroutine")=false) (hok:codeOk c=true)
  {as:List SV} {ms:List (Md×Lf)} {rs:List (Bool×ML)} (hl:fn.results.toList.length=rs.length)
  (h:ew P ti vs c (kEndX ti fn.results.toList rs) (env0X (as.length+(fn.ntmps-as.length)) as ms)):VX P f as ms rs:=by
 refine ⟨⟨fn,c,hf,hb,hn⟩,fun w tag hv vals htag hhi hargs hms=>calls_of_wp hf hb ?_⟩
 have hlen:vals.length=as.length:=hargs.len.symm
 have hs:St w tag (env0X (as.length+(fn.ntmps-as.length)) as ms) tag hv {tmps:=vals.toArray++Array.replicate (fn.ntmps-vals.toArray.size) undef,defers:= []} w:=by
  refine ⟨by simp[env0X,hlen],rfl,fun t sv hl=> ?_,fun b ls hl=>by simp[env0X,lkp] at hl,fun r x hl=> ?_,⟨rfl,rfl,rfl,Nat.le_refl _,fun _ _ _=>⟨rfl,rfl⟩⟩,hhi⟩
  ·obtain ⟨_,h2⟩:=lkp_numL as 0 t sv hl
   simp only[Nat.sub_zero] at h2
   have ht:t<as.length:=(List.getElem?_eq_some_iff.1 h2).1
   have h3:vals[t]? =some vals[t]:=List.getElem?_eq_getElem (by omega)
   have h4:=hargs.get t sv _ h2 h3
   have h5:Act.eval {tmps:=vals.toArray++Array.replicate (fn.ntmps-vals.toArray.size) undef,defers:= []} (.tmp t)=vals[t]:=by
    simp only[Act.eval,Array.getD_eq_getD_getElem?]
    rw[Array.getElem?_append_left (by simp;omega)]
    simp[h3]
   rw[h5]
   exact h4
  ·obtain ⟨i,h1,rfl⟩:=lkp_rtX hl
   exact hms i x h1
 refine ew_ok hT hm vs c _ _ hok hs h (fun e E1 tag1 hv1 a' w' hs1 hk=> ?_)
 have key:EndX ti fn.results.toList rs E1→a'.defers= []∧ ∃v,(results fn a'.tmps).run P w'= .ok v w'∧ ∃tag' hv' rv,Ending.returned v= .returned rv∧Fr w tag tag' w'∧(∀b,w'.heap.size≤b→tag' b= .off)∧RV tag' hv' w' rs rv:=by
  rintro ⟨E',hg,h1,h2⟩
  obtain ⟨tag',hv',hs'⟩:=hg _ _ _ _ _ _ hs1
  refine ⟨hs'.df, ?_⟩
  obtain ⟨vs',h3,h4,h5⟩:=resAll_ok hT (nm:=nmsR ti E' fn.results.toList rs) h2 hs' (b:=0) h1 (fun j x hj=>by simpa using hj)
  have hmap:(fn.results.mapM (resV a'.tmps)).run P w'= .ok vs'.toArray w':=by
   rw[Array.mapM_eq_mapM_toList,Sem.run_map,h3]
   rfl
  have hF:Fr w tag (tagR (nmsR ti E' fn.results.toList rs) tag') w':=by
   refine ⟨hs'.fr.os,hs'.fr.tape,hs'.fr.output,hs'.fr.size,fun b hb hq=> ?_⟩
   obtain ⟨q1,q2⟩:=hs'.fr.heap b hb hq
   refine ⟨q1, ?_⟩
   rcases hq with hq|hq<;>simp[tagR,q2,hq]
  have hI: ∀b,w'.heap.size≤b→tagR (nmsR ti E' fn.results.toList rs) tag' b= .off:=fun b hb=>by simp[tagR,hs'.hi b hb]
  by_cases h1':vs'.length=1
  ·match vs',h1',h4,hmap with
   | [u],_,h4,hmap=>
    refine ⟨u, ?_,_,hvR (nmsR ti E' fn.results.toList rs) hv',u,rfl,hF,hI, ?_⟩
    ·rw[results_eq]
     simp only[Sem.run_bind,hmap,Result.andThen_ok]
     simp
    ·have:rs.length=1:=by rw[←hl,←h5];rfl
     match rs,this,h4 with
     | [p],_,h4=>exact h4
  ·refine ⟨.tuple vs'.toArray, ?_,_,hvR (nmsR ti E' fn.results.toList rs) hv',_,rfl,hF,hI, ?_⟩
   ·rw[results_eq]
    simp only[Sem.run_bind,hmap,Result.andThen_ok]
    simp[h1']
   ·unfold RV
    split
    ·rename_i p
     exfalso
     apply h1'
     rw[h5,hl]
     rfl
    ·exact ⟨vs',rfl,h4⟩
 cases e with
 |normal=>exact key hk
 |ret=>exact key hk
 |_=>exact hk.elim
end Go.Sm
namespace Go.Sm
open Go.RowKit
set_option linter.unusedVariables false
set_option linter.unusedSimpArgs false
variable {P : Program} {ti : TT} {E : Env} {tag tag' tag0 : Nat → Tag} {hv hv' : Hv} {a : Act} {w w' w0 : World} {t d : Nat}
def bxEnd (E:Env) (pv:Nat→Value):List (Nat×ML)→Prop
 | []=>True
 |(i,ml)::r=>(match lkp E.bx (900+i) with
  |some ls=>LsOk E ls ml
  |none=>False)∧lkp E.sl (5000+i)=some (.pin (900+i) [0] (pv (900+i)))∧bxEnd E pv r
def bxNms (E:Env):List (Nat×ML)→List (Option Nat)
 | []=> []
 |(i,ml)::r=>(match lkp E.bx (900+i) with
  |some ls=>nmsL ls ml
  |none=> [])++bxNms E r
def EndB (ti:TT) (res:List ResultVar) (Φ:List (Bool×ML)→List (Nat×ML)→Prop) (pv:Nat→Value) (E:Env):Prop:=
 ∃E' rs bs,Gh E E'∧Φ rs bs∧resOk ti E' res rs∧bxEnd E' pv bs∧((nmsR ti E' res rs++bxNms E' bs).filterMap id).Nodup∧ ∀x∈bs,some (900+x.1)∉nmsR ti E' res rs++bxNms E' bs
theorem EndB.of {res:List ResultVar} {Φ:List (Bool×ML)→List (Nat×ML)→Prop} {pv:Nat→Value} (E':Env) (hg:Gh E E') (rs:List (Bool×ML)) (bs:List (Nat×ML)) (hΦ:Φ rs bs)
  (h:resOk ti E' res rs∧bxEnd E' pv bs∧((nmsR ti E' res rs++bxNms E' bs).filterMap id).Nodup∧ ∀x∈bs,some (900+x.1)∉nmsR ti E' res rs++bxNms E' bs):EndB ti res Φ pv E:=⟨E',rs,bs,hg,hΦ,h⟩
def EndN (res:List ResultVar) (Φ:List Lf→Prop) (E:Env):Prop:= ∃E' t b ls,Gh E E'∧res= [.tmp t]∧lkp E'.sl t=some (.p (.bx b 0))∧lkp E'.bx b=some (ls.map LV.s)∧Φ ls
theorem EndN.of {res:List ResultVar} {Φ:List Lf→Prop} (E':Env) (hg:Gh E E') (t b:Nat) (ls:List Lf) (hΦ:Φ ls) (h:res= [.tmp t]∧lkp E'.sl t=some (.p (.bx b 0))∧lkp E'.bx b=some (ls.map LV.s)):EndN res Φ E:=⟨E',t,b,ls,hg,h.1,h.2.1,h.2.2,hΦ⟩
theorem Gh_refl {E:Env}:Gh E E=True:=eq_true (Gh.refl E)
end Go.Sm
namespace Go.Sm
open Go.RowKit
set_option linter.unusedVariables false
set_option linter.unusedSimpArgs false
section
variable {P : Program} {ti : TT} {vs : List Nat} {Q : Exit → Env → Prop} {E : Env}
def kReg (vs:List Nat) (Q:Exit→Env→Prop):Env→Prop:=fun E=>Q .normal (E.keep vs)
def kSeq (P:Program) (ti:TT) (vs:List Nat) (y:Code) (Q:Exit→Env→Prop):Exit→Env→Prop:=fun e E'=>match e with| .normal=>ew P ti vs y Q E'|e=>Q e E'
def kBlk (id:Nat) (Q:Exit→Env→Prop):Exit→Env→Prop:=fun e E'=>match e with| .exit i=>if i=id then Q .normal E' else Q (.exit i) E'|e=>Q e E'
def Next (I:Env→Prop) (μ:Env→Nat) (E1 E':Env):Prop:= ∃E2,Gh E' E2∧I E2∧μ E2<μ E1
theorem Next.of {I:Env→Prop} {μ:Env→Nat} {E1 E':Env} (E2:Env) (hg:Gh E' E2) (hI:I E2) (hm:μ E2<μ E1):Next I μ E1 E':=⟨E2,hg,hI,hm⟩
def kLoop (I:Env→Prop) (μ:Env→Nat) (E1:Env) (Q:Exit→Env→Prop):Exit→Env→Prop:=fun e E'=>match e with| .normal=>Next I μ E1 E'|e=>Q e E'
def kD (P:Program) (ti:TT) (b:Bool) (ops:List Oper) (o:Oper) (rest:List Oper) (k:Nat) (K:Env→Prop) (D:List Nat) (H:HL) (E:Env) (sv:SV) (rts:RT) (ks:List Nat):Prop:=
 clrL ops k sv (callsOf ops 0)∧kilOk b ops k H ks∧evD P ti b ops rest (k+1) K (ks++D) (hcons b k (E.kp (lks ops o)) H) (((E.addR rts).put o.dst sv).kill (ks++D))
theorem kReg_ap:kReg vs Q E=Q .normal (E.keep vs):=rfl
theorem kSeq_n {y:Code}:kSeq P ti vs y Q .normal E=ew P ti vs y Q E:=rfl
theorem kSeq_r {y:Code}:kSeq P ti vs y Q .ret E=Q .ret E:=rfl
theorem kSeq_x {y:Code} {i:Nat}:kSeq P ti vs y Q (.exit i) E=Q (.exit i) E:=rfl
theorem kBlk_n {id:Nat}:kBlk id Q .normal E=Q .normal E:=rfl
theorem kBlk_r {id:Nat}:kBlk id Q .ret E=Q .ret E:=rfl
theorem kBlk_x {id i:Nat}:kBlk id Q (.exit i) E=if i=id then Q .normal E else Q (.exit i) E:=rfl
theorem kLoop_n {I:Env→Prop} {μ:Env→Nat} {E1:Env}:kLoop I μ E1 Q .normal E=Next I μ E1 E:=rfl
theorem kLoop_r {I:Env→Prop} {μ:Env→Nat} {E1:Env}:kLoop I μ E1 Q .ret E=Q .ret E:=rfl
theorem kLoop_x {I:Env→Prop} {μ:Env→Nat} {E1:Env} {i:Nat}:kLoop I μ E1 Q (.exit i) E=Q (.exit i) E:=rfl
theorem kEnd_n {ti:TT} {res:List ResultVar} {rs:List (Bool×ML)}:kEnd ti res rs .normal E=(resOk ti E res rs∧((nmsR ti E res rs).filterMap id).Nodup):=rfl
theorem kEnd_r {ti:TT} {res:List ResultVar} {rs:List (Bool×ML)}:kEnd ti res rs .ret E=(resOk ti E res rs∧((nmsR ti E res rs).filterMap id).Nodup):=rfl
theorem kEndM_n {ti:TT} {res:List ResultVar} {ms:List (Md×Lf×Lf)} {n:Option Int} {pv:Nat→Value}:kEndM ti res ms n pv .normal E=((resOk ti E res (mRes n)∧((nmsR ti E res (mRes n)).filterMap id).Nodup)∧mEnd E pv 900 ms):=rfl
theorem kEndM_r {ti:TT} {res:List ResultVar} {ms:List (Md×Lf×Lf)} {n:Option Int} {pv:Nat→Value}:kEndM ti res ms n pv .ret E=((resOk ti E res (mRes n)∧((nmsR ti E res (mRes n)).filterMap id).Nodup)∧mEnd E pv 900 ms):=rfl
theorem kEndX_n {ti:TT} {res:List ResultVar} {rs:List (Bool×ML)}:kEndX ti res rs .normal E=EndX ti res rs E:=rfl
theorem kEndX_r {ti:TT} {res:List ResultVar} {rs:List (Bool×ML)}:kEndX ti res rs .ret E=EndX ti res rs E:=rfl
theorem ew_skip:ew P ti vs .skip Q E=Q .normal E:=rfl
theorem ew_regf {id:Nat} {ops:Array Oper}:ew P ti vs (.region id ops false) Q E=ev P ti ops.toList ops.toList (kReg vs Q) E:=rfl
theorem ew_regt {id:Nat} {ops:Array Oper}:ew P ti vs (.region id ops true) Q E=match splitA ops.toList with
  |some (pre,m,tail)=>xsT ti (leadA pre tail)∧evD P ti (kilB pre) pre pre 0 (kApp P ti (leadA pre tail) m (kT P ti tail (kReg vs Q))) [] [] (E.fresh (famA pre))
  |none=>match splitG ops.toList with
  |some (pre,tail)=>xsG ti pre tail∧evD P ti (kilB pre) pre pre 0 (kL P ti pre tail (kReg vs Q)) [] [] (E.fresh (famA pre))
  |none=>match lastSA ops.toList with
  |some (st,as)=>evD P ti (kilB (initL (initL ops.toList))) (initL (initL ops.toList)) (initL (initL ops.toList)) 0 (kTail2 P ti st as (kReg vs Q)) [] [] (E.fresh (famA (initL (initL ops.toList))))
  |none=>match lastSt ops.toList with
  |some st=>evD P ti (kilB (initL ops.toList)) (initL ops.toList) (initL ops.toList) 0 (kTail P ti st (kReg vs Q)) [] [] (E.fresh (famA (initL ops.toList)))
  |none=>evD P ti (kilB ops.toList) ops.toList ops.toList 0 (kReg vs Q) [] [] (E.fresh (famA ops.toList)):=rfl
theorem kApp_ap {lead:List Oper} {m:Oper} {K:Env→Prop}:kApp P ti lead m K E=match m.op with
 | .call c=>match c.callee with
  | .builtin .append=>xsE E lead∧match apE ti E (dn m) c with
   |some (C,E')=>C∧K (E'.put m.dst (.v false [.r [dn m]]))
   |none=>False
  |_=>evU P ti m K E
 |_=>False:=rfl
theorem kT_ap {tail:List Oper} {K:Env→Prop}:kT P ti tail K E=evT P ti tail K E:=rfl
theorem kL_ap {pre tail:List Oper} {K:Env→Prop}:kL P ti pre tail K E=evL P ti pre tail K E:=rfl
theorem evL_nil {pre:List Oper} {K:Env→Prop}:evL P ti pre [] K E=K E:=rfl
theorem evL_cons {pre:List Oper} {o:Oper} {r:List Oper} {K:Env→Prop}:evL P ti pre (o::r) K E=(ldsG ti E o (teL pre o)∧evU P ti o (kL P ti (pre++ [o]) r K) E):=rfl
def kEv (P:Program) (ti:TT) (r:List Oper) (K:Env→Prop):Env→Prop:=fun E=>evT P ti r K E
theorem kEv_ap {r:List Oper} {K:Env→Prop}:kEv P ti r K E=evT P ti r K E:=rfl
theorem evT_nil {K:Env→Prop}:evT P ti [] K E=K E:=rfl
theorem evT_cons {o:Oper} {r:List Oper} {K:Env→Prop}:evT P ti (o::r) K E=evU P ti o (kEv P ti r K) E:=rfl
def kAs (P:Program) (ti:TT) (as:Oper) (K:Env→Prop):Env→Prop:=fun E=>evU P ti as K E
theorem kAs_ap {as:Oper} {K:Env→Prop}:kAs P ti as K E=evU P ti as K E:=rfl
theorem kTail2_ap {st as:Oper} {K:Env→Prop}:kTail2 P ti st as K E=evU P ti st (kAs P ti as K) E:=rfl
theorem kTail_ap {st:Oper} {K:Env→Prop}:kTail P ti st K E=evU P ti st K E:=rfl
theorem ew_seq {x y:Code}:ew P ti vs (.seq x y) Q E=ew P ti vs x (kSeq P ti vs y Q) E:=rfl
theorem ew_cond {c:Operand} {x y:Code}:ew P ti vs (.cond c x y) Q E=match opd ti E 0 c with
  |some (.v false [.s (.sc (.bool b))])=>(b=true→ew P ti vs x Q E)∧(b=false→ew P ti vs y Q E)
  |_=>False:=rfl
theorem ew_block {id:Nat} {c:Code}:ew P ti vs (.block id c) Q E=ew P ti vs c (kBlk id Q) E:=rfl
theorem ew_exit {i:Nat}:ew P ti vs (.exit i) Q E=Q (.exit i) E:=rfl
theorem ew_ret:ew P ti vs .ret Q E=Q .ret E:=rfl
theorem ev_nil {ops:List Oper} {K:Env→Prop}:ev P ti ops [] K E=K E:=rfl
theorem ev_cons {ops rest:List Oper} {o:Oper} {K:Env→Prop}:ev P ti ops (o::rest) K E=match o.guard with
  |none=>evU P ti o (ev P ti ops rest K) E
  |some (j,b)=>match guardB E ops j b with
   |some g=>evG P ti g o (ev P ti ops rest K) E
   |none=>False:=rfl
theorem evD_nil {b:Bool} {ops:List Oper} {k:Nat} {K:Env→Prop} {D:List Nat} {H:HL}:evD P ti b ops [] k K D H E=K E:=rfl
theorem evD_cons {b:Bool} {ops rest:List Oper} {o:Oper} {k:Nat} {K:Env→Prop} {D:List Nat} {H:HL}:evD P ti b ops (o::rest) k K D H E=match o.guard with
  |none=>dU P ti o (kD P ti b ops o rest k K D H E) (E.kp (lks ops o))
  |some (j,c)=>match guardB (E.kp (lks ops o)) ops j c with
   |some g=>dG P ti g o (kD P ti b ops o rest k K D H E) (E.kp (lks ops o))
   |none=>False:=rfl
theorem hcons_f {k:Nat} {H:HL}:hcons false k E H=H:=rfl
theorem hcons_t {k:Nat} {H:HL}:hcons true k E H=(k,(E.sl.flatMap fun x=>x.2.nms)++E.bx.flatMap fun x=>x.2.flatMap LV.nms)::H:=rfl
theorem kill_nil:E.kill []=E:=rfl
theorem kill_cons {k:Nat} {ks:List Nat}:E.kill (k::ks)= {E with sl:=klS (inL (k::ks)) E.sl,bx:=bxS (inL (k::ks)) E.bx,rt:=delD E.rt (inL (k::ks))}:=rfl
theorem kilOk_nil {b:Bool} {ops:List Oper} {k:Nat} {H:HL}:kilOk b ops k H []=True:=rfl
theorem kilOk_cons {b:Bool} {ops:List Oper} {k x:Nat} {ks:List Nat} {H:HL}:kilOk b ops k H (x::ks)=(b=true∧hOk ops k (x::ks) H):=rfl
theorem ew_loop {c:Code} (I:Env→Prop) (μ:Env→Nat) (E':Env) (hg:Gh E E') (hI:I E')
  (h: ∀E1,I E1→ew P ti vs c (kLoop I μ E1 Q) E1):ew P ti vs (.loop c) Q E:=⟨I,μ,⟨E',hg,hI⟩,h⟩
end
def Env.num (E:Env) (t:Nat):Int:=match lkp E.sl t with
 |some (.v false [.s (.sc (.int _ n))])=>n
 |_=>0
attribute [simp] Env.nlP nlN nilR lvBad hdBad kL_ap evL_nil evL_cons splitG splitV teN teL xsG ldsG ld1 isAss splitQ splitS splitB splitC adrK kApp_ap kT_ap kEv_ap evT_nil evT_cons splitA splitR tailK leadA leadL xsT xsE apE appN Env.det bsNest nestP nestL hd0
attribute [simp] hcons_f hcons_t kill_nil kill_cons kilOk_nil kilOk_cons hOk inL klS bxS kilB ksL frzS FullRs FullML Env.bsD bsDO appDS appDX kTail_ap kTail2_ap kAs_ap lastSA lastSt initL ew_skip ew_regf ew_regt ew_seq ew_cond ew_block ew_exit ew_ret kReg_ap kSeq_n kSeq_r kSeq_x kBlk_n kBlk_r kBlk_x kLoop_n kLoop_r kLoop_x kEnd_n kEnd_r kEndM_n kEndM_r kEndX_n kEndX_r env0X rtX kUse kUseD kBx kBox kNw Gh_refl bxEnd bxNms bsOk bPre bxN bxR newBx cellsN bsN killB memN Env.boxE sgl LV.ub LV.ubs PV.ub PV.ubs SV.ub SV.ubs LV.bn PV.bn SV.bn Env.useE rt1 pl3 kil3 kil1 uPre Env.usS SV.us SV.lnm clrX mEnd env0M rtM pinM kMut mRes mVal mSV cvB SV.pls LV.pls LV.mv SV.mv mPre hdsOk plOk hd0 wh stripP Env.mutE mutR put1 SV.mk LV.mk PV.mk udr evD_nil evD_cons kD kCall kCallG kCallD kCallDG
attribute [simp] appX appO Env.appB appZ appC appR Env.appS scAll allS bsO bparts setM Env.bs Env.yvsR Env.yvsM Env.yvM Env.yv Env.yvs hdM padM colsE colsOf mvsR mvs rootR chunks mkO Env.mkS msK msF Env.szAt Env.stPt setR spl Env.re dth LV.ct PV.ct SV.ct hdE
attribute [simp] callsOf Env.kp Env.addR LV.nms PV.nms SV.nms clrL closB closE Region.binds predB famA isCallO LV.hit SV.hit
attribute [simp] ev_nil ev_cons evU evG dU dG lks lks.opTmps2 env0 numL opd lkp putL delL delD Env.put pur purCall purFn capsO cSV cLVs cLV scal binSV intBin strBin boolBin eqSV eqC TI.isBool TI.isU8 Env.bytM shiftBin bnd bndL guardB gcond opTmps tm Env.un unS gsOk pick3 pickO Env.keep keepL resOk resOne LsOk LOk nmsR nmsL nmO callO argsO Env.shSs Env.shS Env.shLs Env.shL Env.shP Env.shPs Env.nm Env.nmP LV.nm Env.ret Env.fresh fam SV.fr LV.fr PV.hd resRs resR resS resPs resL Env.box Env.stBx splice zLV Env.at_ Env.vld vldL getL toLV Env.rows Env.vldLV dn int bool str list TI.agg TI.elt TI.isStr TI.int? TI.fld Env.num
theorem good_sc {P:Program} {t:Nat} {i:TI} {v:Value} (hv:scal v=true) (h1:i.zv=v) (h2:i.z= [.sc v]) (h3:i.sz=1) (h4:0<i.by_) (ha:i.agg=false) (hn: ∀n e,i.desc≠ .array n e)
  (hinf:(P.info? t).map (fun x=>(x.size,x.bytes,x.zero))=some (i.sz,i.by_,some i.zv)) (hund:P.underlying t=some i.desc) (hf: ∀k,i.fld k=none):i.good P t:=by
 have h1c:v.cells= #[v]:=by cases v<;>simp_all [scal,Value.cells]
 refine ⟨hinf,hund, ?_, ?_, ?_, ?_,h4, ?_, ?_, ?_⟩
 ·rw[h1,h1c,h2];rfl
 ·rw[h2,h3];rfl
 ·rw[h2];intro l hl;simp at hl;subst hl;exact .inl ⟨v,rfl,hv⟩
 ·rw[h3];decide
 ·rw[ha];intro h;cases h
 ·intro _;refine ⟨h3, ?_,hn⟩;rw[h1];cases v<;>simp_all [scal,Value.oneCell']
 ·intro k o u h;rw[hf] at h;cases h
theorem good_sl {P:Program} {t e:Nat} {i:TI} {zz:List Lf} (hd:i.desc= .slice e) (h1:i.zv= .slice none 0 0) (h2:i.z= [.ls zz []]) (h3:i.sz=1) (h4:0<i.by_)
  (hinf:(P.info? t).map (fun x=>(x.size,x.bytes,x.zero))=some (i.sz,i.by_,some i.zv)) (hund:P.underlying t=some i.desc):i.good P t:=by
 refine ⟨hinf,hund, ?_, ?_, ?_, ?_,h4, ?_, ?_, ?_⟩
 ·rw[h1,h2];rfl
 ·rw[h2,h3];rfl
 ·rw[h2];intro l hl;simp at hl;subst hl;exact .inr ⟨zz,rfl⟩
 ·rw[h3];decide
 ·intro h;simp[TI.agg,hd] at h
 ·intro _;refine ⟨h3,by rw[h1];rfl,by intro n e';rw[hd];intro h;cases h⟩
 ·intro k o u h;simp[TI.fld,hd] at h
theorem good_st {P:Program} {t:Nat} {i:TI} {fs:Array Field} {cs:Array Value} (hd:i.desc= .struct fs) (h1:i.zv= .agg cs) (hc:cs.toList=i.z.map zval) (h3:i.z.length=i.sz) (hp:0<i.sz) (h4:0<i.by_)
  (hz: ∀l∈i.z,(∃v,l= .sc v∧scal v=true)∨ ∃zz,l= .ls zz [])
  (hinf:(P.info? t).map (fun x=>(x.size,x.bytes,x.zero))=some (i.sz,i.by_,some i.zv)) (hund:P.underlying t=some i.desc)
  (hf:(fs.toList.all fun f=>match (P.info? f.type).map (·.size) with|some n=>n !=0|none=>false)=true):i.good P t:=by
 refine ⟨hinf,hund, ?_,h3,hz,hp,h4,fun _=>⟨cs,h1⟩, ?_, ?_⟩
 ·rw[h1];exact hc
 ·intro h;simp[TI.agg,hd] at h
 ·intro k o u h
  simp only[TI.fld,hd] at h
  obtain ⟨f,h5,h6⟩:=Option.map_eq_some_iff.1 h
  simp only[Prod.mk.injEq] at h6
  obtain ⟨_,rfl⟩:=h6
  have h7:=List.all_eq_true.1 hf f (by rw[←Array.getElem?_toList] at h5;exact List.mem_of_getElem? h5)
  split at h7
  ·rename_i n hn
   exact ⟨n,hn,by simpa using h7⟩
  ·cases h7
end Go.Sm
namespace Go.Sm
theorem wrapI {i:Int} (h0: -9223372036854775808≤i) (h:i≤9223372036854775807):IntKind.i64.wrap i=i:=by
 show (if (true&&decide (i%18446744073709551616≥9223372036854775808))=true then i%18446744073709551616-18446744073709551616 else i%18446744073709551616)=i
 simp only[Bool.true_and,decide_eq_true_eq,ge_iff_le]
 split<;>omega
theorem wrapS {n:Nat} (h:n<9223372036854775807):IntKind.i64.wrap ((n:Int)+1)=((n+1:Nat):Int):=by
 rw[wrapI]<;>omega
@[simp] theorem Ow_sc {v:Value}:Ow .s (.sc v)=True:=eq_true .sc
@[simp] theorem Full_s {l:Lf}:Full .s l=True:=eq_true .s
theorem full_flat {e:Nat} {ms:List Md} {z:List Lf} {rows:List (List Lf)} (h:allS z.length ms):Full (.o e (fun _=>ms)) (.ls z rows):=by
 refine .o fun i j _ hj=> ?_
 rw[show md (fun _=>ms) i j= .s from allS_get h hj]
 exact .s
attribute [simp] full_flat OwRs OwML
def fillR (z:List Lf) (L:List (List Lf)) (i:Nat):List (List Lf):=L.take i++List.replicate (L.length-i) z
theorem fillR_all (z:List Lf) (L:List (List Lf)) {i:Nat} (h:L.length≤i):fillR z L i=L:=by
 simp[fillR,List.take_of_length_le h,show L.length-i=0 by omega]
theorem fillR_len (z:List Lf) (L:List (List Lf)) {i:Nat} (h:i≤L.length):(fillR z L i).length=L.length:=by simp[fillR];omega
theorem fillR_set (z:List Lf) (L:List (List Lf)) {i:Nat} (h:i<L.length):(fillR z L i).set i (L.getD i z)=fillR z L (i+1):=by
 apply List.ext_getElem?
 intro j
 unfold fillR
 rw[List.getElem?_set]
 by_cases hj:i=j
 ·subst hj
  rw[if_pos rfl,if_pos (by simp;omega),List.getElem?_append_left (by simp;omega),List.getElem?_take,if_pos (by omega)]
  rw[List.getD_eq_getElem?_getD,List.getElem?_eq_getElem h]
  rfl
 ·rw[if_neg hj]
  by_cases hlt:j<i
  ·rw[List.getElem?_append_left (by simp;omega),List.getElem?_append_left (by simp;omega),List.getElem?_take,List.getElem?_take,if_pos hlt,if_pos (by omega)]
  ·rw[List.getElem?_append_right (by simp;omega),List.getElem?_append_right (by simp;omega)]
   simp only[List.length_take,List.getElem?_replicate]
   rw[show j-min i L.length=(j-min (i+1) L.length)+1 by omega]
   by_cases h2:j<L.length
   ·rw[if_pos (by omega),if_pos (by omega)]
   ·rw[if_neg (by omega),if_neg (by omega)]
def Env.kb (E:Env) (vs bs rs:List Nat):Env:= {E with sl:=keepL E.sl vs,bx:=keepL E.bx bs,rt:=keepL E.rt rs}
theorem Gh.kb (E:Env) (vs bs rs:List Nat):Gh E (E.kb vs bs rs):=fun _ _ tag hv _ _ h=>
 ⟨tag,hv,h.weak rfl (fun t sv h=>lkp_keepL _ t sv vs h) (fun b ls h=>lkp_keepL _ b ls bs h) (fun r x h=>lkp_keepL _ r x rs h)⟩
attribute [simp] Env.kb
section
variable {E : Env} {tag tag0 : Nat → Tag} {hv : Hv} {a : Act} {w w0 : World}
def LV.rn (x y:Nat):LV→LV
 | .r (k::p)=>if k=x then .r (y::p) else .r (k::p)
 |l=>l
def PV.rn (x y:Nat):PV→PV
 | .pt (k::p) sz i off=>if k=x then .pt (y::p) sz i off else .pt (k::p) sz i off
 | .vw (k::p) sz lo n=>if k=x then .vw (y::p) sz lo n else .vw (k::p) sz lo n
 |q=>q
def PV.isB (x:Nat):PV→Bool
 | .bx k _=>k==x
 |_=>false
def SV.rn (x y:Nat):SV→SV
 | .v ag ls=> .v ag (ls.map (LV.rn x y))
 | .tu ps=> .tu (ps.map fun q=>(q.1,q.2.map (LV.rn x y)))
 | .p q=>if q.isB x=true then .dead else .p (q.rn x y)
 | .fn k caps=>if caps.any (PV.isB x)=true then .dead else .fn k (caps.map (PV.rn x y))
 | .g c s=> .g c (s.rn x y)
 | .pin r q u=>if r=x then .dead else .pin r q u
 | .dead=> .dead
def rnK {α:Type} (x y:Nat):List (Nat×α)→List (Nat×α)
 | []=> []
 |(k,u)::r=>(if k=x then y else k,u)::rnK x y r
def Env.rn0 (E:Env) (x y:Nat):Env:= {E with sl:=E.sl.map (fun u=>(u.1,u.2.rn x y)),bx:=(delL E.bx x).map (fun u=>(u.1,u.2.map (LV.rn x y))),rt:=rnK x y E.rt}
def Env.rn (E:Env) (x y:Nat):Env:=(E.fresh fun r=>r==y).rn0 x y
def rnT (x y:Nat) (tag:Nat→Tag):Nat→Tag:=fun b=>match tag b with
 | .own (k::p)=>if k=x then .own (y::p) else if k=y then .off else .own (k::p)
 |s=>s
def rnH (x y:Nat) (hv:Hv):Hv:=fun q=>match q with
 |k::p=>if k=y then hv (x::p) else hv (k::p)
 | []=>hv []
variable {x y : Nat}
theorem rnT_sh {b:Nat} (h:tag b= .sh):rnT x y tag b= .sh:=by simp[rnT,h]
theorem VR.rn_s {p:List Nat} {l:Lf} {v:Value} (h:VR tag hv w p .s l v):VR (rnT x y tag) (rnH x y hv) w p .s l v:=
 h.move p (fun _ hb=>⟨rnT_sh hb,rfl⟩) (fun rest hr=>by cases hr)
theorem LR.rn {l:LV} {v:Value} (hl:l.hit (fun r=>r==y)=false) (h:LR tag hv w l v):LR (rnT x y tag) (rnH x y hv) w (l.rn x y) v:=by
 cases l with
 |s l=>exact VR.rn_s h
 |n z=>exact h
 |u=>exact h
 |r p=>
  cases p with
  |nil=>simp[LV.hit] at hl
  |cons k p=>
   simp only[LV.hit,beq_eq_false_iff_ne] at hl
   obtain ⟨h1,h2⟩:=h
   simp only[LV.rn]
   split
   ·rename_i hk
    subst hk
    exact ⟨by simpa [rnH] using h1,h2⟩
   ·exact ⟨by simpa [rnH,hl] using h1,h2⟩
theorem LRs.rn {ls:List LV} {cs:List Value} (hl:ls.any (LV.hit fun r=>r==y)=false) (h:All2 (LR tag hv w) ls cs):All2 (LR (rnT x y tag) (rnH x y hv) w) (ls.map (LV.rn x y)) cs:=by
 induction h with
 |nil=>exact .nil
 |cons h hs ih=>
  simp only[List.any_cons,Bool.or_eq_false_iff] at hl
  exact .cons (LR.rn hl.1 h) (ih hl.2)
theorem VV.rn {ag:Bool} {ls:List LV} {v:Value} (hl:ls.any (LV.hit fun r=>r==y)=false) (h:VV tag hv w ag ls v):VV (rnT x y tag) (rnH x y hv) w ag (ls.map (LV.rn x y)) v:=by
 obtain ⟨cs,h1,h2,h3⟩:=h
 exact ⟨cs,h1,LRs.rn hl h2,by simpa using h3⟩
theorem PR.rn {q:PV} {v:Value} (hl:q.hd (fun r=>r==y)=false) (hb:q.isB x=false) (h:PR tag hv w q v):PR (rnT x y tag) (rnH x y hv) w (q.rn x y) v:=by
 cases q with
 |pt p sz i off=>
  cases p with
  |nil=>simp[PV.hd] at hl
  |cons k p=>
   simp only[PV.hd,beq_eq_false_iff_ne] at hl
   obtain ⟨b,n,c,h1,h2⟩:=h
   simp only[PV.rn]
   split
   ·rename_i hk
    subst hk
    exact ⟨b,n,c,by simpa [rnH] using h1,h2⟩
   ·exact ⟨b,n,c,by simpa [rnH,hl] using h1,h2⟩
 |vw p sz lo n=>
  cases p with
  |nil=>simp[PV.hd] at hl
  |cons k p=>
   simp only[PV.hd,beq_eq_false_iff_ne] at hl
   simp only[PV.rn]
   split
   ·rename_i hk
    subst hk
    have e:rnH k y hv (y::p)=hv (k::p):=by simp[rnH]
    simp only[PR]
    rw[e]
    exact h
   ·have e:rnH x y hv (k::p)=hv (k::p):=by simp[rnH,hl]
    simp only[PR]
    rw[e]
    exact h
 |bx b off=>
  simp only[PV.hd,beq_eq_false_iff_ne] at hl
  obtain ⟨k,h1,h2⟩:=h
  exact ⟨k,by simpa [rnH,hl] using h1,h2⟩
 |ps ds=>
  obtain ⟨b,off,h1,h2,h3⟩:=h
  refine ⟨b,off,h1,rnT_sh h2,fun j hj=> ?_⟩
  obtain ⟨u,hu,hr⟩:=h3 j hj
  exact ⟨u,hu,hr.rn_s⟩
theorem SR.rn: ∀ {sv:SV} {v:Value},sv.hit (fun r=>r==y)=false→SR tag hv w sv v→SR (rnT x y tag) (rnH x y hv) w (sv.rn x y) v
 | .dead,_,_,_=>trivial
 | .v ag ls,v,hl,h=>VV.rn hl h
 | .tu ps,v,hl,h=>by
  obtain ⟨vs,h1,h2⟩:=h
  refine ⟨vs,h1, ?_⟩
  simp only[SV.hit] at hl
  clear h1
  induction h2 with
  |nil=>exact .nil
  |cons h hs ih=>
   simp only[List.any_cons,Bool.or_eq_false_iff] at hl
   exact .cons (VV.rn hl.1 h) (ih hl.2)
 | .p q,v,hl,h=>by
  simp only[SV.rn]
  split
  ·trivial
  ·rename_i hb
   exact PR.rn hl (by simpa using hb) h
 | .fn k caps,v,hl,h=>by
  simp only[SV.rn]
  split
  ·trivial
  ·rename_i hb
   obtain ⟨vs,h1,h2⟩:=h
   refine ⟨vs,h1, ?_⟩
   simp only[SV.hit] at hl
   simp only[Bool.not_eq_true] at hb
   clear h1
   induction h2 with
   |nil=>exact .nil
   |cons h hs ih=>
    simp only[List.any_cons,Bool.or_eq_false_iff] at hl hb
    exact .cons (PR.rn hl.1 hb.1 h) (ih hl.2 hb.2)
 | .g c s,v,hl,h=>⟨fun hc=>SR.rn (sv:=s) hl (h.1 hc),h.2⟩
 | .pin r q u,v,hl,h=>by
  simp only[SV.hit,beq_eq_false_iff_ne] at hl
  simp only[SV.rn]
  split
  ·trivial
  ·have:hv (r::q)=u:=h
   show rnH x y hv (r::q)=u
   simp[rnH,hl,this]
theorem lkp_rnK {α:Type} {u:α} {r:Nat}: ∀ {l:List (Nat×α)},lkp l y=none→lkp (rnK x y l) r=some u→(r=y∧lkp l x=some u)∨(r≠x∧r≠y∧lkp l r=some u)
 | [],_,h=>by simp[rnK,lkp] at h
 |(k,z)::l,hn,h=>by
  simp only[lkp] at hn
  split at hn
  ·cases hn
  ·rename_i hky
   simp only[rnK,lkp] at h
   by_cases hkx:k=x
   ·rw[if_pos hkx] at h
    split at h
    ·rename_i he
     cases h
     exact .inl ⟨he.symm,by simp[lkp,hkx]⟩
    ·rename_i he
     rcases lkp_rnK hn h with ⟨h1,_⟩|⟨h1,h2,h3⟩
     ·exact absurd h1.symm he
     ·exact .inr ⟨h1,h2,by
       have: ¬k=r:=fun e=>h1 (e.symm.trans hkx)
       simp[lkp,this,h3]⟩
   ·rw[if_neg hkx] at h
    split at h
    ·rename_i he
     cases h
     exact .inr ⟨fun e=>hkx (he.trans e),fun e=>hky (he.trans e),by simp[lkp,he]⟩
    ·rename_i he
     rcases lkp_rnK hn h with ⟨h1,h2⟩|⟨h1,h2,h3⟩
     ·exact .inl ⟨h1,by simp[lkp,hkx,h2]⟩
     ·exact .inr ⟨h1,h2,by simp[lkp,he,h3]⟩
theorem St.rn0 (hc:E.cl fun r=>r==y) (hs:St w0 tag0 E tag hv a w):St w0 tag0 (E.rn0 x y) (rnT x y tag) (rnH x y hv) a w:=by
 refine ⟨hs.nt,hs.df,fun t sv h=> ?_,fun b ls h=> ?_,fun r u h=> ?_, ?_,fun b hb=>by simp[rnT,hs.hi b hb]⟩
 ·simp only[Env.rn0,lkp_map] at h
  obtain ⟨sv0,h1,rfl⟩:=Option.map_eq_some_iff.1 h
  exact SR.rn (hc.sl t sv0 h1) (hs.sl t sv0 h1)
 ·simp only[Env.rn0,lkp_map,lkp_delL] at h
  obtain ⟨ls0,h1,rfl⟩:=Option.map_eq_some_iff.1 h
  split at h1
  ·cases h1
  ·rename_i hne
   obtain ⟨k,cur,e,h2,h3,h4,h5⟩:=hs.bx b ls0 h1
   have hby:=hc.bx b ls0 h1
   have hby1:b≠y:=by simpa using hby.1
   have hbx:b≠x:=fun e=>hne e.symm
   exact ⟨k,cur,e,by simpa [rnH,hby1] using h2,by simp[rnT,h3,hbx,hby1],h4,LRs.rn hby.2 h5⟩
 ·have hn:lkp E.rt y=none:=by
   cases hq:lkp E.rt y with
   |none=>rfl
   |some z=>have:=hc.rt y z hq;simp at this
  rcases lkp_rnK hn h with ⟨rfl,h1⟩|⟨h1,h2,h3⟩
  ·have:=hs.rt x u h1
   rw[show rnH x r hv [r]=hv [x] by simp[rnH]]
   refine this.move [r] (fun b hb=>⟨rnT_sh hb,rfl⟩) (fun rest _=>⟨by simp[rnH],fun b hb=>⟨?_,rfl⟩⟩)
   simp only[List.singleton_append] at hb⊢
   simp[rnT,hb]
  ·have:=hs.rt r u h3
   rw[show rnH x y hv [r]=hv [r] by simp[rnH,h2]]
   refine this.move [r] (fun b hb=>⟨rnT_sh hb,rfl⟩) (fun rest _=>⟨by simp[rnH,h2],fun b hb=>⟨?_,rfl⟩⟩)
   simp only[List.singleton_append] at hb⊢
   simp[rnT,hb,h1,h2]
 ·refine ⟨hs.fr.os,hs.fr.tape,hs.fr.output,hs.fr.size,fun b hb hq=> ?_⟩
  obtain ⟨h1,h2⟩:=hs.fr.heap b hb hq
  refine ⟨h1, ?_⟩
  rcases hq with hq|hq<;>simp[rnT,h2,hq]
theorem Gh.rn (E:Env) (x y:Nat):Gh E (E.rn x y):=fun _ _ _ _ _ _ h=>
 ⟨_,_,St.rn0 (Env.fresh_cl (fun _ h=>h) E) (h.fresh_same fun r=>r==y)⟩
end
attribute [simp] Env.rn Env.rn0 rnK LV.rn PV.rn PV.isB SV.rn
end Go.Sm
