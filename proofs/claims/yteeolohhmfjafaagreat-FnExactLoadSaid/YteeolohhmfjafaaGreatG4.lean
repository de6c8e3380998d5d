import Derived.Test.YteeolohhmfjafaaGreatG3
import Derived.ProofKit
import Derived.Laws.StructEq
import Derived.OpenShut
import Derived.ShutString
import Derived.ChangeOld
import Derived.Below
import Derived.Carry
import Derived.WideShapes
import Derived.JoinedOf
import Derived.KernelRfl
set_option maxHeartbeats 8000000
set_option maxRecDepth 8000
namespace Go.Sm
theorem wrapI {i:Int} (h0: -9223372036854775808≤i) (h:i≤9223372036854775807):IntKind.i64.wrap i=i:=by
 show (if (true&&decide (i%18446744073709551616≥9223372036854775808))=true then i%18446744073709551616-18446744073709551616 else i%18446744073709551616)=i
 simp only[Bool.true_and,decide_eq_true_eq,ge_iff_le]
 split<;>omega
theorem wrapS {n:Nat} (h:n<9223372036854775807):IntKind.i64.wrap ((n:Int)+1)=((n+1:Nat):Int):=by
 rw[wrapI]<;>omega
@[simp] theorem Ow_sc {v:Value}:Ow .s (.sc v)=True:=eq_true .sc
@[simp] theorem Full_s {l:Lf}:Full .s l=True:=eq_true .s
theorem full_flat {e:Nat} {ms:List Md} {z:List Lf} {rows:List (List Lf)} (h:allS z.length ms):Full (.o e (fun _=>ms)) (.ls z rows):=by
 refine .o fun i j _ hj=> ?_
 rw[show md (fun _=>ms) i j= .s from allS_get h hj]
 exact .s
attribute [simp] full_flat OwRs OwML
def fillR (z:List Lf) (L:List (List Lf)) (i:Nat):List (List Lf):=L.take i++List.replicate (L.length-i) z
theorem fillR_all (z:List Lf) (L:List (List Lf)) {i:Nat} (h:L.length≤i):fillR z L i=L:=by
 simp[fillR,List.take_of_length_le h,show L.length-i=0 by omega]
theorem fillR_len (z:List Lf) (L:List (List Lf)) {i:Nat} (h:i≤L.length):(fillR z L i).length=L.length:=by simp[fillR];omega
theorem fillR_set (z:List Lf) (L:List (List Lf)) {i:Nat} (h:i<L.length):(fillR z L i).set i (L.getD i z)=fillR z L (i+1):=by
 apply List.ext_getElem?
 intro j
 unfold fillR
 rw[List.getElem?_set]
 by_cases hj:i=j
 ·subst hj
  rw[if_pos rfl,if_pos (by simp;omega),List.getElem?_append_left (by simp;omega),List.getElem?_take,if_pos (by omega)]
  rw[List.getD_eq_getElem?_getD,List.getElem?_eq_getElem h]
  rfl
 ·rw[if_neg hj]
  by_cases hlt:j<i
  ·rw[List.getElem?_append_left (by simp;omega),List.getElem?_append_left (by simp;omega),List.getElem?_take,List.getElem?_take,if_pos hlt,if_pos (by omega)]
  ·rw[List.getElem?_append_right (by simp;omega),List.getElem?_append_right (by simp;omega)]
   simp only[List.length_take,List.getElem?_replicate]
   rw[show j-min i L.length=(j-min (i+1) L.length)+1 by omega]
   by_cases h2:j<L.length
   ·rw[if_pos (by omega),if_pos (by omega)]
   ·rw[if_neg (by omega),if_neg (by omega)]
def Env.kb (E:Env) (vs bs rs:List Nat):Env:= {E with sl:=keepL E.sl vs,bx:=keepL E.bx bs,rt:=keepL E.rt rs}
theorem Gh.kb (E:Env) (vs bs rs:List Nat):Gh E (E.kb vs bs rs):=fun _ _ tag hv _ _ h=>
 ⟨tag,hv,h.weak rfl (fun t sv h=>lkp_keepL _ t sv vs h) (fun b ls h=>lkp_keepL _ b ls bs h) (fun r x h=>lkp_keepL _ r x rs h)⟩
attribute [simp] Env.kb
section
variable {E : Env} {tag tag0 : Nat → Tag} {hv : Hv} {a : Act} {w w0 : World}
def LV.rn (x y:Nat):LV→LV
 | .r (k::p)=>if k=x then .r (y::p) else .r (k::p)
 |l=>l
def PV.rn (x y:Nat):PV→PV
 | .pt (k::p) sz i off=>if k=x then .pt (y::p) sz i off else .pt (k::p) sz i off
 | .vw (k::p) sz lo n=>if k=x then .vw (y::p) sz lo n else .vw (k::p) sz lo n
 |q=>q
def PV.isB (x:Nat):PV→Bool
 | .bx k _=>k==x
 |_=>false
def SV.rn (x y:Nat):SV→SV
 | .v ag ls=> .v ag (ls.map (LV.rn x y))
 | .tu ps=> .tu (ps.map fun q=>(q.1,q.2.map (LV.rn x y)))
 | .p q=>if q.isB x=true then .dead else .p (q.rn x y)
 | .fn k caps=>if caps.any (PV.isB x)=true then .dead else .fn k (caps.map (PV.rn x y))
 | .g c s=> .g c (s.rn x y)
 | .pin r q u=>if r=x then .dead else .pin r q u
 | .dead=> .dead
def rnK {α:Type} (x y:Nat):List (Nat×α)→List (Nat×α)
 | []=> []
 |(k,u)::r=>(if k=x then y else k,u)::rnK x y r
def Env.rn0 (E:Env) (x y:Nat):Env:= {E with sl:=E.sl.map (fun u=>(u.1,u.2.rn x y)),bx:=(delL E.bx x).map (fun u=>(u.1,u.2.map (LV.rn x y))),rt:=rnK x y E.rt}
def Env.rn (E:Env) (x y:Nat):Env:=(E.fresh fun r=>r==y).rn0 x y
def rnT (x y:Nat) (tag:Nat→Tag):Nat→Tag:=fun b=>match tag b with
 | .own (k::p)=>if k=x then .own (y::p) else if k=y then .off else .own (k::p)
 |s=>s
def rnH (x y:Nat) (hv:Hv):Hv:=fun q=>match q with
 |k::p=>if k=y then hv (x::p) else hv (k::p)
 | []=>hv []
variable {x y : Nat}
theorem rnT_sh {b:Nat} (h:tag b= .sh):rnT x y tag b= .sh:=by simp[rnT,h]
theorem VR.rn_s {p:List Nat} {l:Lf} {v:Value} (h:VR tag hv w p .s l v):VR (rnT x y tag) (rnH x y hv) w p .s l v:=
 h.move p (fun _ hb=>⟨rnT_sh hb,rfl⟩) (fun rest hr=>by cases hr)
theorem LR.rn {l:LV} {v:Value} (hl:l.hit (fun r=>r==y)=false) (h:LR tag hv w l v):LR (rnT x y tag) (rnH x y hv) w (l.rn x y) v:=by
 cases l with
 |s l=>exact VR.rn_s h
 |n z=>exact h
 |u=>exact h
 |r p=>
  cases p with
  |nil=>simp[LV.hit] at hl
  |cons k p=>
   simp only[LV.hit,beq_eq_false_iff_ne] at hl
   obtain ⟨h1,h2⟩:=h
   simp only[LV.rn]
   split
   ·rename_i hk
    subst hk
    exact ⟨by simpa [rnH] using h1,h2⟩
   ·exact ⟨by simpa [rnH,hl] using h1,h2⟩
theorem LRs.rn {ls:List LV} {cs:List Value} (hl:ls.any (LV.hit fun r=>r==y)=false) (h:All2 (LR tag hv w) ls cs):All2 (LR (rnT x y tag) (rnH x y hv) w) (ls.map (LV.rn x y)) cs:=by
 induction h with
 |nil=>exact .nil
 |cons h hs ih=>
  simp only[List.any_cons,Bool.or_eq_false_iff] at hl
  exact .cons (LR.rn hl.1 h) (ih hl.2)
theorem VV.rn {ag:Bool} {ls:List LV} {v:Value} (hl:ls.any (LV.hit fun r=>r==y)=false) (h:VV tag hv w ag ls v):VV (rnT x y tag) (rnH x y hv) w ag (ls.map (LV.rn x y)) v:=by
 obtain ⟨cs,h1,h2,h3⟩:=h
 exact ⟨cs,h1,LRs.rn hl h2,by simpa using h3⟩
theorem PR.rn {q:PV} {v:Value} (hl:q.hd (fun r=>r==y)=false) (hb:q.isB x=false) (h:PR tag hv w q v):PR (rnT x y tag) (rnH x y hv) w (q.rn x y) v:=by
 cases q with
 |pt p sz i off=>
  cases p with
  |nil=>simp[PV.hd] at hl
  |cons k p=>
   simp only[PV.hd,beq_eq_false_iff_ne] at hl
   obtain ⟨b,n,c,h1,h2⟩:=h
   simp only[PV.rn]
   split
   ·rename_i hk
    subst hk
    exact ⟨b,n,c,by simpa [rnH] using h1,h2⟩
   ·exact ⟨b,n,c,by simpa [rnH,hl] using h1,h2⟩
 |vw p sz lo n=>
  cases p with
  |nil=>simp[PV.hd] at hl
  |cons k p=>
   simp only[PV.hd,beq_eq_false_iff_ne] at hl
   simp only[PV.rn]
   split
   ·rename_i hk
    subst hk
    have e:rnH k y hv (y::p)=hv (k::p):=by simp[rnH]
    simp only[PR]
    rw[e]
    exact h
   ·have e:rnH x y hv (k::p)=hv (k::p):=by simp[rnH,hl]
    simp only[PR]
    rw[e]
    exact h
 |bx b off=>
  simp only[PV.hd,beq_eq_false_iff_ne] at hl
  obtain ⟨k,h1,h2⟩:=h
  exact ⟨k,by simpa [rnH,hl] using h1,h2⟩
 |ps ds=>
  obtain ⟨b,off,h1,h2,h3⟩:=h
  refine ⟨b,off,h1,rnT_sh h2,fun j hj=> ?_⟩
  obtain ⟨u,hu,hr⟩:=h3 j hj
  exact ⟨u,hu,hr.rn_s⟩
theorem SR.rn: ∀ {sv:SV} {v:Value},sv.hit (fun r=>r==y)=false→SR tag hv w sv v→SR (rnT x y tag) (rnH x y hv) w (sv.rn x y) v
 | .dead,_,_,_=>trivial
 | .v ag ls,v,hl,h=>VV.rn hl h
 | .tu ps,v,hl,h=>by
  obtain ⟨vs,h1,h2⟩:=h
  refine ⟨vs,h1, ?_⟩
  simp only[SV.hit] at hl
  clear h1
  induction h2 with
  |nil=>exact .nil
  |cons h hs ih=>
   simp only[List.any_cons,Bool.or_eq_false_iff] at hl
   exact .cons (VV.rn hl.1 h) (ih hl.2)
 | .p q,v,hl,h=>by
  simp only[SV.rn]
  split
  ·trivial
  ·rename_i hb
   exact PR.rn hl (by simpa using hb) h
 | .fn k caps,v,hl,h=>by
  simp only[SV.rn]
  split
  ·trivial
  ·rename_i hb
   obtain ⟨vs,h1,h2⟩:=h
   refine ⟨vs,h1, ?_⟩
   simp only[SV.hit] at hl
   simp only[Bool.not_eq_true] at hb
   clear h1
   induction h2 with
   |nil=>exact .nil
   |cons h hs ih=>
    simp only[List.any_cons,Bool.or_eq_false_iff] at hl hb
    exact .cons (PR.rn hl.1 hb.1 h) (ih hl.2 hb.2)
 | .g c s,v,hl,h=>⟨fun hc=>SR.rn (sv:=s) hl (h.1 hc),h.2⟩
 | .pin r q u,v,hl,h=>by
  simp only[SV.hit,beq_eq_false_iff_ne] at hl
  simp only[SV.rn]
  split
  ·trivial
  ·have:hv (r::q)=u:=h
   show rnH x y hv (r::q)=u
   simp[rnH,hl,this]
theorem lkp_rnK {α:Type} {u:α} {r:Nat}: ∀ {l:List (Nat×α)},lkp l y=none→lkp (rnK x y l) r=some u→(r=y∧lkp l x=some u)∨(r≠x∧r≠y∧lkp l r=some u)
 | [],_,h=>by simp[rnK,lkp] at h
 |(k,z)::l,hn,h=>by
  simp only[lkp] at hn
  split at hn
  ·cases hn
  ·rename_i hky
   simp only[rnK,lkp] at h
   by_cases hkx:k=x
   ·rw[if_pos hkx] at h
    split at h
    ·rename_i he
     cases h
     exact .inl ⟨he.symm,by simp[lkp,hkx]⟩
    ·rename_i he
     rcases lkp_rnK hn h with ⟨h1,_⟩|⟨h1,h2,h3⟩
     ·exact absurd h1.symm he
     ·exact .inr ⟨h1,h2,by
       have: ¬k=r:=fun e=>h1 (e.symm.trans hkx)
       simp[lkp,this,h3]⟩
   ·rw[if_neg hkx] at h
    split at h
    ·rename_i he
     cases h
     exact .inr ⟨fun e=>hkx (he.trans e),fun e=>hky (he.trans e),by simp[lkp,he]⟩
    ·rename_i he
     rcases lkp_rnK hn h with ⟨h1,h2⟩|⟨h1,h2,h3⟩
     ·exact .inl ⟨h1,by simp[lkp,hkx,h2]⟩
     ·exact .inr ⟨h1,h2,by simp[lkp,he,h3]⟩
theorem St.rn0 (hc:E.cl fun r=>r==y) (hs:St w0 tag0 E tag hv a w):St w0 tag0 (E.rn0 x y) (rnT x y tag) (rnH x y hv) a w:=by
 refine ⟨hs.nt,hs.df,fun t sv h=> ?_,fun b ls h=> ?_,fun r u h=> ?_, ?_,fun b hb=>by simp[rnT,hs.hi b hb]⟩
 ·simp only[Env.rn0,lkp_map] at h
  obtain ⟨sv0,h1,rfl⟩:=Option.map_eq_some_iff.1 h
  exact SR.rn (hc.sl t sv0 h1) (hs.sl t sv0 h1)
 ·simp only[Env.rn0,lkp_map,lkp_delL] at h
  obtain ⟨ls0,h1,rfl⟩:=Option.map_eq_some_iff.1 h
  split at h1
  ·cases h1
  ·rename_i hne
   obtain ⟨k,cur,e,h2,h3,h4,h5⟩:=hs.bx b ls0 h1
   have hby:=hc.bx b ls0 h1
   have hby1:b≠y:=by simpa using hby.1
   have hbx:b≠x:=fun e=>hne e.symm
   exact ⟨k,cur,e,by simpa [rnH,hby1] using h2,by simp[rnT,h3,hbx,hby1],h4,LRs.rn hby.2 h5⟩
 ·have hn:lkp E.rt y=none:=by
   cases hq:lkp E.rt y with
   |none=>rfl
   |some z=>have:=hc.rt y z hq;simp at this
  rcases lkp_rnK hn h with ⟨rfl,h1⟩|⟨h1,h2,h3⟩
  ·have:=hs.rt x u h1
   rw[show rnH x r hv [r]=hv [x] by simp[rnH]]
   refine this.move [r] (fun b hb=>⟨rnT_sh hb,rfl⟩) (fun rest _=>⟨by simp[rnH],fun b hb=>⟨?_,rfl⟩⟩)
   simp only[List.singleton_append] at hb⊢
   simp[rnT,hb]
  ·have:=hs.rt r u h3
   rw[show rnH x y hv [r]=hv [r] by simp[rnH,h2]]
   refine this.move [r] (fun b hb=>⟨rnT_sh hb,rfl⟩) (fun rest _=>⟨by simp[rnH,h2],fun b hb=>⟨?_,rfl⟩⟩)
   simp only[List.singleton_append] at hb⊢
   simp[rnT,hb,h1,h2]
 ·refine ⟨hs.fr.os,hs.fr.tape,hs.fr.output,hs.fr.size,fun b hb hq=> ?_⟩
  obtain ⟨h1,h2⟩:=hs.fr.heap b hb hq
  refine ⟨h1, ?_⟩
  rcases hq with hq|hq<;>simp[rnT,h2,hq]
theorem Gh.rn (E:Env) (x y:Nat):Gh E (E.rn x y):=fun _ _ _ _ _ _ h=>
 ⟨_,_,St.rn0 (Env.fresh_cl (fun _ h=>h) E) (h.fresh_same fun r=>r==y)⟩
end
attribute [simp] Env.rn Env.rn0 rnK LV.rn PV.rn PV.isB SV.rn
end Go.Sm
namespace Go.Sm
open Go.RowKit
abbrev fld (n:String) (t off bo:Nat) (p:String):Field:= {name:=n,type:=t,offset:=off,byteOffset:=bo,embedded:=false,tag:= "",pkgPath:=p}
def zOk:List Lf→Bool
 | []=>true
 | .sc v::r=>scal v&&zOk r
 | .ls _ []::r=>zOk r
 |_=>false
theorem zOk_ok: ∀ {z:List Lf},zOk z=true→ ∀l∈z,(∃v,l= .sc v∧scal v=true)∨ ∃zz,l= .ls zz []
 | [],_,l,hl=>by cases hl
 | .sc v::r,h,l,hl=>by
  simp only[zOk,Bool.and_eq_true] at h
  rcases List.mem_cons.1 hl with rfl|hl
  ·exact .inl ⟨v,rfl,h.1⟩
  ·exact zOk_ok h.2 l hl
 | .ls z []::r,h,l,hl=>by
  simp only[zOk] at h
  rcases List.mem_cons.1 hl with rfl|hl
  ·exact .inr ⟨z,rfl⟩
  ·exact zOk_ok h l hl
 | .ls _ (_::_)::_,h,_,_=>by simp[zOk] at h
inductive CK where
 |int (k:IntKind)
 |bool
 |str
 |sl (e:Nat)
instance:Inhabited CK:=⟨.bool⟩
def CK.elt:CK→Option Nat
 | .sl e=>some e
 |_=>none
abbrev CT:=Nat→List CK
def contig (ti:TT) (ck:CT):List Field→Nat→List CK→Prop
 | [],_,l=>l= []
 |f::r,off,l=>f.offset=off∧(ti f.type).ok=true∧l.take (ti f.type).sz=ck f.type∧contig ti ck r (off+(ti f.type).sz) (l.drop (ti f.type).sz)
def ckOk (ti:TT) (ck:CT) (t:Nat):Prop:=(ck t).length=(ti t).sz∧match (ti t).desc with
 | .int k=>ck t= [.int k]
 | .bool=>ck t= [.bool]
 | .string=>ck t= [.str]
 | .slice e=>ck t= [.sl e]∧(ti e).ok=true
 | .struct fs=>contig ti ck fs.toList 0 (ck t)
 |_=>False
def CGood (ti:TT) (ck:CT):Prop:= ∀t,(ti t).ok=true→ckOk ti ck t
inductive FitK (ti:TT) (ck:CT):CK→Lf→Prop
 |int {k n} (h:(Lit.int k n).wf=true):FitK ti ck (.int k) (.sc (.int k n))
 |bool {b}:FitK ti ck .bool (.sc (.bool b))
 |str {s:ByteArray} (h:s.size≤maxLen):FitK ti ck .str (.sc (.string s))
 |sl {e rows} (hn:rows.length≤maxLen) (hl: ∀i,i<rows.length→(rows.getD i (ti e).z).length=(ck e).length)
   (h: ∀i j,i<rows.length→j< (ck e).length→FitK ti ck ((ck e).getD j default) (lf (ti e).z rows i j)):FitK ti ck (.sl e) (.ls (ti e).z rows)
def Fit (ti:TT) (ck:CT) (t:Nat) (ls:List Lf):Prop:=All2 (FitK ti ck) (ck t) ls
variable {P : Program} {ti : TT} {ck : CT}
def shT (n:Nat):Nat→Tag:=fun b=>if b<n then .sh else .off
theorem cellsOf_ok {t:Nat} (g:(ti t).good P t):P.cellsOf t=(ti t).sz:=by
 obtain ⟨x,h1,h2,_⟩:=g.inf
 simp[Program.cellsOf,h1,h2]
theorem cellsVR {H:Type} {enc:TypeId×Value→H} {w:World} {spare:Nat→Bool} {held:Bool} {hv:Hv} {n:Nat} {cs:List Value} (hT:TGood P ti) (hC:CGood ti ck)
  (IH: ∀ (t:Nat) (cs:List Value) (x:DataW H×List MemPlace),(ti t).ok=true→DataW.trod enc P w 0 spare held n t cs=some x→ ∃ls,Fit ti ck t ls∧All2 (VR (shT w.heap.size) hv w [] .s) ls cs):
  ∀ (l:List Field) (off:Nat) (ckl:List CK),contig ti ck l off ckl→(∀f∈l,∃y,DataW.trod enc P w 0 spare held n f.type ((cs.drop f.offset).take (P.cellsOf f.type))=some y)→off+ckl.length=cs.length→
   ∃ls,All2 (FitK ti ck) ckl ls∧All2 (VR (shT w.heap.size) hv w [] .s) ls (cs.drop off)
 | [],off,ckl,h,_,hl=>by
  simp only[contig] at h
  subst h
  refine ⟨[],.nil, ?_⟩
  rw[List.drop_of_length_le (by simp at hl;omega)]
  exact .nil
 |f::r,off,ckl,h,hf,hl=>by
  obtain ⟨h1,h2,h3,h4⟩:=h
  have g:=hT _ h2
  have c:=hC _ h2
  obtain ⟨y,hy⟩:=hf f (by simp)
  rw[h1,cellsOf_ok g] at hy
  obtain ⟨ls1,h5,h6⟩:=IH f.type _ y h2 hy
  have hlen:(ckl.take (ti f.type).sz).length=(ti f.type).sz:=by rw[h3];exact c.1
  rw[List.length_take] at hlen
  obtain ⟨ls2,h7,h8⟩:=cellsVR hT hC IH r (off+(ti f.type).sz) (ckl.drop (ti f.type).sz) h4 (fun f hf'=>hf f (by simp[hf'])) (by rw[List.length_drop];omega)
  refine ⟨ls1++ls2, ?_, ?_⟩
  ·rw[←List.take_append_drop (ti f.type).sz ckl,h3]
   exact All2.append h5 h7
  ·have h9:=All2.append h6 h8
   rw[←List.drop_drop,List.take_append_drop] at h9
   exact h9
theorem fit_of_trod {H:Type} {enc:TypeId×Value→H} {w:World} {spare:Nat→Bool} {held:Bool} {hv:Hv} (hT:TGood P ti) (hC:CGood ti ck): ∀ (fuel:Nat) (t:Nat) (cs:List Value) (x:DataW H×List MemPlace),(ti t).ok=true→
  DataW.trod enc P w 0 spare held fuel t cs=some x→ ∃ls,Fit ti ck t ls∧All2 (VR (shT w.heap.size) hv w [] .s) ls cs
 |0,t,cs,x,_,h=>by simp[DataW.trod] at h
 |fuel+1,t,cs,x,ht,h=>by
  have g:=hT t ht
  have c:=hC t ht
  have hu:=g.und
  obtain ⟨hlen,hc⟩:=c
  unfold Fit
  split at hc
  ·rename_i k hd
   rw[hd] at hu
   obtain ⟨n,rfl,_,hwf⟩:=DataW.trod_int hu h
   rw[hc]
   exact ⟨[.sc (.int k n)],.cons (.int hwf) .nil,.cons (.sc rfl) .nil⟩
  ·rename_i hd
   rw[hd] at hu
   obtain ⟨b,rfl,_⟩:=DataW.trod_bool hu h
   rw[hc]
   exact ⟨[.sc (.bool b)],.cons .bool .nil,.cons (.sc rfl) .nil⟩
  ·rename_i hd
   rw[hd] at hu
   obtain ⟨s,rfl,_,hs⟩:=DataW.trod_string hu h
   rw[hc]
   exact ⟨[.sc (.string s)],.cons (.str hs) .nil,.cons (.sc rfl) .nil⟩
  ·rename_i e hd
   rw[hd] at hu
   obtain ⟨hck,hek⟩:=hc
   have ge:=hT e hek
   have ce:=(hC e hek).1
   rw[hck]
   rcases DataW.trod_slice hu h with ⟨rfl,_⟩|⟨a,len,cap,elems,rest,n,hn,rfl,_,_,hl,hm,hel,helem,_,_⟩
   ·exact ⟨[.ls (ti e).z []],.cons (.sl (by simp) (fun i hi=>by simp at hi) (fun i j hi=>by simp at hi)) .nil,.cons .sh0 .nil⟩
   ·have hnf:n=fuel:=by omega
    subst hnf
    have key: ∀i,∃ls,i<len→Fit ti ck e ls∧ ∃cs',All2 (VR (shT w.heap.size) hv w [] .s) ls cs'∧ ∀j,j< (ti e).sz→w.cell? ((a.add (i* (ti e).sz)).add j)=cs'[j]? :=fun i=>by
     by_cases hi:i<len
     ·have h1:=helem i hi
      rw[List.getElem?_eq_getElem (by omega)] at h1
      obtain ⟨cs',h2,h3⟩:=Option.bind_eq_some_iff.1 h1
      rw[cellsOf_ok ge] at h2
      obtain ⟨_,h4,h5⟩:=World.cells?_some h2
      obtain ⟨ls,h6,h7⟩:=fit_of_trod hT hC n e cs' _ hek h3
      exact ⟨ls,fun _=>⟨h6,cs',h7,h5⟩⟩
     ·exact ⟨[],fun h=>absurd h hi⟩
    obtain ⟨f,hf⟩:=Classical.axiomOfChoice key
    have hrl:((List.range len).map f).length=len:=by simp
    have hrow: ∀i,i<len→((List.range len).map f).getD i (ti e).z=f i:=fun i hi=>by
     rw[List.getD_eq_getElem?_getD,List.getElem?_map,List.getElem?_eq_getElem (by simpa using hi)]
     simp
    have hzl:=ge.zl
    refine ⟨[.ls (ti e).z ((List.range len).map f)],.cons (.sl (by rw[hrl];omega) (fun i hi=> ?_) (fun i j hi hj=> ?_)) .nil,.cons ?_ .nil⟩
    ·rw[hrl] at hi
     rw[hrow i hi]
     exact ((hf i hi).1).len.symm
    ·rw[hrl] at hi
     have h1:=(hf i hi).1
     have hj2:j< (f i).length:=by rw[←All2.len h1];exact hj
     have h2:=h1.get j _ _ (List.getElem?_eq_getElem hj) (List.getElem?_eq_getElem hj2)
     simp only[lf,hrow i hi]
     rw[List.getD_eq_getElem?_getD,List.getElem?_eq_getElem hj,List.getD_eq_getElem?_getD (l:=f i),List.getElem?_eq_getElem hj2]
     exact h2
    ·by_cases h0:len=0
     ·subst h0
      exact .sh0
     ·have hpos:=ge.pos
      have hcell: ∀i j,i<len→j< (ti e).z.length→ ∃v,w.cell? ((a.add (i* (ti e).sz)).add j)=some v∧VR (shT w.heap.size) hv w [] .s (lf (ti e).z ((List.range len).map f) i j) v:=fun i j hi hj=>by
       obtain ⟨h1,cs',h2,h3⟩:=hf i hi
       have hj2:j< (f i).length:=by rw[←All2.len h1,ce,←hzl];exact hj
       have hj3:j<cs'.length:=by rw[←h2.len];exact hj2
       refine ⟨cs'[j],by rw[h3 j (by rw[←hzl];exact hj),List.getElem?_eq_getElem hj3], ?_⟩
       have h4:=h2.get j _ _ (List.getElem?_eq_getElem hj2) (List.getElem?_eq_getElem hj3)
       simp only[lf,hrow i hi]
       rw[List.getD_eq_getElem?_getD (l:=f i),List.getElem?_eq_getElem hj2]
       exact h4
      obtain ⟨v00,hv00,_⟩:=hcell 0 0 (by omega) (by omega)
      obtain ⟨b,off,spot⟩:=a
      have hspot:spot=none:=by simpa [Addr.add] using World.cell?_spot hv00
      subst hspot
      have hb:b<w.heap.size:=by
       rw[add_lit,add_lit] at hv00
       exact World.block_lt_of_cell? _ _ hv00
      refine .sh (fun i j=>(w.cell? ⟨b,off+(i* (ti e).z.length+j),none⟩).getD default) hrl hl (by simp[shT,hb]) (fun i hi=> ?_) (fun i j hi hj=> ?_) (fun i j hi hj=> ?_)
      ·rw[hrow i hi,←All2.len (hf i hi).1,ce,hzl]
      ·obtain ⟨v,h1,_⟩:=hcell i j hi hj
       rw[add_lit,add_lit,Nat.add_assoc,←hzl] at h1
       rw[h1]
       rfl
      ·obtain ⟨v,h1,h2⟩:=hcell i j hi hj
       rw[add_lit,add_lit,Nat.add_assoc,←hzl] at h1
       rw[h1]
       exact h2
  ·rename_i fs hd
   rw[hd] at hu
   obtain ⟨xs,n,hn,_,hcl,hxl,hfield⟩:=DataW.trod_struct hu h
   have hnf:n=fuel:=by omega
   subst hnf
   rw[cellsOf_ok g] at hcl
   have:=cellsVR (cs:=cs) (enc:=enc) (w:=w) (spare:=spare) (held:=held) (hv:=hv) hT hC (fun t cs x ht h=>fit_of_trod hT hC n t cs x ht h) fs.toList 0 (ck t) hc (fun f hf=> ?_) (by rw[Nat.zero_add,hlen,hcl])
   ·simpa using this
   ·obtain ⟨i,hi⟩:=List.getElem?_of_mem hf
    have hlt:i<xs.length:=by rw[hxl];simpa using (List.getElem?_eq_some_iff.1 hi).1
    exact ⟨xs[i],by rw[hfield i f (by simpa using hi),List.getElem?_eq_getElem hlt]⟩
  ·exact hc.elim
theorem eqAt_up {i:TI} {t n m:Nat} (h:eqAt P i t n) (hm:n≤m):eqAt P i t m:=fun d w xs ys h1 h2=>by
 have:=h (d+(m-n)) w xs ys h1 h2
 rwa [show d+(m-n)+n=d+m by omega] at this
theorem eqAt_int {i:TI} {t:Nat} {k:IntKind} {n:Int} (hz:i.z= [.sc (.int k n)]) (ha:i.agg=false) (hu:P.underlying t=some (.int k)):eqAt P i t 1:=fun d w xs ys h1 h2=>by
 rw[hz] at h1 h2
 match xs,ys,h1,h2 with
 | [.int _ a],[.int _ b],h1,h2=>
  obtain ⟨rfl,_⟩:=h1
  obtain ⟨rfl,_⟩:=h2
  rw[ha]
  simp only[mkV,eqV,Bool.and_true]
  exact run_equalIn_int w d t _ _ a b hu
 | .int _ _::_::_,_,h1,_=>exact h1.2.elim
 |_,.int _ _::_::_,_,h2=>exact h2.2.elim
theorem eqAt_str {i:TI} {t:Nat} {s:ByteArray} (hz:i.z= [.sc (.string s)]) (ha:i.agg=false) (hu:P.underlying t=some .string):eqAt P i t 1:=fun d w xs ys h1 h2=>by
 rw[hz] at h1 h2
 match xs,ys,h1,h2 with
 | [.string a],[.string b],h1,h2=>
  rw[ha]
  simp only[mkV,eqV,Bool.and_true]
  exact run_equalIn_string w d t a b hu
 | .string _::_::_,_,h1,_=>exact h1.elim
 |_,.string _::_::_,_,h2=>exact h2.elim
theorem eqAt_bool {i:TI} {t:Nat} {s:Bool} (hz:i.z= [.sc (.bool s)]) (ha:i.agg=false) (hu:P.underlying t=some .bool):eqAt P i t 1:=fun d w xs ys h1 h2=>by
 rw[hz] at h1 h2
 match xs,ys,h1,h2 with
 | [.bool a],[.bool b],h1,h2=>
  rw[ha]
  simp only[mkV,eqV,Bool.and_true]
  exact run_equalIn_bool' w d t a b hu
 | .bool _::_::_,_,h1,_=>exact h1.elim
 |_,.bool _::_::_,_,h2=>exact h2.elim
theorem sameK_len: ∀ {z:List Lf} {xs:List Value},sameK z xs→xs.length=z.length
 | [],[],_=>rfl
 | .sc (.int _ _)::z,.int _ _::xs,h=>by simp[sameK_len h.2]
 | .sc (.string _)::z,.string _::xs,h=>by simp[sameK_len (z:=z) (xs:=xs) h]
 | .sc (.bool _)::z,.bool _::xs,h=>by simp[sameK_len (z:=z) (xs:=xs) h]
theorem sameK_cons {z0:Lf} {z:List Lf} {x:Value} {xs:List Value} (h:sameK (z0::z) (x::xs)):sameK [z0] [x]∧sameK z xs:=by
 unfold sameK at h
 split at h
 ·rename_i h1 h2;cases h1
 ·rename_i h1 h2;cases h1;cases h2;exact ⟨⟨h.1,trivial⟩,h.2⟩
 ·rename_i h1 h2;cases h1;cases h2;exact ⟨trivial,h⟩
 ·rename_i h1 h2;cases h1;cases h2;exact ⟨trivial,h⟩
 ·exact h.elim
theorem sameK_cons' {z0:Lf} {z:List Lf} {x:Value} {xs:List Value} (h1:sameK [z0] [x]) (h2:sameK z xs):sameK (z0::z) (x::xs):=by
 unfold sameK at h1
 split at h1
 ·rename_i q1 q2;cases q1
 ·rename_i q1 q2;cases q1;cases q2;exact ⟨h1.1,h2⟩
 ·rename_i q1 q2;cases q1;cases q2;exact h2
 ·rename_i q1 q2;cases q1;cases q2;exact h2
 ·exact h1.elim
theorem sameK_split: ∀ {n:Nat} {z:List Lf} {xs:List Value},sameK z xs→sameK (z.take n) (xs.take n)∧sameK (z.drop n) (xs.drop n)
 |0,z,xs,h=>⟨by simp[sameK],by simpa using h⟩
 |n+1,[],[],h=>by simp[sameK]
 |n+1,[],_::_,h=>by simp[sameK] at h
 |n+1,z0::z,[],h=>by have:=sameK_len h;simp at this
 |n+1,z0::z,x::xs,h=>by
  obtain ⟨h1,h2⟩:=sameK_cons h
  obtain ⟨h3,h4⟩:=sameK_split (n:=n) h2
  exact ⟨sameK_cons' h1 h3,h4⟩
theorem eqV_app: ∀ {z:List Lf} {a c b d:List Value},sameK z a→sameK z c→eqV (a++b) (c++d)=(eqV a c&&eqV b d)
 | [],[],[],b,d,_,_=>by simp[eqV]
 | .sc (.int _ _)::z,.int _ _::a,.int _ _::c,b,d,h1,h2=>by simp[eqV,eqV_app h1.2 h2.2,Bool.and_assoc]
 | .sc (.string _)::z,.string _::a,.string _::c,b,d,h1,h2=>by simp[eqV,eqV_app (z:=z) (a:=a) (c:=c) h1 h2,Bool.and_assoc]
 | .sc (.bool _)::z,.bool _::a,.bool _::c,b,d,h1,h2=>by simp[eqV,eqV_app (z:=z) (a:=a) (c:=c) h1 h2,Bool.and_assoc]
def fieldsEq (P:Program) (ti:TT) (n:Nat):List Field→Nat→List Lf→Prop
 | [],_,z=>z= []
 |f::r,off,z=>f.name≠ "_" ∧f.offset=off∧(ti f.type).good P f.type∧(ti f.type).sz=(ti f.type).z.length∧z.take (ti f.type).sz=(ti f.type).z∧eqAt P (ti f.type) f.type n∧fieldsEq P ti n r (off+(ti f.type).sz) (z.drop (ti f.type).sz)
theorem eqFields_ok {n:Nat}: ∀ (fs:List Field) (off:Nat) (z:List Lf) (d:Nat) (w:World) (xs ys:List Value),fieldsEq P ti n fs off z→sameK z (xs.drop off)→sameK z (ys.drop off)→
  (Op.eqFields (d+n) xs.toArray ys.toArray fs).run P w= .ok (eqV (xs.drop off) (ys.drop off)) w
 | [],off,z,d,w,xs,ys,h,h1,h2=>by
  simp only[fieldsEq] at h
  subst h
  have e1:xs.drop off= []:=List.length_eq_zero_iff.1 (by simpa using sameK_len h1)
  have e2:ys.drop off= []:=List.length_eq_zero_iff.1 (by simpa using sameK_len h2)
  rw[e1,e2]
  rfl
 |f::r,off,z,d,w,xs,ys,h,h1,h2=>by
  obtain ⟨hn,ho,g,hsz,hz,he,hr⟩:=h
  have hlen:(ti f.type).sz≤z.length:=by
   have:=congrArg List.length hz
   rw[List.length_take] at this
   omega
  have hx:=sameK_len h1
  have hy:=sameK_len h2
  rw[List.length_drop] at hx hy
  have hpos:=g.pos
  obtain ⟨a1,a2⟩:=sameK_split (n:=(ti f.type).sz) h1
  obtain ⟨b1,b2⟩:=sameK_split (n:=(ti f.type).sz) h2
  rw[hz] at a1 b1
  have p1:=run_part (P:=P) (w:=w) (cs:=xs) (off:=off) g (by omega)
  have p2:=run_part (P:=P) (w:=w) (cs:=ys) (off:=off) g (by omega)
  have e:=he d w _ _ a1 b1
  have ih:=eqFields_ok r (off+(ti f.type).sz) _ d w xs ys hr (by rw[←List.drop_drop];exact a2) (by rw[←List.drop_drop];exact b2)
  have hsplit:eqV (xs.drop off) (ys.drop off)=(eqV ((xs.drop off).take (ti f.type).sz) ((ys.drop off).take (ti f.type).sz)&&eqV (xs.drop (off+(ti f.type).sz)) (ys.drop (off+(ti f.type).sz))):=by
   rw[←List.drop_drop,←List.drop_drop,←eqV_app a1 b1,List.take_append_drop,List.take_append_drop]
  subst ho
  simp only[Op.eqFields,if_pos hn,Sem.run_bind,p1,p2,e,Result.andThen_ok]
  rw[hsplit]
  cases eqV ((xs.drop f.offset).take (ti f.type).sz) ((ys.drop f.offset).take (ti f.type).sz) with
  |true=>simpa using ih
  |false=>rfl
theorem eqAt_st {t n:Nat} {fs:List Field} (hf:(P.fieldsOf t).toList=fs) (hu:P.underlying t=some (.struct (P.fieldsOf t))) (hp:P.stoodInHeld t=false) (ha:(ti t).agg=true) (h:fieldsEq P ti n fs 0 (ti t).z):eqAt P (ti t) t (n+1):=fun d w xs ys h1 h2=>by
 rw[ha]
 simp only[mkV]
 rw[←Nat.add_assoc,run_equalIn_struct w (d+n) t _ _ hu hp,hf]
 have:=eqFields_ok fs 0 _ d w xs ys h (by simpa using h1) (by simpa using h2)
 simpa using this
end Go.Sm
namespace Go.Sm
open Go.RowKit Go.WideShapes
variable {P : Program} {ti : TT} {ck : CT}
theorem FitK.list {α:Type} {e:Nat} {l:Lf} (enc:α→List Lf) (p:α→Prop) (hd: ∀row,Fit ti ck e row→ ∃a,row=enc a∧p a) (h:FitK ti ck (.sl e) l):
  ∃xs:List α,l= .ls (ti e).z (xs.map enc)∧xs.length≤9223372036854775807∧ ∀x∈xs,p x:=by
 cases h with
 | @sl _ rows hn hl h=>
 have hm:maxLen=9223372036854775807:=by decide
 rw[hm] at hn
 have key: ∀rows':List (List Lf),(∀r∈rows',Fit ti ck e r)→ ∃xs:List α,rows'=xs.map enc∧ ∀x∈xs,p x:=by
  intro rows'
  induction rows' with
  |nil=>exact fun _=>⟨[],rfl,fun x hx=>by cases hx⟩
  |cons r rs ih=>
   intro hr
   obtain ⟨a,rfl,ha⟩:=hd r (hr r (by simp))
   obtain ⟨xs,rfl,hx⟩:=ih (fun r hr'=>hr r (by simp[hr']))
   refine ⟨a::xs,rfl,fun x hx'=> ?_⟩
   rcases List.mem_cons.1 hx' with rfl|h1
   ·exact ha
   ·exact hx x h1
 have hfit: ∀r∈rows,Fit ti ck e r:=by
  intro r hr
  obtain ⟨i,hi⟩:=List.getElem?_of_mem hr
  have hlt:=(List.getElem?_eq_some_iff.1 hi).1
  have hrow:rows.getD i (ti e).z=r:=by rw[List.getD_eq_getElem?_getD,hi];rfl
  refine All2.of_get (by rw[←hl i hlt,hrow]) (fun j a b ha hb=> ?_)
  have hj:=(List.getElem?_eq_some_iff.1 ha).1
  have h1:=h i j hlt hj
  simp only[lf,hrow] at h1
  rwa [List.getD_eq_getElem?_getD,ha,List.getD_eq_getElem?_getD,hb] at h1
 obtain ⟨xs,rfl,hx⟩:=key rows hfit
 exact ⟨xs,rfl,by simpa using hn,hx⟩
theorem FitK.str_inv {l:Lf} (h:FitK ti ck .str l): ∃s:ByteArray,l= .sc (.string s)∧s.size≤9223372036854775807:=by
 cases h with
 |str h=>exact ⟨_,rfl,h⟩
theorem FitK.int_inv {k:IntKind} {l:Lf} (h:FitK ti ck (.int k) l): ∃n:Int,l= .sc (.int k n)∧(Lit.int k n).wf=true:=by
 cases h with
 |int h=>exact ⟨_,rfl,h⟩
theorem FitK.bool_inv {l:Lf} (h:FitK ti ck .bool l): ∃b:Bool,l= .sc (.bool b):=by
 cases h with
 |bool=>exact ⟨_,rfl⟩
theorem All2.nil_inv {α β:Type} {R:α→β→Prop} {l:List β} (h:All2 R [] l):l= []:=by cases h;rfl
theorem All2.cons_inv {α β:Type} {R:α→β→Prop} {a:α} {as:List α} {l:List β} (h:All2 R (a::as) l): ∃b bs,l=b::bs∧R a b∧All2 R as bs:=by
 cases h with
 |cons h hs=>exact ⟨_,_,rfl,h,hs⟩
theorem arg_of_trod {H:Type} {enc:TypeId×Value→H} {W:World} {base:Nat} {spare:Nat→Bool} {held:Bool} {t:Nat} {v:Value} {d:DataW H} {p:List MemPlace} {r:Reach} (hT:TGood P ti) (hC:CGood ti ck) (ht:(ti t).ok=true)
  (hval:Value.okWide P W r base t v) (h:DataW.Trod enc P W 0 spare held t v d p): ∃ls,Fit ti ck t ls∧ ∀hv,SR (shT W.heap.size) hv W (.v (ti t).agg (ls.map .s)) v:=by
 obtain ⟨n,hn⟩:=h
 have key: ∃ls,Fit ti ck t ls∧All2 (VR (shT W.heap.size) (fun _=> .tuple #[]) W [] .s) ls v.cells.toList:=fit_of_trod hT hC n t _ _ ht hn
 obtain ⟨ls,hf,hall⟩:=key
 refine ⟨ls,hf,fun hv=> ?_⟩
 have hmv:All2 (VR (shT W.heap.size) hv W [] .s) ls v.cells.toList:=by
  refine hall.imp fun a b hab=> ?_
  exact hab.move [] (fun b hb=>⟨hb,rfl⟩) (fun rest hr=>by cases hr)
 have hu:=(hT t ht).und
 have hc:=(hC t ht).2
 have hlen:(ti t).agg=false→v=mkV false v.cells.toList∧ls.length=1:=fun ha=>by
  have hl:(ck t).length=1:=by rw[(hC t ht).1];exact ((hT t ht).na ha).1
  refine ⟨?_,by rw[←All2.len hf,hl]⟩
  split at hc
  ·rename_i k hd
   rw[hd] at hu
   obtain ⟨n,rfl⟩:=okWide_int hu hval
   rfl
  ·rename_i hd
   rw[hd] at hu
   obtain ⟨n,rfl⟩:=okWide_bool hu hval
   rfl
  ·rename_i hd
   rw[hd] at hu
   obtain ⟨n,rfl⟩:=okWide_string hu hval
   rfl
  ·rename_i e hd
   rw[hd] at hu
   obtain ⟨a,b,c,rfl⟩:=okWide_slice hu hval
   rfl
  ·rename_i fs hd
   simp[TI.agg,hd] at ha
  ·exact hc.elim
 refine ⟨v.cells.toList, ?_,All2.map_left (hmv.imp fun a b hab=>hab),fun ha=>by rw[List.length_map];exact (hlen ha).2⟩
 cases ha:(ti t).agg with
 |false=>exact (hlen ha).1
 |true=>
  unfold TI.agg at ha
  split at ha
  ·rename_i fs hd
   rw[hd] at hu
   obtain ⟨cs,rfl,_⟩:=okWide_struct hu hval
   simp[Value.cells,mkV]
  ·cases ha
theorem calls_of_vc {f:FuncId} {as:List SV} {vs:Array Value} {W:World} {b:Bool} (hvc:VC P f as [(false,[(.s,.sc (.bool b))])]) (ha: ∀hv,All2 (SR (shT W.heap.size) hv W) as vs.toList):
  Calls P f vs W fun e W'=>e= .returned (.bool b)∧Below W.heap.size W W':=by
 have h:=hvc.2 W (shT W.heap.size) (fun _=> .tuple #[]) vs.toList (fun b=>by unfold shT;split<;>simp) (fun b hb=>by simp[shT];omega) (ha _)
 simp only[Array.toArray_toList] at h
 refine h.mono fun e W' ⟨tag',hv',rv,he,hfr,_,hrv⟩=>⟨?_,hfr.os,hfr.tape,hfr.output,hfr.size,fun k hk=>(hfr.heap k hk (by simp[shT,hk])).1⟩
 subst he
 obtain ⟨⟨cs,h1,h2,_⟩,_⟩:=hrv
 cases cs with
 |nil=>exact h2.elim
 |cons c cs=>
  obtain ⟨h3,h4⟩:=h2
  cases cs with
  |cons _ _=>exact h4.elim
  |nil=>
   cases h3 with
   |sc h5=>rw[h1];rfl
end Go.Sm
namespace Go.Sm
def szL:List Nat→Int→Int
 | [],left=>left
 |s::r,left=>if left-s<0 then-1 else szL r (left-s)
theorem szL_app: ∀ (a b:List Nat) (left:Int),0≤left→szL (a++b) left=if szL a left<0 then-1 else szL b (szL a left)
 | [],b,left,h=>by simp[szL];omega
 |s::r,b,left,h=>by
  simp only[List.cons_append,szL]
  split
  ·rfl
  ·exact szL_app r b _ (by omega)
theorem szL_neg: ∀ (l:List Nat) (left:Int),0≤left→szL l left<0→szL l left= -1
 | [],left,h0,h=>by simp[szL] at h;omega
 |s::r,left,h0,h=>by
  simp only[szL] at h⊢
  split at h
  ·rename_i h1;rw[if_pos h1]
  ·rename_i h1;rw[if_neg h1];exact szL_neg r _ (by omega) h
theorem szL_le: ∀ (l:List Nat) (left:Int),0≤szL l left→0≤left→szL l left+(l.sum:Nat)≤left∧ ∀n∈l,(n:Int)≤left
 | [],left,h,_=>⟨by simp[szL],fun n h=>by cases h⟩
 |s::r,left,h,h0=>by
  simp only[szL] at h⊢
  split at h
  ·omega
  ·rename_i h1
   rw[if_neg h1]
   obtain ⟨q1,q2⟩:=szL_le r _ h (by omega)
   refine ⟨by simp only[List.sum_cons];omega,fun n hn=> ?_⟩
   rcases List.mem_cons.1 hn with rfl|hn
   ·omega
   ·have:=q2 n hn;omega
theorem szL_le' {l:List Nat} {left:Int} (h0:0≤left):szL l left≤left:=by
 by_cases h:0≤szL l left
 ·have:=(szL_le l left h h0).1;omega
 ·omega
theorem szF_step {α:Type} (wt:α→List Nat) {l:List α} {i:Nat} {L:Int} (d:α) (h:i<l.length) (hL:0≤L) (h0:0≤szL ((l.take i).flatMap wt) L):
  (szL (wt (l[i]?.getD d)) (szL ((l.take i).flatMap wt) L)<0→szL (l.flatMap wt) L= -1)∧
  szL ((l.take (i+1)).flatMap wt) L=szL (wt (l[i]?.getD d)) (szL ((l.take i).flatMap wt) L):=by
 have e1:l=l.take i++(l[i]::l.drop (i+1)):=by simp
 have e2:l.take (i+1)=l.take i++ [l[i]]:=by rw[List.take_succ_eq_append_getElem h]
 rw[List.getElem?_eq_getElem h,Option.getD_some]
 have e3:szL ((l.take (i+1)).flatMap wt) L=szL (wt l[i]) (szL ((l.take i).flatMap wt) L):=by
  rw[e2,List.flatMap_append,szL_app _ _ _ hL,if_neg (by omega)]
  simp
 refine ⟨fun hn=> ?_,e3⟩
 conv=>lhs;rw[e1]
 rw[List.flatMap_append,szL_app _ _ _ hL,if_neg (by omega),List.flatMap_cons,szL_app _ _ _ h0,if_pos hn]
theorem mem_flat {α β:Type} {wt:α→List β} {l:List α} {i:Nat} {d:α} {n:β} (h:i<l.length) (hn:n∈wt (l[i]?.getD d)):n∈l.flatMap wt:=by
 rw[List.getElem?_eq_getElem h] at hn
 exact List.mem_flatMap.2 ⟨_,List.getElem_mem h,hn⟩
theorem getD_mem {α:Type} {l:List α} {i:Nat} (d:α) (h:i<l.length):l[i]?.getD d∈l:=by
 rw[List.getElem?_eq_getElem h]
 exact List.getElem_mem h
abbrev zStr:List Lf:= [.sc (.string ⟨#[]⟩)]
abbrev zByte:List Lf:= [.sc (.int .u8 0)]
abbrev zInt:List Lf:= [.sc (.int .i64 0)]
def eStr (s:ByteArray):List Lf:= [.sc (.string s)]
@[simp] theorem rowByte_e (b:UInt8):rowByte (eByte b)=b:=by simp[rowByte,eByte]
@[simp] theorem rowByte_map (l:List UInt8):(l.map eByte).map rowByte=l:=by
 rw[List.map_map]
 conv=>rhs;rw[←List.map_id l]
 exact List.map_congr_left fun b _=>rowByte_e b
@[simp] theorem rowByte_l (b:UInt8):rowByte [.sc (.int .u8 (b.toNat:Int))]=b:=rowByte_e b
@[simp] theorem isByteRow_l (b:UInt8):isByteRow [.sc (.int .u8 (b.toNat:Int))]:=⟨b,rfl⟩
@[simp] theorem isByteRow_e (b:UInt8):isByteRow (eByte b):=⟨b,rfl⟩
def eInt (n:Int):List Lf:= [.sc (.int .i64 n)]
@[simp] theorem row_Str (l:List ByteArray) (i:Nat):(Option.map eStr l[i]?).getD zStr=eStr (l[i]?.getD ⟨#[]⟩):=by cases l[i]? <;>rfl
@[simp] theorem row_Byte (l:List UInt8) (i:Nat):(Option.map eByte l[i]?).getD zByte=eByte (l[i]?.getD 0):=by cases l[i]? <;>rfl
@[simp] theorem row_Int (l:List Int) (i:Nat):(Option.map eInt l[i]?).getD zInt=eInt (l[i]?.getD 0):=by cases l[i]? <;>rfl
def okM (n:Nat):Prop:=n≤9223372036854775807
def okI (n:Int):Prop:= -9223372036854775808≤n∧n≤9223372036854775807
theorem okI_wf {n:Int} (h:(Lit.int .i64 n).wf=true):okI n:=by
 simp[Lit.wf,IntKind.min,IntKind.max,IntKind.signed,IntKind.bits] at h
 exact h
def dgo:Nat→Nat→ByteArray→ByteArray
 |0,_,out=>out
 |f+1,k,out=>if k=0 then out else dgo f (k/10) (⟨#[UInt8.ofNat (48+k%10)]⟩++out)
def mtext (k:Nat):ByteArray:=if k=0 then ⟨#[109,48]⟩ else ⟨#[109]⟩++dgo k k ⟨#[]⟩
def mkRw {α:Type} (f:Nat→α→α) (ct:α→Nat):Nat→List α→List α
 |_,[]=> []
 |k,x::r=>f k x::mkRw f ct (k+ct x) r
def ctRw {α:Type} (ct:α→Nat):List α→Nat
 | []=>0
 |x::r=>ct x+ctRw ct r
def mixR {α:Type} (f:Nat→α→α) (ct:α→Nat) (k:Nat) (l:List α) (i:Nat):List α:=mkRw f ct k (l.take i)++l.drop i
section
variable {α : Type} (f : Nat → α → α) (ct : α → Nat)
theorem mkRw_len: ∀ (k:Nat) (l:List α),(mkRw f ct k l).length=l.length
 |_,[]=>rfl
 |k,x::r=>by simp[mkRw,mkRw_len]
theorem mixR_zero (k:Nat) (l:List α):mixR f ct k l 0=l:=by simp[mixR,mkRw]
theorem mixR_all (k:Nat) (l:List α):mixR f ct k l l.length=mkRw f ct k l:=by simp[mixR]
theorem mixR_len (k:Nat) (l:List α) (i:Nat):(mixR f ct k l i).length=l.length:=by
 simp[mixR,mkRw_len]
 omega
theorem mixR_get (k:Nat) (l:List α) (i:Nat) (h:i<l.length):(mixR f ct k l i)[i]? =l[i]? :=by
 unfold mixR
 have hl:(mkRw f ct k (l.take i)).length=i:=by rw[mkRw_len,List.length_take];omega
 rw[List.getElem?_append_right (by omega),hl]
 simp
theorem mkRw_app: ∀ (k:Nat) (a b:List α),mkRw f ct k (a++b)=mkRw f ct k a++mkRw f ct (k+ctRw ct a) b
 |k,[],b=>by simp[mkRw,ctRw]
 |k,x::a,b=>by
  simp only[List.cons_append,mkRw,mkRw_app _ a b]
  simp[ctRw,Nat.add_assoc]
theorem mixR_set (k:Nat) (l:List α) (i:Nat) (d:α) (h:i<l.length):(mixR f ct k l i).set i (f (k+ctRw ct (l.take i)) (l[i]?.getD d))=mixR f ct k l (i+1):=by
 unfold mixR
 have hl:(mkRw f ct k (l.take i)).length=i:=by rw[mkRw_len,List.length_take];omega
 rw[List.set_append_right _ _ (by omega),hl,Nat.sub_self]
 rw[List.take_succ_eq_append_getElem h,mkRw_app,List.drop_eq_getElem_cons h,List.set_cons_zero,List.getElem?_eq_getElem h,Option.getD_some]
 simp only[mkRw,List.append_assoc,List.cons_append,List.nil_append]
theorem ctRw_app: ∀ (a b:List α),ctRw ct (a++b)=ctRw ct a+ctRw ct b
 | [],b=>by simp[ctRw]
 |x::a,b=>by simp[ctRw,ctRw_app a b,Nat.add_assoc]
theorem ctRw_succ (d:α) {l:List α} {i:Nat} (h:i<l.length):ctRw ct (l.take (i+1))=ctRw ct (l.take i)+ct (l[i]?.getD d):=by
 rw[List.take_succ_eq_append_getElem h,ctRw_app,List.getElem?_eq_getElem h]
 simp[ctRw]
theorem ctRw_le (l:List α) (i:Nat):ctRw ct (l.take i)≤ctRw ct l:=by
 conv=>rhs;rw[←List.take_append_drop i l,ctRw_app]
 omega
theorem ctRw_lt (d:α) {l:List α} {i:Nat} (h:i<l.length):ctRw ct (l.take i)+ct (l[i]?.getD d)≤ctRw ct l:=by
 rw[←ctRw_succ ct d h]
 exact ctRw_le ct l (i+1)
theorem mkRw_get (d:α): ∀ (k:Nat) (l:List α) (i:Nat),i<l.length→(mkRw f ct k l)[i]? =some (f (k+ctRw ct (l.take i)) (l[i]?.getD d))
 |k,[],i,h=>by simp at h
 |k,x::r,0,h=>by simp[mkRw,ctRw]
 |k,x::r,i+1,h=>by
  have:=mkRw_get d (k+ct x) r i (by simpa using h)
  simp only[mkRw,List.getElem?_cons_succ,this]
  simp[ctRw,Nat.add_assoc]
end
theorem ctRw_le64 {α:Type} (ct:α→Nat) (wt:α→List Nat): ∀ (l:List α),(∀x∈l,ct x≤64+64* (wt x).sum)→ctRw ct l≤64* (l.length+(l.flatMap wt).sum)
 | [],_=>by simp[ctRw]
 |x::r,h=>by
  have h1:=ctRw_le64 ct wt r (fun y hy=>h y (by simp[hy]))
  have h2:=h x (by simp)
  simp only[ctRw,List.length_cons,List.flatMap_cons,List.sum_append]
  omega
def mkStr (k:Nat) (_:ByteArray):ByteArray:=mtext k
def mkInt (k:Nat) (_:Int):Int:=(k:Int)
def mkByte (k:Nat) (_:UInt8):UInt8:=UInt8.ofNat k
def mkBool (k:Nat) (_:Bool):Bool:=(k:Int).tmod 3==0
def ctStr (_:ByteArray):Nat:=1
def ctByte (_:UInt8):Nat:=1
theorem wrapU8 (k:Nat):IntKind.u8.wrap (k:Int)=((UInt8.ofNat k).toNat:Int):=by
 show (if (false&&decide ((k:Int)%256≥128))=true then (k:Int)%256-256 else (k:Int)%256)=_
 rw[UInt8.toNat_ofNat']
 simp
theorem Ow_rows {α:Type} {e:Nat} {ms:List Md} {z:List Lf} {enc:α→List Lf} (h: ∀x j,j<z.length→Ow (ms.getD j .x) ((enc x).getD j default)) (l:List α):Ow (.o e (fun _=>ms)) (.ls z (l.map enc)):=by
 refine .o fun i j hi hj=> ?_
 have hi':i<l.length:=by simpa using hi
 have:lf z (l.map enc) i j=(enc l[i]).getD j default:=by
  simp only[lf]
  rw[List.getD_eq_getElem?_getD (l:=l.map enc),List.getElem?_map,List.getElem?_eq_getElem hi']
  rfl
 rw[this]
 exact h _ _ hj
theorem Full_rows {α:Type} {e:Nat} {ms:List Md} {z:List Lf} {enc:α→List Lf} (h: ∀x j,j<z.length→Full (ms.getD j .x) ((enc x).getD j default)) (l:List α):Full (.o e (fun _=>ms)) (.ls z (l.map enc)):=by
 refine .o fun i j hi hj=> ?_
 have hi':i<l.length:=by simpa using hi
 have:lf z (l.map enc) i j=(enc l[i]).getD j default:=by
  simp only[lf]
  rw[List.getD_eq_getElem?_getD (l:=l.map enc),List.getElem?_map,List.getElem?_eq_getElem hi']
  rfl
 rw[this]
 exact h _ _ hj
end Go.Sm
namespace Go.Sm
open Go.RowKit
set_option linter.unusedVariables false
set_option linter.unusedSimpArgs false
def nlL (k:Nat):List LV→Nat→List LV
 | .n _::r,0=> .r [k]::r
 |x::r,0=>x::r
 |x::r,j+1=>x::nlL k r j
 | [],_=> []
def nlK (b k j:Nat):List (Nat×List LV)→List (Nat×List LV)
 | []=> []
 |(c,ls)::r=>if c=b then (c,nlL k ls j)::r else (c,ls)::nlK b k j r
def nlT (t k j:Nat):List (Nat×SV)→List (Nat×SV)
 | []=> []
 |(c,s)::r=>if c=t then (c,match s with| .v ag ls=> .v ag (nlL k ls j)|s=>s)::r else (c,s)::nlT t k j r
def Env.nlB (E:Env) (b j k:Nat) (x:Md×List Lf):Env:= {E.fresh (fun r=>r==k) with bx:=nlK b k j (E.fresh (fun r=>r==k)).bx,rt:=(k,x.1,.ls x.2 [])::(E.fresh (fun r=>r==k)).rt}
def Env.nlS (E:Env) (t j k:Nat) (x:Md×List Lf):Env:= {E.fresh (fun r=>r==k) with sl:=nlT t k j (E.fresh (fun r=>r==k)).sl,rt:=(k,x.1,.ls x.2 [])::(E.fresh (fun r=>r==k)).rt}
section
variable {E : Env} {tag tag0 : Nat → Tag} {hv : Hv} {a : Act} {w w0 : World} {k : Nat}
theorem nlL_ok (hk:hv [k]= .slice none 0 0): ∀ {ls:List LV} {cs:List Value} (j:Nat),All2 (LR tag hv w) ls cs→All2 (LR tag hv w) (nlL k ls j) cs
 | [],_,j,h=>by cases j<;>exact h
 |x::r,_,0,h=>by
  cases h with
  |cons h1 h2=>
   cases x with
   |n z=>exact .cons ⟨(show _=Value.slice none 0 0 from h1).trans hk.symm,none,0,0,h1⟩ h2
   |_=>exact .cons h1 h2
 |x::r,_,j+1,h=>by
  cases h with
  |cons h1 h2=>
   have:=nlL_ok hk j h2
   cases x<;>exact .cons h1 this
theorem nlL_len: ∀ (ls:List LV) (j:Nat),(nlL k ls j).length=ls.length
 | [],j=>by cases j<;>rfl
 |x::r,0=>by cases x<;>rfl
 |x::r,j+1=>by cases x<;>simp[nlL,nlL_len r j]
theorem lkp_nlK {b k j b':Nat}: ∀ {l:List (Nat×List LV)} {ls:List LV},lkp (nlK b k j l) b'=some ls→ ∃ls0,lkp l b'=some ls0∧(ls=ls0∨ls=nlL k ls0 j)
 | [],_,h=>by simp[nlK,lkp] at h
 |(c,x)::r,ls,h=>by
  simp only[nlK] at h
  split at h
  ·simp only[lkp] at h⊢
   split at h
   ·rename_i e
    cases h
    exact ⟨x,by simp[e],.inr rfl⟩
   ·rename_i e
    exact ⟨ls,by simp[e,h],.inl rfl⟩
  ·simp only[lkp] at h⊢
   split at h
   ·rename_i e
    cases h
    exact ⟨_,by simp[e],.inl rfl⟩
   ·rename_i e
    obtain ⟨ls0,h1,h2⟩:=lkp_nlK h
    exact ⟨ls0,by simp[e,h1],h2⟩
theorem lkp_nlT {t k j t':Nat}: ∀ {l:List (Nat×SV)} {s:SV},lkp (nlT t k j l) t'=some s→ ∃s0,lkp l t'=some s0∧(s=s0∨ ∃ag ls,s0= .v ag ls∧s= .v ag (nlL k ls j))
 | [],_,h=>by simp[nlT,lkp] at h
 |(c,x)::r,s,h=>by
  simp only[nlT] at h
  split at h
  ·simp only[lkp] at h⊢
   split at h
   ·rename_i e
    cases h
    refine ⟨x,by simp[e], ?_⟩
    cases x<;>first|exact .inr ⟨_,_,rfl,rfl⟩|exact .inl rfl
   ·rename_i e
    exact ⟨s,by simp[e,h],.inl rfl⟩
  ·simp only[lkp] at h⊢
   split at h
   ·rename_i e
    cases h
    exact ⟨_,by simp[e],.inl rfl⟩
   ·rename_i e
    obtain ⟨s0,h1,h2⟩:=lkp_nlT h
    exact ⟨s0,by simp[e,h1],h2⟩
theorem St.nil0 (hs:St w0 tag0 E tag hv a w) (k:Nat): ∃hv',hv' [k]= .slice none 0 0∧St w0 tag0 (E.fresh (fun r=>r==k)) tag hv' a w:=by
 refine ⟨fun q=>if q= [k] then .slice none 0 0 else hv q,by simp,hs.hop ⟨fun _ _ h=>⟨h,rfl⟩,fun _ _ _ _ h _=>⟨h,rfl⟩,fun r p hr=> ?_⟩ hs.fr hs.hi⟩
 have:r≠k:=by simpa using hr
 simp[this]
end
theorem Gh.nlB (E:Env) (b j k e:Nat) (cols:Nat→List Md) (z:List Lf):Gh E (E.nlB b j k (.o e cols,z)):=by
 intro w0 tag0 tag hv a w hs
 obtain ⟨hv',hk,h⟩:=hs.nil0 k
 refine ⟨tag,hv',h.nt,h.df,h.sl,fun b' ls hl=> ?_,fun r x hl=> ?_,h.fr,h.hi⟩
 ·obtain ⟨ls0,h1,h2⟩:=lkp_nlK hl
  obtain ⟨q,cur,e',h3,h4,h5,h6⟩:=h.bx b' ls0 h1
  refine ⟨q,cur,e',h3,h4,h5, ?_⟩
  rcases h2 with rfl|rfl
  ·exact h6
  ·exact nlL_ok hk j h6
 ·simp only[Env.nlB,lkp] at hl
  split at hl
  ·rename_i e2
   subst e2
   cases hl
   rw[hk]
   exact .own0 hk
  ·exact h.rt r x hl
theorem Gh.nlS (E:Env) (t j k e:Nat) (cols:Nat→List Md) (z:List Lf):Gh E (E.nlS t j k (.o e cols,z)):=by
 intro w0 tag0 tag hv a w hs
 obtain ⟨hv',hk,h⟩:=hs.nil0 k
 refine ⟨tag,hv',h.nt,h.df,fun t' s hl=> ?_,h.bx,fun r x hl=> ?_,h.fr,h.hi⟩
 ·obtain ⟨s0,h1,h2⟩:=lkp_nlT hl
  have h3:=h.sl t' s0 h1
  rcases h2 with rfl|⟨ag,ls,rfl,rfl⟩
  ·exact h3
  ·obtain ⟨cs,q1,q2,q3⟩:=h3
   exact ⟨cs,q1,nlL_ok hk j q2,fun hf=>by rw[nlL_len];exact q3 hf⟩
 ·simp only[Env.nlS,lkp] at hl
  split at hl
  ·rename_i e2
   subst e2
   cases hl
   rw[hk]
   exact .own0 hk
  ·exact h.rt r x hl
attribute [simp] Env.nlB Env.nlS nlL nlK nlT
end Go.Sm
namespace Go.Sm
open Go.RowKit
set_option linter.unusedVariables false
set_option linter.unusedSimpArgs false
variable {P : Program}
theorem gD (A:List Value) (k:Nat):A.toArray.getD k default=(A[k]?).getD default:=by
 simp[Array.getD_eq_getD_getElem?]
theorem gDa (A:Array Value) (k:Nat):A.getD k default=(A.toList[k]?).getD default:=by
 simp[Array.getD_eq_getD_getElem?]
theorem mulLt {x n sz j:Nat} (h:x<n) (hj:j<sz):x*sz+j<n*sz:=by
 have:(x+1)*sz≤n*sz:=Nat.mul_le_mul_right _ h
 rw[Nat.add_mul,Nat.one_mul] at this
 omega
theorem cellAt {w:World} {g:Nat} {cur:Array Value} {e:TypeId} (h:w.heap[g]? =some (.cells cur e (0,0))) (j:Nat):w.cell? ⟨g,j,none⟩=cur[j]? :=by
 simp[World.cell?,h]
theorem frozenAt {w:World} {g:Nat} {cur:Array Value} {e:TypeId} (h:w.heap[g]? =some (.cells cur e (0,0))) (j:Nat):w.frozen? ⟨g,j,none⟩=false:=by
 simp[World.frozen?,h]
theorem shapeAt {w:World} {g:Nat} {cur:Array Value} {e:TypeId} (h:w.heap[g]? =some (.cells cur e (0,0))):w.shape? g=some (e,cur.size):=by
 simp[World.shape?,h]
def InsA (P:Program) (f sz:Nat):Prop:= ∀ (b n c vb vc:Nat) (vs:List Value) (w:World),n+1≤c→c≤9223372036854775807→vs.length=sz→
 (∀j,j<sz→(w.cell? ⟨b,n*sz+j,none⟩).isSome=true)→(∀j,j<sz→w.frozen? ⟨b,n*sz+j,none⟩=false)→
 (∀j v,vs[j]? =some v→w.cell? ⟨vb,j,none⟩=some v)→(∀v∈vs,v.oneCell'=true)→
 Calls P f #[.slice (some ⟨b,0,none⟩) n c,.int .i64 n,.slice (some ⟨vb,0,none⟩) 1 vc] w fun e w'=>e= .returned (.slice (some ⟨b,0,none⟩) (n+1) c)∧w'=w.setCells b (n*sz) vs
def InsB (P:Program) (f e sz by_:Nat) (z:Value):Prop:= ∀ (base:Option Addr) (n c vb vc:Nat) (cs vs:List Value) (w:World),n≤c→c<n+1→(n+1)*by_≤140737488355328→
 cs.length=n*sz→vs.length=sz→(base=none→n=0)→(∀a,base=some a→ ∀j v,cs[j]? =some v→w.cell? (a.add j)=some v)→
 (∀j v,vs[j]? =some v→w.cell? ⟨vb,j,none⟩=some v)→(∀v∈vs,v.oneCell'=true)→
 Calls P f #[.slice base n c,.int .i64 n,.slice (some ⟨vb,0,none⟩) 1 vc] w fun ed w'=>
  ed= .returned (.slice (some ⟨w.heap.size,0,none⟩) (n+1) (grownCap w (n+1) c e))∧
  w'=w.drew.alloc (.cells ((cs++vs).toArray++Builtin.zeroCells z.cells (grownCap w (n+1) c e- (n+1))) e)
def InsC (P:Program) (f sz:Nat):Prop:= ∀ (b n c i vb vc:Nat) (cs vs:List Value) (w:World),i<n→n+1≤c→c≤9223372036854775807→vb≠b→cs.length=n*sz→vs.length=sz→
 (∀j v,cs[j]? =some v→w.cell? ⟨b,j,none⟩=some v)→(∀j,j< (n+1)*sz→(w.cell? ⟨b,j,none⟩).isSome=true)→(∀j,j< (n+1)*sz→w.frozen? ⟨b,j,none⟩=false)→
 (∀j v,vs[j]? =some v→w.cell? ⟨vb,j,none⟩=some v)→(∀v∈cs,v.oneCell'=true)→(∀v∈vs,v.oneCell'=true)→
 ∀ (tA tB:TypeId) (kA kB:Nat),w.shape? vb=some (tA,kA)→w.shape? b=some (tB,kB)→kB≠0→w.frozen? ⟨vb,0,none⟩=false→w.frozen? ⟨vb,kA,none⟩=false→
 Calls P f #[.slice (some ⟨b,0,none⟩) n c,.int .i64 i,.slice (some ⟨vb,0,none⟩) 1 vc] w fun e w'=>
  e= .returned (.slice (some ⟨b,0,none⟩) (n+1) c)∧w'=(w.drew.setCells b ((i+1)*sz) (cs.drop (i*sz))).setCells b (i*sz) vs
def InsD (P:Program) (f e sz by_:Nat) (z:Value):Prop:= ∀ (b n c i vb vc:Nat) (cs vs:List Value) (w:World),i<n→n≤c→c<n+1→(n+1)*by_≤140737488355328→cs.length=n*sz→vs.length=sz→
 (∀j v,cs[j]? =some v→w.cell? ⟨b,j,none⟩=some v)→(∀j v,vs[j]? =some v→w.cell? ⟨vb,j,none⟩=some v)→(∀v∈cs,v.oneCell'=true)→(∀v∈vs,v.oneCell'=true)→
 Calls P f #[.slice (some ⟨b,0,none⟩) n c,.int .i64 i,.slice (some ⟨vb,0,none⟩) 1 vc] w fun ed w'=>
  ed= .returned (.slice (some ⟨w.heap.size,0,none⟩) (n+1) (grownCap w (n+1) c e))∧
  w'=(((w.alloc (.cells ((cs.take (i*sz)).toArray++Builtin.zeroCells z.cells (n+1-i)++Builtin.zeroCells z.cells (grownCap w (n+1) c e- (n+1))) e)).drew.setCells w.heap.size (i*sz) vs).drew).setCells w.heap.size ((i+1)*sz) (cs.drop (i*sz))
theorem rawIns_of {f e sz by_:Nat} (z:Value) (hsz:0<sz) (hby:0<by_) (hz:z.cells.size=sz) (hA:InsA P f sz) (hB:InsB P f e sz by_ z) (hC:InsC P f sz) (hD:InsD P f e sz by_ z):RawIns P f e sz by_:=by
 intro w base n c i vb vc cur vcur hin hnc hcm hbig hb hnil hvb hvs hvc h1c h1v
 have hc63:c≤9223372036854775807:=by unfold maxLen at hcm;omega
 have hn1:n+1≤140737488355328:=Nat.le_trans (Nat.le_mul_of_pos_right _ hby) hbig
 have hvsz:sz≤vcur.size:=by rw[hvs];exact Nat.le_mul_of_pos_left _ hvc
 obtain ⟨vs,evs⟩: ∃vs,vs=vcur.toList.take sz:=⟨_,rfl⟩
 have hvl:vs.length=sz:=by rw[evs,List.length_take,Array.length_toList];omega
 have hvg: ∀j,j<sz→(vs[j]?).getD default=vcur.getD j default:=fun j hj=>by
  rw[evs,gDa,List.getElem?_take,if_pos hj]
 have hvc': ∀j v,vs[j]? =some v→w.cell? ⟨vb,j,none⟩=some v:=fun j v hj=>by
  rw[cellAt hvb]
  rw[evs,List.getElem?_take] at hj
  split at hj
  ·rw[←Array.getElem?_toList];exact hj
  ·cases hj
 have h1v': ∀v∈vs,v.oneCell'=true:=fun v hv=>by
  obtain ⟨j,hj,rfl⟩:=List.getElem_of_mem hv
  have:=h1v j (by omega)
  rw[←hvg j (by omega),List.getElem?_eq_getElem hj] at this
  exact this
 obtain ⟨cs,ecs⟩: ∃cs,cs=cur.toList.take (n*sz):=⟨_,rfl⟩
 have hcur: ∀b,base=some b→n*sz≤cur.size:=fun b e=>by rw[(hb b e).2.1];exact Nat.mul_le_mul_right _ hnc
 have hcl:cs.length=n*sz:=by
  rw[ecs,List.length_take,Array.length_toList]
  cases hbase:base with
  |none=>rw[(hnil hbase).1];omega
  |some b=>have:=hcur b hbase;omega
 have hcg: ∀k,k<n*sz→(cs[k]?).getD default=cur.getD k default:=fun k hk=>by
  rw[ecs,gDa,List.getElem?_take,if_pos hk]
 have h1c': ∀v∈cs,v.oneCell'=true:=fun v hv=>by
  obtain ⟨j,hj,rfl⟩:=List.getElem_of_mem hv
  have:=h1c j (by omega)
  rw[←hcg j (by omega),List.getElem?_eq_getElem hj] at this
  exact this
 have hcc: ∀b,base=some b→ ∀j v,cs[j]? =some v→w.cell? ⟨b,j,none⟩=some v:=fun b e j v hj=>by
  rw[cellAt (hb b e).1]
  rw[ecs,List.getElem?_take] at hj
  split at hj
  ·rw[←Array.getElem?_toList];exact hj
  ·cases hj
 have hnsz:(n+1)*sz=n*sz+sz:=by rw[Nat.add_mul,Nat.one_mul]
 have hisz:(i+1)*sz=i*sz+sz:=by rw[Nat.add_mul,Nat.one_mul]
 have hile:i*sz≤n*sz:=Nat.mul_le_mul_right _ hin
 by_cases hroom:n+1≤c
 ·
  obtain ⟨b,rfl⟩: ∃b,base=some b:=by
   cases hbase:base with
   |none=>have:=(hnil hbase).2;omega
   |some b=>exact ⟨b,rfl⟩
  obtain ⟨hbh,hbs,hbv⟩:=hb b rfl
  have hfit:(n+1)*sz≤cur.size:=by rw[hbs];exact Nat.mul_le_mul_right _ hroom
  have hsp: ∀j,j< (n+1)*sz→(w.cell? ⟨b,j,none⟩).isSome=true:=fun j hj=>by
   rw[cellAt hbh,Array.getElem?_eq_getElem (by omega)];rfl
  have hbl:b<w.heap.size:=(Array.getElem?_eq_some_iff.1 hbh).1
  by_cases hin':i=n
  ·subst hin'
   refine (hA b i c vb vc vs w hroom hc63 hvl (fun j hj=>hsp _ (by omega)) (fun j hj=>frozenAt hbh _) hvc' h1v').mono ?_
   rintro ed w' ⟨rfl,rfl⟩
   obtain ⟨s1,s2,s3,s4,s5,s6⟩:=setCells_blk b e vs cur (i*sz) w hbh (by omega)
   refine ⟨b,c,_,rfl,s1, ?_,hroom,hcm,.inr rfl,fun k hk hne=>s2 k (fun e=>hne (by rw[e])),s4,s5,s6,by rw[s3];exact Nat.le_refl _,by rw[s3];exact hbl,fun x j hx hj=> ?_⟩
   ·simp only[List.size_toArray,List.length_append,List.length_take,List.length_drop,Array.length_toList];omega
   ·rw[gD]
    by_cases e1:x<i
    ·have:=mulLt e1 hj
     rw[if_pos e1,gDa,List.getElem?_append_left (by rw[List.length_take,Array.length_toList];omega),List.getElem?_take,if_pos this]
    ·have e2:x=i:=by omega
     subst e2
     have hl1:(cur.toList.take (x*sz)).length=x*sz:=by rw[List.length_take,Array.length_toList];omega
     rw[if_neg e1,if_pos rfl,List.getElem?_append_right (by omega),hl1,List.getElem?_append_left (by omega),show x*sz+j-x*sz=j by omega]
     exact hvg j hj
  ·have hlt:i<n:=by omega
   refine (hC b n c i vb vc cs vs w hlt hroom hc63 (fun e=>hbv e.symm) hcl hvl (hcc b rfl) hsp (fun j _=>frozenAt hbh _) hvc' h1c' h1v' _ _ _ _ (shapeAt hvb) (shapeAt hbh) (by have:=mulLt (show n<n+1 by omega) hsz;omega) (frozenAt hvb _) (frozenAt hvb _)).mono ?_
   rintro ed w' ⟨rfl,rfl⟩
   have hdl:(cs.drop (i*sz)).length=n*sz-i*sz:=by rw[List.length_drop,hcl]
   obtain ⟨s1,s2,s3,s4,s5,s6⟩:=setCells_blk b e (cs.drop (i*sz)) cur ((i+1)*sz) w.drew hbh (by omega)
   obtain ⟨t1,t2,t3,t4,t5,t6⟩:=setCells_blk b e vs _ (i*sz) _ s1 (by simp only[List.size_toArray,List.length_append,List.length_take,List.length_drop,Array.length_toList];omega)
   refine ⟨b,c,_,rfl,t1, ?_,hroom,hcm,.inr rfl,fun k hk hne=>(t2 k (fun e=>hne (by rw[e]))).trans (s2 k (fun e=>hne (by rw[e]))),t4.trans s4,t5.trans s5,t6.trans s6,by rw[t3,s3];exact Nat.le_refl _,by rw[t3,s3];exact hbl,fun x j hx hj=> ?_⟩
   ·simp only[List.size_toArray,List.length_append,List.length_take,List.length_drop,Array.length_toList];omega
   ·rw[gD]
    by_cases e1:x<i
    ·have:=mulLt e1 hj
     rw[if_pos e1,gDa,List.getElem?_append_left (by simp only[List.length_append,List.length_take,List.length_drop,Array.length_toList];omega),List.getElem?_take,if_pos this,
      List.getElem?_append_left (by simp only[List.length_take,Array.length_toList];omega),List.getElem?_take,if_pos (by omega)]
    ·rw[if_neg e1]
     have hl1:((cur.toList.take ((i+1)*sz)++(cs.drop (i*sz)++cur.toList.drop ((i+1)*sz+(cs.drop (i*sz)).length))).take (i*sz)).length=i*sz:=by
      simp only[List.length_append,List.length_take,List.length_drop,Array.length_toList];omega
     by_cases e2:x=i
     ·subst e2
      rw[if_pos rfl,List.getElem?_append_right (by rw[hl1];omega),hl1,List.getElem?_append_left (by omega),show x*sz+j-x*sz=j by omega]
      exact hvg j hj
     ·have hgt:(i+1)*sz≤x*sz:=Nat.mul_le_mul_right _ (by omega)
      have hx1:(x-1)*sz+sz=x*sz:=by rw[←Nat.succ_mul];congr 1;omega
      have hxl:(x-1)*sz+j<n*sz:=mulLt (by omega) hj
      have hl2:(cur.toList.take ((i+1)*sz)).length=(i+1)*sz:=by rw[List.length_take,Array.length_toList];omega
      rw[if_neg e2,List.getElem?_append_right (by rw[hl1];omega),hl1,List.getElem?_append_right (by omega),List.getElem?_drop,
       show i*sz+vs.length+(x*sz+j-i*sz-vs.length)=x*sz+j by omega,
       List.getElem?_append_right (by omega),hl2,List.getElem?_append_left (by omega),List.getElem?_drop,show i*sz+(x*sz+j- (i+1)*sz)=(x-1)*sz+j by omega]
      exact hcg _ hxl
 ·
  have hcn:c<n+1:=by omega
  obtain ⟨G,hG⟩: ∃G,G=grownCap w (n+1) c e:=⟨_,rfl⟩
  have hGn:n+1≤G:=by rw[hG];exact grownCap_ge w _ _ _
  have hGm:G≤maxLen:=by rw[hG];exact grownCap_le_maxLen w (n+1) c e (by unfold maxLen;omega)
  have hGs:n*sz+sz+(G- (n+1))*sz=G*sz:=by rw[←hnsz,←Nat.add_mul];congr 1;omega
  by_cases hin':i=n
  ·subst hin'
   refine (hB (base.map fun b=>⟨b,0,none⟩) i c vb vc cs vs w hnc hcn hbig hcl hvl (fun h=>by cases hbase:base with|none=>exact (hnil hbase).1|some b=>rw[hbase] at h;cases h)
    (fun a h j v hj=>by
     cases hbase:base with
     |none=>rw[hbase] at h;cases h
     |some b=>
      rw[hbase] at h
      simp only[Option.map_some,Option.some.injEq] at h
      subst h
      have:=hcc b hbase j v hj
      rw[Addr.add_lit,Nat.zero_add]
      exact this) hvc' h1v').mono ?_
   rw[←hG]
   rintro ed w' ⟨rfl,rfl⟩
   refine ⟨w.heap.size,G,_,rfl,heap_alloc_new w.drew _, ?_,hGn,hGm,.inl rfl,fun k hk _=>RowKit.Below.heap_alloc w.drew _ k hk,rfl,rfl,rfl,by simp,by simp,fun x j hx hj=> ?_⟩
   ·simp only[Array.size_append,List.size_toArray,List.length_append,size_zeroCells,hz,hcl,hvl];exact hGs
   ·rw[gDa,Array.toList_append,List.getElem?_append_left (by
     have:=mulLt hx hj
     simp only[List.length_append];omega)]
    by_cases e1:x<i
    ·have:=mulLt e1 hj
     rw[if_pos e1,List.getElem?_append_left (by omega)]
     exact hcg _ this
    ·have e2:x=i:=by omega
     subst e2
     rw[if_neg e1,if_pos rfl,List.getElem?_append_right (by omega),show x*sz+j-cs.length=j by omega]
     exact hvg j hj
  ·have hlt:i<n:=by omega
   obtain ⟨b,rfl⟩: ∃b,base=some b:=by
    cases hbase:base with
    |none=>have:=(hnil hbase).1;omega
    |some b=>exact ⟨b,rfl⟩
   refine (hD b n c i vb vc cs vs w hlt hnc hcn hbig hcl hvl (hcc b rfl) hvc' h1c' h1v').mono ?_
   rw[←hG]
   rintro ed w' ⟨rfl,rfl⟩
   have hni:(n+1-i)*sz=n*sz+sz-i*sz:=by rw[Nat.sub_mul,hnsz]
   have hdl:(cs.drop (i*sz)).length=n*sz-i*sz:=by rw[List.length_drop,hcl]
   obtain ⟨ROW,hROW⟩: ∃ROW:Array Value,ROW=(cs.take (i*sz)).toArray++Builtin.zeroCells z.cells (n+1-i)++Builtin.zeroCells z.cells (G- (n+1)):=⟨_,rfl⟩
   have hRs:ROW.size=G*sz:=by
    rw[hROW]
    simp only[Array.size_append,List.size_toArray,List.length_take,size_zeroCells,hz,hcl]
    omega
   have hRg: ∀k,k<i*sz→(ROW.toList[k]?).getD default=cur.getD k default:=fun k hk=>by
    rw[hROW,Array.toList_append,Array.toList_append,List.append_assoc,List.getElem?_append_left (by simp only[List.length_take,hcl];omega),List.getElem?_take,if_pos hk]
    exact hcg k (by omega)
   rw[←hROW]
   have hh:((w.alloc (.cells ROW e)).drew).heap[w.heap.size]? =some (.cells ROW e (0,0)):=heap_alloc_new w _
   obtain ⟨s1,s2,s3,s4,s5,s6⟩:=setCells_blk w.heap.size e vs ROW (i*sz) _ hh (by omega)
   obtain ⟨t1,t2,t3,t4,t5,t6⟩:=setCells_blk w.heap.size e (cs.drop (i*sz)) _ ((i+1)*sz) (((w.alloc (.cells ROW e)).drew.setCells w.heap.size (i*sz) vs).drew) s1 (by simp only[List.size_toArray,List.length_append,List.length_take,List.length_drop,Array.length_toList];omega)
   have hsz2:(((w.alloc (.cells ROW e)).drew.setCells w.heap.size (i*sz) vs).drew).heap.size=w.heap.size+1:=by
    show ((w.alloc (.cells ROW e)).drew.setCells w.heap.size (i*sz) vs).heap.size=_
    rw[s3];simp
   refine ⟨w.heap.size,G,_,rfl,t1, ?_,hGn,hGm,.inl rfl,fun k hk _=>(t2 k (by omega)).trans ((s2 k (by omega)).trans (RowKit.Below.heap_alloc w _ k hk)),t4.trans s4,t5.trans s5,t6.trans s6,by rw[t3,hsz2];omega,by rw[t3,hsz2];omega,fun x j hx hj=> ?_⟩
   ·simp only[List.size_toArray,List.length_append,List.length_take,List.length_drop,Array.length_toList];omega
   ·rw[gD]
    have hl1:(ROW.toList.take (i*sz)).length=i*sz:=by rw[List.length_take,Array.length_toList];omega
    by_cases e1:x<i
    ·have:=mulLt e1 hj
     rw[if_pos e1,List.getElem?_append_left (by simp only[List.length_append,List.length_take,List.length_drop,Array.length_toList];omega),List.getElem?_take,if_pos (by omega),
      List.getElem?_append_left (by omega),List.getElem?_take,if_pos this]
     exact hRg _ this
    ·rw[if_neg e1]
     by_cases e2:x=i
     ·subst e2
      rw[if_pos rfl,List.getElem?_append_left (by simp only[List.length_append,List.length_take,List.length_drop,Array.length_toList];omega),List.getElem?_take,if_pos (by omega),
       List.getElem?_append_right (by omega),hl1,List.getElem?_append_left (by omega),show x*sz+j-x*sz=j by omega]
      exact hvg j hj
     ·have hgt:(i+1)*sz≤x*sz:=Nat.mul_le_mul_right _ (by omega)
      have hx1:(x-1)*sz+sz=x*sz:=by rw[←Nat.succ_mul];congr 1;omega
      have hxl:(x-1)*sz+j<n*sz:=mulLt (by omega) hj
      have hl2:((ROW.toList.take (i*sz)++(vs++ROW.toList.drop (i*sz+vs.length))).take ((i+1)*sz)).length=(i+1)*sz:=by
       simp only[List.length_append,List.length_take,List.length_drop,Array.length_toList];omega
      rw[if_neg e2,List.getElem?_append_right (by rw[hl2];omega),hl2,List.getElem?_append_left (by omega),List.getElem?_drop,show i*sz+(x*sz+j- (i+1)*sz)=(x-1)*sz+j by omega]
      exact hcg _ hxl
end Go.Sm
namespace Go.Sm
open Go.RowKit Go.Lib
set_option linter.unusedVariables false
variable {P : Program}
theorem zeroCells1 (cs:Array Value):(Builtin.zeroCells cs 1).toList=cs.toList:=by
 simp only[Builtin.zeroCells,Array.toList_map,Array.toList_range]
 apply List.ext_getElem
 ·simp
 ·intro i h1 h2
  simp only[List.length_map,List.length_range,Nat.one_mul] at h1
  simp only[List.getElem_map,List.getElem_range,Array.getElem_toList]
  rw[Nat.mod_eq_of_lt (by omega),getElem!_pos cs i (by omega)]
theorem run_clear1 {S E:TypeId} {z:Value} (tS:P.underlying S=some (.slice E)) (hzv: ∀w,(zeroValue E).run P w= .ok z w) (b off cc:Nat) (W:World) (hc: ∀j,j<z.cells.size→(W.cell? ⟨b,off+j,none⟩).isSome=true)
  (hf: ∀j,j<z.cells.size→W.frozen? ⟨b,off+j,none⟩=false) (h1: ∀v∈z.cells.toList,v.oneCell'=true) (ty:TypeId):
  (Builtin.clear_ #[S] ty #[.slice (some ⟨b,off,none⟩) 1 cc]).run P W= .ok (.tuple #[]) (W.setCells b off z.cells.toList):=by
 have hst:=run_storeCells_cells (P:=P) b off z.cells.toList 0 W (by simpa using hc) (by simpa using hf) h1
 simp only[Nat.add_zero] at hst
 simp[Builtin.clear_,run_underlying tS,hzv,zeroCells1,hst]
def DelA (P:Program) (f sz:Nat) (z:Value):Prop:= ∀ (b n c i:Nat) (news:List Value) (w:World),i<n→n≤c→c≤9223372036854775807→news.length=(n- (i+1))*sz→(∀j v,news[j]? =some v→w.cell? ⟨b,(i+1)*sz+j,none⟩=some v)→(∀v∈news,v.oneCell'=true)→
 (∀j,j<n*sz→(w.cell? ⟨b,j,none⟩).isSome=true)→(∀j,w.frozen? ⟨b,j,none⟩=false)→
 Calls P f #[.slice (some ⟨b,0,none⟩) n c,.int .i64 i,.int .i64 ((i+1:Nat):Int)] w fun e w'=>e= .returned (.slice (some ⟨b,0,none⟩) (n-1) c)∧w'=(w.drew.setCells b (i*sz) news).setCells b ((n-1)*sz) z.cells.toList
theorem rawDel_of {f e sz:Nat} (z:Value) (hsz:0<sz) (hz:z.cells.size=sz) (hA:DelA P f sz z):RawDel P f e sz:=by
 intro w b n c i cur hin hnc hcm hb hcs h1c
 have hc63:c≤9223372036854775807:=by unfold maxLen at hcm;omega
 have hfit:n*sz≤cur.size:=by rw[hcs];exact Nat.mul_le_mul_right _ hnc
 have hile:(i+1)*sz≤n*sz:=Nat.mul_le_mul_right _ hin
 have hisz:(i+1)*sz=i*sz+sz:=by rw[Nat.add_mul,Nat.one_mul]
 have hnsz:(n-1)*sz+sz=n*sz:=by rw[←Nat.succ_mul];congr 1;omega
 obtain ⟨news,hnews⟩: ∃news,news=(cur.toList.take (n*sz)).drop ((i+1)*sz):=⟨_,rfl⟩
 have hlen:news.length=(n- (i+1))*sz:=by
  rw[hnews,List.length_drop,List.length_take,Array.length_toList,Nat.sub_mul]
  omega
 have hget: ∀j,j<news.length→news[j]? =cur[(i+1)*sz+j]? :=fun j hj=>by
  rw[hlen,Nat.sub_mul] at hj
  rw[hnews,List.getElem?_drop,List.getElem?_take,if_pos (by omega),Array.getElem?_toList]
 refine (hA b n c i news w hin hnc hc63 hlen (fun j v hj=> ?_) (fun v hv=> ?_) (fun j hj=> ?_) (fun j=>frozenAt hb j)).mono ?_
 ·rw[cellAt hb,←hget j (List.getElem?_eq_some_iff.1 hj).1]
  exact hj
 ·obtain ⟨j,hj,rfl⟩:=List.getElem_of_mem hv
  have h2:=hget j hj
  rw[List.getElem?_eq_getElem hj] at h2
  rw[hlen,Nat.sub_mul] at hj
  have:=h1c ((i+1)*sz+j) (by omega)
  rwa [Array.getD_eq_getD_getElem?,←h2] at this
 ·rw[cellAt hb,Array.getElem?_eq_getElem (by omega)];rfl
 ·rintro ed w' ⟨rfl,rfl⟩
  have hlen2:news.length=n*sz- (i+1)*sz:=by rw[hlen,Nat.sub_mul]
  obtain ⟨s1,s2,s3,s4,s5,s6⟩:=setCells_blk b e news cur (i*sz) w.drew hb (by omega)
  have hzl:z.cells.toList.length=sz:=by rw[Array.length_toList,hz]
  obtain ⟨t1,t2,t3,t4,t5,t6⟩:=setCells_blk b e z.cells.toList _ ((n-1)*sz) _ s1 (by simp only[List.size_toArray,List.length_append,List.length_take,List.length_drop,Array.length_toList] at*;omega)
  refine ⟨_,rfl,t1, ?_,fun k hk hne=>(t2 k hne).trans (s2 k hne),t4.trans s4,t5.trans s5,t6.trans s6,by rw[t3,s3];exact Nat.le_refl _,fun x j hx hj=> ?_⟩
  ·simp only[List.size_toArray,List.length_append,List.length_take,List.length_drop,Array.length_toList] at*;omega
  ·have hxl:=mulLt hx hj
   rw[gD,List.getElem?_append_left (by simp only[List.length_append,List.length_take,List.length_drop,Array.length_toList];omega),List.getElem?_take,if_pos hxl]
   have hl1:(cur.toList.take (i*sz)).length=i*sz:=by rw[List.length_take,Array.length_toList];omega
   by_cases e1:x<i
   ·have:=mulLt e1 hj
    rw[if_pos e1,List.getElem?_append_left (by omega),List.getElem?_take,if_pos this,←gDa]
   ·have hgt:i*sz≤x*sz:=Nat.mul_le_mul_right _ (by omega)
    have hx1:(x+1)*sz=x*sz+sz:=by rw[Nat.add_mul,Nat.one_mul]
    have hjn:x*sz+j-i*sz<news.length:=by omega
    rw[if_neg e1,List.getElem?_append_right (by omega),hl1,List.getElem?_append_left hjn,hget _ hjn,Array.getD_eq_getD_getElem?,show (i+1)*sz+(x*sz+j-i*sz)=(x+1)*sz+j by omega]
end Go.Sm
namespace Go.Sm
open Go.RowKit
set_option linter.unusedVariables false
set_option linter.unusedSimpArgs false
variable {P : Program} {ti : TT} {E : Env} {tag tag' tag0 : Nat → Tag} {hv hv' : Hv} {a : Act} {w w' w0 : World} {t d : Nat}
def LFOk (E:Env):LV→Lf→Prop
 | .s l,l'=>l=l'
 | .n _,l'=>match l' with
  | .ls _ rows=>rows= []
  |_=>False
 | .r p,l'=>match E.at_ p with
  |some (.o e cols,.ls z rows)=>E.vld p∧Full (.o e cols) (.ls z rows)∧ .ls z rows=l'
  |_=>False
 |_,_=>False
def LFs (E:Env):List LV→ML→Prop
 | [],[]=>True
 |x::r,(m,l)::q=>(m= .s∧LFOk E x l)∧LFs E r q
 |_,_=>False
def resF (ti:TT) (E:Env):List ResultVar→List (Bool×ML)→Prop
 | [],[]=>True
 |v::r,(ag,ml)::q=>(match resOne ti E v with
  |some (C,ag',ls)=>C∧ag'=ag∧LFs E ls ml∧(ag=false→ml.length=1)
  |none=>False)∧resF ti E r q
 |_,_=>False
def kEndF (ti:TT) (res:List ResultVar) (rs:List (Bool×ML)):Exit→Env→Prop:=fun e E=>match e with
 | .normal| .ret=>resF ti E res rs
 |_=>False
theorem kEndF_n {res:List ResultVar} {rs:List (Bool×ML)}:kEndF ti res rs .normal E=resF ti E res rs:=rfl
theorem kEndF_r {res:List ResultVar} {rs:List (Bool×ML)}:kEndF ti res rs .ret E=resF ti E res rs:=rfl
theorem LF_ok (hs:St w0 tag0 E tag hv a w) {x:LV} {l:Lf} {v:Value} {p':List Nat} (h:LFOk E x l) (hv0:LR tag hv w x v):VR (tagZ tag) hv w p' .s l v:=by
 unfold LFOk at h
 split at h
 ·subst h
  exact VR.share hv0 .s (fun _ hb=>tagZ_sh hb) (fun _ _ _ hb=>tagZ_own hb) _
 ·split at h
  ·subst h
   rw[show v= .slice none 0 0 from hv0]
   exact .sh0
  ·exact h.elim
 ·rename_i p
  split at h
  ·rename_i e cols z rows hat
   obtain ⟨h1,h2,rfl⟩:=h
   cases p with
   |nil=>simp[Env.at_] at hat
   |cons r rest=>
    simp only[Env.at_] at hat
    cases hx:lkp E.rt r with
    |none=>rw[hx] at hat;cases hat
    |some x=>
     rw[hx] at hat
     simp only[Env.vld,hx] at h1
     obtain ⟨v',q1,_⟩:=VR.get rest [r] _ _ _ _ _ (hs.rt r x hx) h1 hat
     have hh:=q1.open_own.1
     rw[show ([r]++rest)=r::rest from rfl] at hh q1
     rw[hv0.1,hh]
     exact VR.share q1 h2 (fun _ hb=>tagZ_sh hb) (fun _ _ _ hb=>tagZ_own hb) _
  ·exact h.elim
 ·exact h.elim
theorem LFs_ok (hs:St w0 tag0 E tag hv a w): ∀ {ls:List LV} {ml:ML} {cs:List Value} {b:Nat},LFs E ls ml→All2 (LR tag hv w) ls cs→RC (tagZ tag) hv w b ml cs
 | [],[],_,_,_,h=>by cases h;trivial
 |x::r,(m,l)::q,_,b,hl,h=>by
  cases h with
  |cons h1 h2=>
   obtain ⟨⟨rfl,g1⟩,g2⟩:=hl
   exact ⟨LF_ok hs g1 h1,LFs_ok hs g2 h2⟩
 | [],_::_,_,_,h,_=>by cases h
 |_::_,[],_,_,h,_=>by cases h
theorem resF_ok (hT:TGood P ti) (hs:St w0 tag0 E tag hv a w): ∀ {rv:List ResultVar} {rs:List (Bool×ML)} {b:Nat},resF ti E rv rs→
  ∃vs,(rv.mapM (resV a.tmps)).run P w= .ok vs w∧RVs (tagZ tag) hv w b rs vs∧vs.length=rv.length
 | [],[],b,_=>⟨[],rfl,trivial,rfl⟩
 | [],_::_,b,h=>by simp[resF] at h
 |_::_,[],b,h=>by simp[resF] at h
 |v::r,(ag,ml)::q,b,h=>by
  simp only[resF] at h
  obtain ⟨h1,h2⟩:=h
  split at h1
  ·rename_i C ag' ls hr
   obtain ⟨hC,rfl,hls,hag⟩:=h1
   obtain ⟨u,h3,cs,h4,h5⟩:=resOne_ok hT hs hr hC
   obtain ⟨vs,h6,h7,h8⟩:=resF_ok hT hs (b:=b+ml.length) h2
   refine ⟨u::vs, ?_,⟨⟨cs,h4,LFs_ok hs hls h5,hag⟩,h7⟩,by simp[h8]⟩
   rw[List.mapM_cons]
   simp only[Sem.run_bind]
   rw[h3]
   simp only[Result.andThen_ok]
   rw[h6]
   rfl
  ·exact h1.elim
theorem vc_of_ewF (hT:TGood P ti) (hm:P.follows .mixedOrders=true) (vs:List Nat) {f:FuncId} {fn:Func} {c:Code} (hf:P.funcs[f]? =some fn) (hb:fn.body=some c) (hn:(fn.name== "runtime.NumGoroutine")=false) (hok:codeOk c=true)
  {as:List SV} {rs:List (Bool×ML)} (hl:fn.results.toList.length=rs.length)
  (h:ew P ti vs c (kEndF ti fn.results.toList rs) (env0 (as.length+(fn.ntmps-as.length)) as)):VC P f as rs:=by
 refine ⟨⟨fn,c,hf,hb,hn⟩,fun w tag hv vals htag hhi hargs=>calls_of_wp hf hb ?_⟩
 have hlen:vals.length=as.length:=hargs.len.symm
 have hs:St w tag (env0 (as.length+(fn.ntmps-as.length)) as) tag hv {tmps:=vals.toArray++Array.replicate (fn.ntmps-vals.toArray.size) undef,defers:= []} w:=by
  refine ⟨by simp[env0,hlen],rfl,fun t sv hl=> ?_,fun b ls hl=>by simp[env0,lkp] at hl,fun r x hl=>by simp[env0,lkp] at hl,⟨rfl,rfl,rfl,Nat.le_refl _,fun _ _ _=>⟨rfl,rfl⟩⟩,hhi⟩
  obtain ⟨_,h2⟩:=lkp_numL as 0 t sv hl
  simp only[Nat.sub_zero] at h2
  have ht:t<as.length:=(List.getElem?_eq_some_iff.1 h2).1
  have h3:vals[t]? =some vals[t]:=List.getElem?_eq_getElem (by omega)
  have h4:=hargs.get t sv _ h2 h3
  have h5:Act.eval {tmps:=vals.toArray++Array.replicate (fn.ntmps-vals.toArray.size) undef,defers:= []} (.tmp t)=vals[t]:=by
   simp only[Act.eval,Array.getD_eq_getD_getElem?]
   rw[Array.getElem?_append_left (by simp;omega)]
   simp[h3]
  rw[h5]
  exact h4
 refine ew_ok hT hm vs c _ _ hok hs h (fun e E' tag' hv' a' w' hs' hk=> ?_)
 have key:resF ti E' fn.results.toList rs→a'.defers= []∧ ∃v,(results fn a'.tmps).run P w'= .ok v w'∧ ∃tag' hv' rv,Ending.returned v= .returned rv∧Fr w tag tag' w'∧(∀b,w'.heap.size≤b→tag' b= .off)∧RV tag' hv' w' rs rv:=by
  intro h1
  refine ⟨hs'.df, ?_⟩
  obtain ⟨vs',h3,h4,h5⟩:=resF_ok hT hs' (b:=0) h1
  have hmap:(fn.results.mapM (resV a'.tmps)).run P w'= .ok vs'.toArray w':=by
   rw[Array.mapM_eq_mapM_toList,Sem.run_map,h3]
   rfl
  have hF:Fr w tag (tagZ tag') w':=by
   refine ⟨hs'.fr.os,hs'.fr.tape,hs'.fr.output,hs'.fr.size,fun b hb hq=> ?_⟩
   obtain ⟨q1,q2⟩:=hs'.fr.heap b hb hq
   refine ⟨q1, ?_⟩
   rcases hq with hq|hq<;>simp[tagZ,q2,hq]
  have hI: ∀b,w'.heap.size≤b→tagZ tag' b= .off:=fun b hb=>by simp[tagZ,hs'.hi b hb]
  by_cases h1':vs'.length=1
  ·match vs',h1',h4,hmap with
   | [u],_,h4,hmap=>
    refine ⟨u, ?_,_,hv',u,rfl,hF,hI, ?_⟩
    ·rw[results_eq]
     simp only[Sem.run_bind,hmap,Result.andThen_ok]
     simp
    ·have:rs.length=1:=by rw[←hl,←h5];rfl
     match rs,this,h4 with
     | [p],_,h4=>exact h4
  ·refine ⟨.tuple vs'.toArray, ?_,_,hv',_,rfl,hF,hI, ?_⟩
   ·rw[results_eq]
    simp only[Sem.run_bind,hmap,Result.andThen_ok]
    simp[h1']
   ·unfold RV
    split
    ·rename_i p
     exfalso
     apply h1'
     rw[h5,hl]
     rfl
    ·exact ⟨vs',rfl,h4⟩
 cases e with
 |normal=>exact key hk
 |ret=>exact key hk
 |_=>exact hk.elim
theorem Full_rowsF {α:Type} {e:Nat} {cols:Nat→List Md} {z:List Lf} {enc:α→List Lf} (h: ∀i x j,j<z.length→Full ((cols i).getD j .x) ((enc x).getD j default)) (l:List α):Full (.o e cols) (.ls z (l.map enc)):=by
 refine .o fun i j hi hj=> ?_
 have hi':i<l.length:=by simpa using hi
 have:lf z (l.map enc) i j=(enc l[i]).getD j default:=by
  simp only[lf]
  rw[List.getD_eq_getElem?_getD (l:=l.map enc),List.getElem?_map,List.getElem?_eq_getElem hi']
  rfl
 rw[this]
 exact h _ _ _ hj
def dim1 (x:Md×Lf):Md×Lf:=match x.2 with
 | .sc _=>x
 |l=>(.x,l)
def dimML (ml:ML):ML:=ml.map dim1
def dimR (rs:List (Bool×ML)):List (Bool×ML):=rs.map fun q=>(q.1,dimML q.2)
theorem RC.dim: ∀ {b:Nat} {ml:ML} {cs:List Value},RC tag hv w b ml cs→RC tag hv w b (dimML ml) cs
 |_,[],[],_=>trivial
 |_,[],_::_,h=>h
 |_,_::_,[],h=>h
 |b,(m,l)::r,c::cs,h=>by
  refine ⟨?_,RC.dim h.2⟩
  show VR tag hv w [b] (dim1 (m,l)).1 (dim1 (m,l)).2 c
  cases l with
  |sc v=>exact h.1
  |_=>exact .dead h.1.one
theorem dimML_len (ml:ML):(dimML ml).length=ml.length:=by simp[dimML]
theorem RVs.dim: ∀ {b:Nat} {rs:List (Bool×ML)} {vs:List Value},RVs tag hv w b rs vs→RVs tag hv w b (dimR rs) vs
 |_,[],[],_=>trivial
 |_,[],_::_,h=>h
 |_,_::_,[],h=>h
 |b,(ag,ml)::r,v::vs,h=>by
  obtain ⟨⟨cs,h1,h2,h3⟩,h4⟩:=h
  refine ⟨⟨cs,h1,RC.dim h2,fun e=>by rw[dimML_len];exact h3 e⟩, ?_⟩
  have:=RVs.dim h4
  rwa [dimML_len]
theorem RV.dim {rs:List (Bool×ML)} {v:Value} (h:RV tag hv w rs v):RV tag hv w (dimR rs) v:=by
 match rs,h with
 | [],h=>
  obtain ⟨vs,h1,h2⟩:=h
  exact ⟨vs,h1,RVs.dim (rs:= []) h2⟩
 | [p],h=>exact RVs.dim (rs:= [p]) h
 |p::q::r,h=>
  obtain ⟨vs,h1,h2⟩:=h
  exact ⟨vs,h1,RVs.dim (rs:=p::q::r) h2⟩
theorem VC.dim {f:FuncId} {as:List SV} {rs:List (Bool×ML)} (h:VC P f as rs):VC P f as (dimR rs):=by
 refine ⟨h.1,fun w tag hv vs h1 h2 h3=>(h.2 w tag hv vs h1 h2 h3).mono ?_⟩
 rintro e w' ⟨tag',hv',rv,rfl,hfr,hi,hrv⟩
 exact ⟨tag',hv',rv,rfl,hfr,hi,hrv.dim⟩
theorem Ow_x {l:Lf}:Ow .x l=True:=eq_true .x
attribute [simp] dimR dimML dim1 Ow_x
def nl1:LV→LV
 | .n z=> .s (.ls z [])
 |x=>x
def nilK (b:Nat):List (Nat×List LV)→List (Nat×List LV)
 | []=> []
 |(c,ls)::r=>if c=b then (c,ls.map nl1)::nilK b r else (c,ls)::nilK b r
def Env.nilB (E:Env) (b:Nat):Env:= {E with bx:=nilK b E.bx}
theorem lkp_nilK {b b':Nat}: ∀ {l:List (Nat×List LV)} {ls:List LV},lkp (nilK b l) b'=some ls→ ∃ls0,lkp l b'=some ls0∧(ls=ls0∨ls=ls0.map nl1)
 | [],_,h=>by simp[nilK,lkp] at h
 |(c,x)::r,ls,h=>by
  simp only[nilK] at h
  split at h
  ·simp only[lkp] at h⊢
   split at h
   ·rename_i e
    cases h
    exact ⟨x,by simp[e],.inr rfl⟩
   ·rename_i e
    obtain ⟨ls0,h1,h2⟩:=lkp_nilK h
    exact ⟨ls0,by simp[e,h1],h2⟩
  ·simp only[lkp] at h⊢
   split at h
   ·rename_i e
    cases h
    exact ⟨_,by simp[e],.inl rfl⟩
   ·rename_i e
    obtain ⟨ls0,h1,h2⟩:=lkp_nilK h
    exact ⟨ls0,by simp[e,h1],h2⟩
theorem nl1_ok {x:LV} {v:Value} (h:LR tag hv w x v):LR tag hv w (nl1 x) v:=by
 cases x with
 |n z=>
  rw[show v= .slice none 0 0 from h]
  exact .sh0
 |_=>exact h
theorem nls_ok: ∀ {ls:List LV} {cs:List Value},All2 (LR tag hv w) ls cs→All2 (LR tag hv w) (ls.map nl1) cs
 | [],_,h=>by cases h;exact .nil
 |x::r,_,h=>by
  cases h with
  |cons h1 h2=>exact .cons (nl1_ok h1) (nls_ok h2)
theorem Gh.nilB (E:Env) (b:Nat):Gh E (E.nilB b):=by
 intro w0 tag0 tag hv a w hs
 refine ⟨tag,hv,hs.nt,hs.df,hs.sl,fun b' ls hl=> ?_,hs.rt,hs.fr,hs.hi⟩
 obtain ⟨ls0,h1,h2⟩:=lkp_nilK hl
 obtain ⟨q,cur,e',h3,h4,h5,h6⟩:=hs.bx b' ls0 h1
 refine ⟨q,cur,e',h3,h4,h5, ?_⟩
 rcases h2 with rfl|rfl
 ·exact h6
 ·exact nls_ok h6
attribute [simp] Env.nilB nilK nl1
attribute [simp] kEndF_n kEndF_r resF LFs LFOk frzR frzML
end Go.Sm
