import Derived.Below
import Derived.Laws.OwnMore
import Derived.WalkKit
import Derived.Laws.Cells
import Derived.Laws.Rows
import Derived.Laws.Small
import Derived.Laws.StructEq
import Derived.Laws.BytesArg
import Derived.Laws.IdiomStrings
set_option maxHeartbeats 8000000
set_option maxRecDepth 8000
namespace Go.Sm
open Go.RowKit
inductive Lf where
 |sc (v:Value)
 |ls (z:List Lf) (rows:List (List Lf))
instance:Inhabited Lf:=⟨.sc (.int .i64 0)⟩
inductive Md where
 |s
 |x
 |o (e:Nat) (cols:Nat→List Md)
instance:Inhabited Md:=⟨.x⟩
inductive Tag where
 |sh
 |off
 |own (p:List Nat)
abbrev Hv:=List Nat→Value
def lf (z:List Lf) (rows:List (List Lf)) (i j:Nat):Lf:=(rows.getD i z).getD j default
def md (cols:Nat→List Md) (i j:Nat):Md:=(cols i).getD j .x
inductive VR (tag:Nat→Tag) (hv:Hv) (w:World):List Nat→Md→Lf→Value→Prop
 |dead {p l v} (h1:v.oneCell'=true):VR tag hv w p .x l v
 |sc {p v} (h1:v.oneCell'=true):VR tag hv w p .s (.sc v) v
 |sh0 {p z a c}:VR tag hv w p .s (.ls z []) (.slice a 0 c)
 |sh {p z rows b off n c} (cell:Nat→Nat→Value) (hn:rows.length=n) (hc:n≤c) (ht:tag b= .sh)
   (hl: ∀i,i<n→(rows.getD i z).length=z.length)
   (hcell: ∀i j,i<n→j<z.length→w.cell? ⟨b,off+(i*z.length+j),none⟩=some (cell i j))
   (hr: ∀i j,i<n→j<z.length→VR tag hv w p .s (lf z rows i j) (cell i j)):
   VR tag hv w p .s (.ls z rows) (.slice (some ⟨b,off,none⟩) n c)
 |own0 {p e cols z} (hh:hv p= .slice none 0 0):VR tag hv w p (.o e cols) (.ls z []) (.slice none 0 0)
 |own {p e cols z rows b n c} (cur:Array Value) (hn:rows.length=n) (hc:n≤c) (hm:c≤maxLen) (ht:tag b= .own p) (hh:hv p= .slice (some ⟨b,0,none⟩) n c)
   (hb:w.heap[b]? =some (.cells cur e (0,0))) (hs:cur.size=c*z.length)
   (hl: ∀i,i<n→(rows.getD i z).length=z.length)
   (hr: ∀i j,i<n→j<z.length→VR tag hv w (p++ [i,j]) (md cols i j) (lf z rows i j) (cur.getD (i*z.length+j) default)):
   VR tag hv w p (.o e cols) (.ls z rows) (.slice (some ⟨b,0,none⟩) n c)
inductive OwnIn:Md→Lf→List Nat→Prop
 |here {e cols z rows}:OwnIn (.o e cols) (.ls z rows) []
 |deep {e cols z rows i j rest} (hi:i<rows.length) (hj:j<z.length) (h:OwnIn (md cols i j) (lf z rows i j) rest):OwnIn (.o e cols) (.ls z rows) (i::j::rest)
inductive Full:Md→Lf→Prop
 |s {l}:Full .s l
 |o {e cols z rows} (h: ∀i j,i<rows.length→j<z.length→Full (md cols i j) (lf z rows i j)):Full (.o e cols) (.ls z rows)
section
variable {tag tag' : Nat → Tag} {hv hv' : Hv} {w w' : World} {p p' : List Nat} {m : Md} {l : Lf} {v : Value}
theorem VR.one (h:VR tag hv w p m l v):v.oneCell'=true:=by
 cases h<;>first|assumption|rfl
theorem VR.move (h:VR tag hv w p m l v): ∀p':List Nat,(∀b,tag b= .sh→tag' b= .sh∧w'.heap[b]? =w.heap[b]?)→
  (∀rest,OwnIn m l rest→hv' (p'++rest)=hv (p++rest)∧ ∀b,tag b= .own (p++rest)→tag' b= .own (p'++rest)∧w'.heap[b]? =w.heap[b]?)→
  VR tag' hv' w' p' m l v:=by
 induction h with
 |dead h1=>exact fun _ _ _=> .dead h1
 |sc h1=>exact fun _ _ _=> .sc h1
 |sh0=>exact fun _ _ _=> .sh0
 |sh cell hn hc ht hl hcell hr ih=>
  intro p' hs ho
  refine .sh cell hn hc (hs _ ht).1 hl (fun i j hi hj=> ?_) (fun i j hi hj=> ?_)
  ·rw[World.cell?_of_block (w:=w) (hs _ ht).2]
   exact hcell i j hi hj
  ·refine ih i j hi hj p' hs (fun rest hrest=> ?_)
   cases hrest
 |own0 hh=>
  intro p' hs ho
  have:=(ho [] .here).1
  simp only[List.append_nil] at this
  exact .own0 (this.trans hh)
 |own cur hn hc hm ht hh hb hs hl hr ih=>
  intro p' hs' ho
  have h0:=ho [] .here
  simp only[List.append_nil] at h0
  have h2:=h0.2 _ ht
  refine .own cur hn hc hm h2.1 (h0.1.trans hh) (h2.2.trans hb) hs hl (fun i j hi hj=>ih i j hi hj _ hs' (fun rest hrest=> ?_))
  have:=ho (i::j::rest) (.deep (by omega) hj hrest)
  simpa using this
theorem VR.share (h:VR tag hv w p m l v):Full m l→(∀b,tag b= .sh→tag' b= .sh)→(∀rest b,OwnIn m l rest→tag b= .own (p++rest)→tag' b= .sh)→ ∀p',VR tag' hv' w p' .s l v:=by
 induction h with
 |dead h1=>intro hf;cases hf
 |sc h1=>exact fun _ _ _ _=> .sc h1
 |sh0=>exact fun _ _ _ _=> .sh0
 |sh cell hn hc ht hl hcell hr ih=>
  intro _ hs ho p'
  refine .sh cell hn hc (hs _ ht) hl hcell (fun i j hi hj=>ih i j hi hj .s hs (fun rest b hrest=> ?_) p')
  cases hrest
 |own0 hh=>exact fun _ _ _ _=> .sh0
 | @own p e cols z rows b n c cur hn hc hm ht hh hb hs hl hr ih=>
  intro hf hs' ho p'
  cases hf with
  |o hf=>
  have h0:=ho [] b .here (by simpa using ht)
  refine .sh (fun i j=>cur.getD (i*z.length+j) default) hn hc h0 hl (fun i j hi hj=> ?_) (fun i j hi hj=> ?_)
  ·have hlt:i*z.length+j<cur.size:=by
    rw[hs]
    have h1:(i+1)*z.length≤c*z.length:=Nat.mul_le_mul_right _ (by omega)
    rw[Nat.add_mul] at h1
    omega
   simp[World.cell?,hb,Array.getD,hlt]
  ·refine ih i j hi hj (hf i j (by omega) hj) hs' (fun rest b' hrest htb=> ?_) p'
   exact ho (i::j::rest) b' (.deep (by omega) hj hrest) (by simpa using htb)
end
end Go.Sm
namespace Go.Sm
open Go.RowKit
inductive LV where
 |s (l:Lf)
 |n (z:List Lf)
 |r (p:List Nat)
 |u
instance:Inhabited LV:=⟨.u⟩
inductive PV where
 |pt (p:List Nat) (sz i off:Nat)
 |bx (b off:Nat)
 |ps (ds:List Lf)
 |vw (p:List Nat) (sz lo n:Nat)
inductive SV where
 |dead
 |v (agg:Bool) (ls:List LV)
 |tu (parts:List (Bool×List LV))
 |p (x:PV)
 |fn (k:Nat) (caps:List PV)
 |g (c:Bool) (s:SV)
 |pin (r:Nat) (q:List Nat) (x:Value)
instance:Inhabited SV:=⟨.dead⟩
structure Env where
 nt:Nat
 sl:List (Nat×SV)
 bx:List (Nat×List LV)
 rt:List (Nat×Md×Lf)
def lkp {α:Type}:List (Nat×α)→Nat→Option α
 | [],_=>none
 |(k,x)::r,t=>if k=t then some x else lkp r t
def putL {α:Type}:List (Nat×α)→Nat→α→List (Nat×α)
 | [],t,y=> [(t,y)]
 |(k,x)::r,t,y=>if k=t then (k,y)::r else (k,x)::putL r t y
def delL {α:Type}:List (Nat×α)→Nat→List (Nat×α)
 | [],_=> []
 |(k,x)::r,t=>if k=t then delL r t else (k,x)::delL r t
theorem lkp_putL {α:Type} (t t':Nat) (y:α): ∀l:List (Nat×α),lkp (putL l t y) t'=if t=t' then some y else lkp l t'
 | []=>by simp[putL,lkp]
 |(k,x)::r=>by
  simp only[putL]
  by_cases h:k=t
  ·subst h
   simp only[if_true,lkp]
   by_cases h2:k=t'<;>simp[h2]
  ·simp only[if_neg h,lkp,lkp_putL t t' y r]
   by_cases h2:k=t'
   ·subst h2
    simp[Ne.symm h]
   ·simp[h2]
theorem lkp_delL {α:Type} (t t':Nat): ∀l:List (Nat×α),lkp (delL l t) t'=if t=t' then none else lkp l t'
 | []=>by simp[delL,lkp]
 |(k,x)::r=>by
  simp only[delL]
  by_cases h:k=t
  ·subst h
   simp only[if_true,lkp_delL k t' r,lkp]
   by_cases h2:k=t'<;>simp[h2]
  ·simp only[if_neg h,lkp,lkp_delL t t' r]
   by_cases h2:k=t'
   ·subst h2
    simp[Ne.symm h]
   ·simp[h2]
section
variable (tag : Nat → Tag) (hv : Hv) (w : World)
def LR:LV→Value→Prop
 | .s l,v=>VR tag hv w [] .s l v
 | .n _,v=>v= .slice none 0 0
 | .r p,v=>v=hv p∧ ∃a n c,v= .slice a n c
 | .u,v=>v.oneCell'=true
inductive All2 {α β:Type} (R:α→β→Prop):List α→List β→Prop
 |nil:All2 R [] []
 |cons {a b as bs} (h:R a b) (hs:All2 R as bs):All2 R (a::as) (b::bs)
def mkV:Bool→List Value→Value
 |true,cs=> .agg cs.toArray
 |false,c::_=>c
 |false,[]=> .tuple #[]
def VV (agg:Bool) (ls:List LV) (v:Value):Prop:= ∃cs,v=mkV agg cs∧All2 (LR tag hv w) ls cs∧(agg=false→ls.length=1)
def PR:PV→Value→Prop
 | .pt p sz i off,v=> ∃b n c,hv p= .slice (some ⟨b,0,none⟩) n c∧v= .pointer (some ⟨b,i*sz+off,none⟩)
 | .bx b off,v=> ∃k,hv [b,0]= .pointer (some ⟨k,0,none⟩)∧v= .pointer (some ⟨k,off,none⟩)
 | .vw p sz lo n,v=>(∃b N c o,hv p= .slice (some ⟨b,0,none⟩) N c∧v= .slice (some ⟨b,o,none⟩) n (c-lo)∧(lo<c∨lo=0→o=lo*sz)∧lo+n≤c)∨(hv p= .slice none 0 0∧v= .slice none 0 0∧n=0∧lo=0)
 | .ps ds,v=> ∃b off,v= .pointer (some ⟨b,off,none⟩)∧tag b= .sh∧ ∀j,j<ds.length→ ∃u,w.cell? ⟨b,off+j,none⟩=some u∧VR tag hv w [] .s (ds.getD j default) u
def SR:SV→Value→Prop
 | .dead,_=>True
 | .v agg ls,v=>VV tag hv w agg ls v
 | .tu parts,v=> ∃vs,v= .tuple vs.toArray∧All2 (fun (q:Bool×List LV) u=>VV tag hv w q.1 q.2 u) parts vs
 | .p x,v=>PR tag hv w x v
 | .fn k caps,v=> ∃vs,v= .func (.func k) #[] vs.toArray∧All2 (PR tag hv w) caps vs
 | .g c s,v=>(c=true→SR s v)∧(c=false→v=undef)
 | .pin r q x,_=>hv (r::q)=x
end
structure Fr (w0:World) (tag0 tag:Nat→Tag) (w:World):Prop where
 os:w.os=w0.os
 tape:w.tape=w0.tape
 output:w.output=w0.output
 size:w0.heap.size≤w.heap.size
 heap: ∀b,b<w0.heap.size→(tag0 b= .sh∨tag0 b= .off)→w.heap[b]? =w0.heap[b]? ∧tag b=tag0 b
structure St (w0:World) (tag0:Nat→Tag) (E:Env) (tag:Nat→Tag) (hv:Hv) (a:Act) (w:World):Prop where
 nt:a.tmps.size=E.nt
 df:a.defers= []
 sl: ∀t sv,lkp E.sl t=some sv→SR tag hv w sv (a.eval (.tmp t))
 bx: ∀b ls,lkp E.bx b=some ls→ ∃k cur e,hv [b,0]= .pointer (some ⟨k,0,none⟩)∧tag k= .own [b,0]∧w.heap[k]? =some (.cells cur e (0,0))∧All2 (LR tag hv w) ls cur.toList
 rt: ∀r x,lkp E.rt r=some x→VR tag hv w [r] x.1 x.2 (hv [r])
 fr:Fr w0 tag0 tag w
 hi: ∀b,w.heap.size≤b→tag b= .off
end Go.Sm
namespace Go.Sm
open Go.RowKit
def getL:List Nat→Md×Lf→Option (Md×Lf)
 | [],x=>some x
 |i::j::rest,(.o _ cols,.ls z rows)=>getL rest (md cols i j,lf z rows i j)
 |_,_=>none
def vldL:List Nat→Md×Lf→Prop
 | [],_=>True
 |i::j::rest,(.o _ cols,.ls z rows)=>i<rows.length∧j<z.length∧vldL rest (md cols i j,lf z rows i j)
 |_,_=>False
section
variable {tag tag' : Nat → Tag} {hv hv' : Hv} {w w' : World} {p p' : List Nat} {m : Md} {l : Lf} {v : Value}
theorem VR.open_own {e cols z rows} (h:VR tag hv w p (.o e cols) (.ls z rows) v):hv p=v∧((v= .slice none 0 0∧rows= [])∨
  ∃b c cur,v= .slice (some ⟨b,0,none⟩) rows.length c∧rows.length≤c∧c≤maxLen∧tag b= .own p∧w.heap[b]? =some (.cells cur e (0,0))∧cur.size=c*z.length∧
   (∀i,i<rows.length→(rows.getD i z).length=z.length)∧
   (∀i j,i<rows.length→j<z.length→VR tag hv w (p++ [i,j]) (md cols i j) (lf z rows i j) (cur.getD (i*z.length+j) default))):=by
 cases h with
 |own0 hh=>exact ⟨hh,.inl ⟨rfl,rfl⟩⟩
 |own cur hn hc hm ht hh hb hs hl hr=>
  subst hn
  exact ⟨hh,.inr ⟨_,_,cur,rfl,hc,hm,ht,hb,hs,hl,hr⟩⟩
theorem VR.get: ∀ (rest p:List Nat) (m:Md) (l:Lf) (v:Value) (m':Md) (l':Lf),VR tag hv w p m l v→vldL rest (m,l)→getL rest (m,l)=some (m',l')→ ∃v',VR tag hv w (p++rest) m' l' v'∧(rest= []→v'=v)
 | [],p,m,l,v,m',l',h,_,hg=>by
  simp only[getL,Option.some.injEq,Prod.mk.injEq] at hg
  obtain ⟨rfl,rfl⟩:=hg
  exact ⟨v,by simpa using h,fun _=>rfl⟩
 | [i],p,m,l,v,m',l',h,hv,hg=>by cases m<;>cases l<;>simp[vldL] at hv
 |i::j::rest,p,m,l,v,m',l',h,hv,hg=>by
  cases m with
  |s=>cases l<;>simp[vldL] at hv
  |x=>cases l<;>simp[vldL] at hv
  |o e cols=>
   cases l with
   |sc u=>simp[vldL] at hv
   |ls z rows=>
    simp only[vldL] at hv
    simp only[getL] at hg
    obtain ⟨_,h0|⟨b,c,cur,_,_,_,_,_,_,_,hr⟩⟩:=h.open_own
    ·rw[h0.2] at hv
     simp at hv
    ·obtain ⟨v',h1,_⟩:=VR.get rest _ _ _ _ m' l' (hr i j hv.1 hv.2.1) hv.2.2 hg
     refine ⟨v',by simpa using h1,fun e=>by cases e⟩
theorem lf_set_same {z:List Lf} {rows:List (List Lf)} {i j:Nat} {y:Lf} (hi:i<rows.length) (hj:j<z.length) (hl:(rows.getD i z).length=z.length):
  lf z (rows.set i ((rows.getD i z).set j y)) i j=y:=by
 simp only[lf]
 have h1:(rows.set i ((rows.getD i z).set j y)).getD i z=(rows.getD i z).set j y:=by
  rw[List.getD_eq_getElem?_getD,List.getElem?_set_self hi]
  rfl
 rw[h1,List.getD_eq_getElem?_getD,List.getElem?_set_self (by rw[hl];exact hj)]
 rfl
theorem lf_set_other {z:List Lf} {rows:List (List Lf)} {i j i' j':Nat} {y:Lf} (hi:i<rows.length) (h: ¬(i'=i∧j'=j)):
  lf z (rows.set i ((rows.getD i z).set j y)) i' j'=lf z rows i' j':=by
 simp only[lf]
 by_cases h1:i'=i
 ·subst h1
  have h3:(rows.set i' ((rows.getD i' z).set j y)).getD i' z=(rows.getD i' z).set j y:=by
   rw[List.getD_eq_getElem?_getD,List.getElem?_set_self hi]
   rfl
  rw[h3,List.getD_eq_getElem?_getD,List.getElem?_set_ne (fun e=>h ⟨rfl,e.symm⟩),←List.getD_eq_getElem?_getD]
 ·have h3:(rows.set i ((rows.getD i z).set j y)).getD i' z=rows.getD i' z:=by
   rw[List.getD_eq_getElem?_getD,List.getElem?_set_ne (Ne.symm h1),←List.getD_eq_getElem?_getD]
  rw[h3]
theorem md_set_same {cols:Nat→List Md} {i j:Nat} {y:Md}:md (fun k=>if k=i then (cols i).set j y else cols k) i j=y∨md (fun k=>if k=i then (cols i).set j y else cols k) i j= .x:=by
 simp only[md,if_true]
 rw[List.getD_eq_getElem?_getD]
 by_cases h:j< (cols i).length
 ·left
  rw[List.getElem?_set_self h]
  rfl
 ·right
  rw[List.getElem?_eq_none (by simp;omega)]
  rfl
theorem md_set_other {cols:Nat→List Md} {i j i' j':Nat} {y:Md} (h: ¬(i'=i∧j'=j)):md (fun k=>if k=i then (cols i).set j y else cols k) i' j'=md cols i' j':=by
 simp only[md]
 by_cases h1:i'=i
 ·subst h1
  rw[if_pos rfl,List.getD_eq_getElem?_getD,List.getElem?_set_ne (fun e=>h ⟨rfl,e.symm⟩),←List.getD_eq_getElem?_getD]
 ·rw[if_neg h1]
theorem rows_set_len {z:List Lf} {rows:List (List Lf)} {i j:Nat} {y:Lf} (hi:i<rows.length) (hl: ∀i,i<rows.length→(rows.getD i z).length=z.length):
  ∀i',i'< (rows.set i ((rows.getD i z).set j y)).length→((rows.set i ((rows.getD i z).set j y)).getD i' z).length=z.length:=by
 intro i' h'
 rw[List.length_set] at h'
 by_cases h1:i'=i
 ·subst h1
  rw[List.getD_eq_getElem?_getD,List.getElem?_set_self hi]
  simp only[Option.getD_some,List.length_set]
  exact hl _ hi
 ·rw[List.getD_eq_getElem?_getD,List.getElem?_set_ne (Ne.symm h1),←List.getD_eq_getElem?_getD]
  exact hl _ h'
theorem idx_ne {sz i j i' j':Nat} (hj:j<sz) (hj':j'<sz) (h: ¬(i'=i∧j'=j)):i'*sz+j'≠i*sz+j:=by
 intro e
 rcases Nat.lt_trichotomy i' i with h1|h1|h1
 ·have h2:(i'+1)*sz≤i*sz:=Nat.mul_le_mul_right _ h1
  rw[Nat.add_mul] at h2
  omega
 ·subst h1
  exact h ⟨rfl,by omega⟩
 ·have h2:(i+1)*sz≤i'*sz:=Nat.mul_le_mul_right _ h1
  rw[Nat.add_mul] at h2
  omega
end
end Go.Sm
namespace Go.Sm
open Go.RowKit
structure TI where
 ok:Bool:=false
 desc:TypeDesc:= .invalid
 sz:Nat:=0
 by_:Nat:=0
 zv:Value:= .tuple #[]
 z:List Lf:= []
 ms:List Md:= []
 eqb:Bool:=false
instance:Inhabited TI:=⟨{}⟩
abbrev TT:=Nat→TI
def TI.agg (t:TI):Bool:=match t.desc with| .struct _=>true|_=>false
def TI.elt (t:TI):Option Nat:=match t.desc with| .slice e=>some e|_=>none
def TI.isStr (t:TI):Bool:=match t.desc with| .string=>true|_=>false
def TI.isBool (t:TI):Bool:=match t.desc with| .bool=>true|_=>false
def TI.int? (t:TI):Option IntKind:=match t.desc with| .int k=>some k|_=>none
def TI.fld (t:TI) (k:Nat):Option (Nat×Nat):=match t.desc with| .struct fs=>(fs[k]?).map (fun f=>(f.offset,f.type))|_=>none
def zval:Lf→Value
 | .sc v=>v
 | .ls _ _=> .slice none 0 0
def scal:Value→Bool
 | .int _ _| .bool _| .string _=>true
 |_=>false
structure TI.good (P:Program) (t:Nat) (i:TI):Prop where
 info:(P.info? t).map (fun x=>(x.size,x.bytes,x.zero))=some (i.sz,i.by_,some i.zv)
 und:P.underlying t=some i.desc
 zc:i.zv.cells.toList=i.z.map zval
 zl:i.z.length=i.sz
 zf: ∀l∈i.z,(∃v,l= .sc v∧scal v=true)∨ ∃zz,l= .ls zz []
 pos:0<i.sz
 posb:0<i.by_
 ag:i.agg=true→ ∃cs,i.zv= .agg cs
 na:i.agg=false→i.sz=1∧i.zv.oneCell'=true∧ ∀n e,i.desc≠ .array n e
 fs: ∀k o u,i.fld k=some (o,u)→ ∃n,(P.info? u).map (·.size)=some n∧n≠0
def sameK:List Lf→List Value→Prop
 | [],[]=>True
 | .sc (.int k _)::z,.int k' _::xs=>k'=k∧sameK z xs
 | .sc (.string _)::z,.string _::xs=>sameK z xs
 | .sc (.bool _)::z,.bool _::xs=>sameK z xs
 |_,_=>False
def eqV:List Value→List Value→Bool
 | [],[]=>true
 | .int _ a::xs,.int _ b::ys=>a==b&&eqV xs ys
 | .string a::xs,.string b::ys=>a.toList==b.toList&&eqV xs ys
 | .bool a::xs,.bool b::ys=>a==b&&eqV xs ys
 |_,_=>false
def eqAt (P:Program) (i:TI) (t:Nat) (n:Nat):Prop:= ∀ (d:Nat) (w:World) (xs ys:List Value),sameK i.z xs→sameK i.z ys→
 (Op.equalIn (d+n) t (mkV i.agg xs) (mkV i.agg ys)).run P w= .ok (eqV xs ys) w
structure TGood (P:Program) (ti:TT):Prop where
 g: ∀t,(ti t).ok=true→(ti t).good P t
 e: ∀t,(ti t).eqb=true→eqAt P (ti t) t 5000∧P.eqGuardType P.depth t=false
instance (P:Program) (ti:TT):CoeFun (TGood P ti) (fun _=> ∀t,(ti t).ok=true→(ti t).good P t):=⟨TGood.g⟩
def Env.at_ (E:Env):List Nat→Option (Md×Lf)
 |r::rest=>(lkp E.rt r).bind (getL rest)
 |_=>none
def Env.vld (E:Env):List Nat→Prop
 |r::rest=>match lkp E.rt r with
  |some x=>vldL rest x
  |none=>False
 |_=>False
def bool (b:Bool):SV:= .v false [.s (.sc (.bool b))]
def int (k:IntKind) (n:Int):SV:= .v false [.s (.sc (.int k n))]
def str (s:ByteArray):SV:= .v false [.s (.sc (.string s))]
def list (z:List Lf) (rows:List (List Lf)):SV:= .v false [.s (.ls z rows)]
def toLV (p:List Nat) (i j:Nat):Md→Lf→LV
 | .s,l=> .s l
 | .x,_=> .u
 | .o _ _,_=> .r (p++ [i,j])
def cLV:Lf→Value→Option LV
 | .ls zz _,.slice none 0 0=>some (.n zz)
 |_,v=>if scal v then some (.s (.sc v)) else none
def cLVs:List Lf→List Value→Option (List LV)
 | [],[]=>some []
 |z::zs,v::vs=>match cLV z v,cLVs zs vs with
  |some x,some xs=>some (x::xs)
  |_,_=>none
 |_,_=>none
def cSV (ti:TT) (T:Nat):Value→Option SV
 | .agg cs=>if (ti T).ok then (cLVs (ti T).z cs.toList).map (.v true) else none
 | .slice none 0 0=>match (ti T).elt with
  |some e=>some (.v false [.n (ti e).z])
  |none=>none
 | .pointer none=>some .dead
 |v=>if scal v then some (.v false [.s (.sc v)]) else none
def opd (ti:TT) (E:Env) (T:Nat):Operand→Option SV
 | .tmp t=>lkp E.sl t
 | .const v=>cSV ti T v
 | .func k=>some (.fn k [])
 | .global _=>none
def Env.lf (E:Env):LV→Option Lf
 | .s l=>some l
 | .n z=>some (.ls z [])
 | .r p=>(E.at_ p).map (·.2)
 | .u=>none
def Env.rows (E:Env):LV→Option (List Lf×List (List Lf))
 | .s (.ls z rows)=>some (z,rows)
 | .n z=>some (z,[])
 | .r p=>match E.at_ p with
  |some (.o _ _,.ls z rows)=>some (z,rows)
  |_=>none
 |_=>none
def Env.vldLV (E:Env):LV→Prop
 | .r p=>E.vld p
 |_=>True
def eByte (b:UInt8):List Lf:= [.sc (.int .u8 (b.toNat:Int))]
def rowByte:List Lf→UInt8
 | [.sc (.int _ n)]=>UInt8.ofNat n.toNat
 |_=>0
def isByteRow (row:List Lf):Prop:= ∃b,row=eByte b
def Env.bytM (E:Env):LV→Prop
 | .r p=>match E.at_ p with
  |some (.o _ cols,_)=> ∀i,md cols i 0= .s
  |_=>False
 |_=>True
def TI.isU8 (t:TI):Bool:=match t.desc with| .int .u8=>true|_=>false
def intBin (op:BinOp) (k:IntKind) (a b:Int):Option (Prop×SV):=
 match op with
 | .add=>some (True,int k (k.wrap (a+b)))
 | .sub=>some (True,int k (k.wrap (a-b)))
 | .mul=>some (True,int k (k.wrap (a*b)))
 | .quo=>some (b≠0,int k (k.wrap (a.tdiv b)))
 | .rem=>some (b≠0,int k (a.tmod b))
 | .and=>some (True,int k (k.wrap ((BitVec.ofInt k.bits a&&&BitVec.ofInt k.bits b).toNat:Int)))
 | .or=>some (True,int k (k.wrap ((BitVec.ofInt k.bits a|||BitVec.ofInt k.bits b).toNat:Int)))
 | .xor=>some (True,int k (k.wrap ((BitVec.ofInt k.bits a^^^BitVec.ofInt k.bits b).toNat:Int)))
 | .eql=>some (True,bool (a==b))
 | .neq=>some (True,bool (a !=b))
 | .lss=>some (True,bool (decide (a<b)))
 | .leq=>some (True,bool (decide (a≤b)))
 | .gtr=>some (True,bool (decide (a>b)))
 | .geq=>some (True,bool (decide (a≥b)))
 |_=>none
def shiftBin (op:BinOp) (k:IntKind) (a b:Int):Option (Prop×SV):=
 match op with
 | .shl=>some (0≤b,int k (k.wrap (a*2^min b.toNat k.bits)))
 | .shr=>some (0≤b,int k (a.fdiv (2^min b.toNat k.bits)))
 |_=>none
def strBin (op:BinOp) (x y:ByteArray):Option (Prop×SV):=
 match op with
 | .add=>some (x.size+y.size≤9223372036854775807,str (x++y))
 | .eql=>some (True,bool (x.toList==y.toList))
 | .neq=>some (True,bool (!(x.toList==y.toList)))
 | .lss=>some (True,bool (Op.bytesLess x.toList y.toList))
 | .leq=>some (True,bool (Op.bytesLess x.toList y.toList||x.toList==y.toList))
 | .gtr=>some (True,bool (!(Op.bytesLess x.toList y.toList||x.toList==y.toList)))
 | .geq=>some (True,bool (!Op.bytesLess x.toList y.toList))
 |_=>none
def boolBin (op:BinOp) (x y:Bool):Option (Prop×SV):=
 match op with
 | .eql=>some (True,bool (x==y))
 | .neq=>some (True,bool (!(x==y)))
 |_=>none
def binSV (op:BinOp) (x y:SV):Option (Prop×SV):=
 match op,x,y with
 | .shl,.v false [.s (.sc (.int k a))],.v false [.s (.sc (.int _ b))]=>shiftBin .shl k a b
 | .shr,.v false [.s (.sc (.int k a))],.v false [.s (.sc (.int _ b))]=>shiftBin .shr k a b
 |op,.v false [.s (.sc (.int k a))],.v false [.s (.sc (.int k' b))]=>if k=k' then intBin op k a b else none
 |op,.v false [.s (.sc (.string a))],.v false [.s (.sc (.string b))]=>strBin op a b
 |_,_,_=>none
def eqC:List Lf→List LV→List LV→Option Bool
 | [],[],[]=>some true
 | .sc (.int k _)::z,.s (.sc (.int k1 a))::xs,.s (.sc (.int k2 b))::ys=>match eqC z xs ys with
  |some r=>if k1=k∧k2=k then some (a==b&&r) else none
  |none=>none
 | .sc (.string _)::z,.s (.sc (.string a))::xs,.s (.sc (.string b))::ys=>match eqC z xs ys with
  |some r=>some (a.toList==b.toList&&r)
  |none=>none
 | .sc (.bool _)::z,.s (.sc (.bool a))::xs,.s (.sc (.bool b))::ys=>match eqC z xs ys with
  |some r=>some (a==b&&r)
  |none=>none
 |_,_,_=>none
def eqSV (ti:TT) (op:BinOp) (t:Nat):SV→SV→Option (Prop×SV)
 | .v true ls,.v true ls'=>match eqC (ti t).z ls ls' with
  |some r=>match op with
   | .eql=>some ((ti t).ok=true∧(ti t).agg=true,bool r)
   | .neq=>some ((ti t).ok=true∧(ti t).agg=true,bool (!r))
   |_=>none
  |none=>none
 |_,_=>none
def bnd (n:Nat):Option SV→Option (Prop×Nat)
 |none=>some (True,n)
 |some (.v false [.s (.sc (.int _ i))])=>some (0≤i∧i≤n,i.toNat)
 |some _=>none
def bndL (h:Nat):Option SV→Option (Prop×Nat)
 |none=>some (True,0)
 |some (.v false [.s (.sc (.int _ i))])=>some (0≤i∧i≤h,i.toNat)
 |some _=>none
def capsO (ti:TT) (E:Env):List Operand→Option (List PV)
 | []=>some []
 |x::r=>match opd ti E 0 x,capsO ti E r with
  |some (.p q),some qs=>some (q::qs)
  |_,_=>none
def purFn (ti:TT) (E:Env) (f:Fn) (first caps:List Operand):Option (Prop×SV):=
 match f,first with
 | .func k,[]=>match capsO ti E caps with
  |some qs=>some (True,.fn k qs)
  |none=>none
 |_,_=>none
def purCall (ti:TT) (E:Env) (ty:Nat) (f:Callee) (args:List Operand) (ats:List TypeId):Option (Prop×SV):=
 match f with
 | .builtin .len=>match args,ats with
  | [x],[t]=>match opd ti E t x with
   |some (.p (.vw _ _ _ n))=>some ((ti t).ok=true∧((ti t).elt).isSome=true,int .i64 n)
   |some (.v false [.s (.sc (.string s))])=>some ((ti t).ok=true∧(ti t).isStr=true,int .i64 s.size)
   |some (.v false [c])=>match E.rows c with
    |some (_,rows)=>some ((ti t).ok=true∧((ti t).elt).isSome=true∧E.vldLV c,int .i64 rows.length)
    |none=>none
   |_=>none
  |_,_=>none
 | .builtin .min=>match args with
  | [x,y]=>match opd ti E ty x,opd ti E ty y with
   |some (.v false [.s (.sc (.int k a))]),some (.v false [.s (.sc (.int _ b))])=>some (True,int k (if b<a then b else a))
   |_,_=>none
  |_=>none
 | .builtin .max=>match args with
  | [x,y]=>match opd ti E ty x,opd ti E ty y with
   |some (.v false [.s (.sc (.int k a))]),some (.v false [.s (.sc (.int _ b))])=>some (True,int k (if b>a then b else a))
   |_,_=>none
  |_=>none
 |_=>none
def zLV:Lf→LV
 | .sc v=> .s (.sc v)
 | .ls z _=> .n z
def setM {α:Type}:List α→Nat→List α→List α
 |l,_,[]=>l
 |l,off,y::r=>setM (l.set off y) (off+1) r
def bparts (ti:TT) (E:Env) (place:Nat→Option (Nat×Nat)):List (Nat×Operand)→List LV→Option (Prop×List LV)
 | [],ls=>some (True,ls)
 |(i,x)::r,ls=>match place i with
  |some (off,u)=>match opd ti E u x with
   |some (.v _ new)=>match bparts ti E place r (setM ls off new) with
    |some (C,l)=>some (((ti u).ok=true∧new.length=(ti u).sz∧off+new.length≤ls.length)∧C,l)
    |none=>none
   |_=>none
  |none=>none
def pur (ti:TT) (E:Env) (o:Oper):Option (Prop×SV):=
 match o.op with
 | .move x=>(opd ti E o.type x).map fun s=>(True,s)
 | .assign x=>(opd ti E o.type x).map fun s=>(True,s)
 | .load t a=>match opd ti E 0 a with
  |some (.p (.ps ds))=>some ((ti t).ok=true∧(ti t).sz≤ds.length,.v (ti t).agg ((ds.take (ti t).sz).map .s))
  |some (.p (.bx b off))=>match lkp E.bx b with
   |some ls=>some ((ti t).ok=true∧off+(ti t).sz≤ls.length,.v (ti t).agg ((ls.drop off).take (ti t).sz))
   |none=>none
  |some (.p (.pt p sz i off))=>match E.at_ p with
   |some (.o _ cols,.ls z rows)=>some ((ti t).ok=true∧E.vld p∧i<rows.length∧off+(ti t).sz≤z.length∧z.length=sz,
     .v (ti t).agg ((List.range' off (ti t).sz).map fun j=>toLV p i j (md cols i j) (lf z rows i j)))
   |_=>none
  |_=>none
 | .binOp op t x y _=>match opd ti E t x,opd ti E t y with
  |some a,some b=>match (ti t).isBool with
   |true=>match a,b with
    | .v false [.s (.sc (.bool u))],.v false [.s (.sc (.bool v))]=>(boolBin op u v).map fun r=>((ti t).ok=true,r.2)
    |_,_=>none
   |false=>match (ti t).eqb with
    |true=>eqSV ti op t a b
    |false=>binSV op a b
  |_,_=>none
 | .unOp .not _ x=>match opd ti E 0 x with
  |some (.v false [.s (.sc (.bool b))])=>some (True,bool (!b))
  |_=>none
 | .unOp .neg t x=>match opd ti E t x with
  |some (.v false [.s (.sc (.int k n))])=>some (True,int k (k.wrap (0-n)))
  |_=>none
 | .fieldAddr t x f=>match (ti t).fld f,opd ti E 0 x with
  |some (off,_),some (.p (.ps ds))=>some ((ti t).ok=true,.p (.ps (ds.drop off)))
  |some (off,_),some (.p (.bx b o))=>some ((ti t).ok=true,.p (.bx b (o+off)))
  |some (off,_),some (.p (.pt p sz i o))=>some ((ti t).ok=true,.p (.pt p sz i (o+off)))
  |_,_=>none
 | .field t x f=>match (ti t).fld f,opd ti E t x with
  |some (off,u),some (.v true ls)=>some ((ti t).ok=true∧(ti u).ok=true∧off+(ti u).sz≤ls.length,.v (ti u).agg ((ls.drop off).take (ti u).sz))
  |_,_=>none
 | .indexAddr t x ix=>match (ti t).elt,opd ti E t x,opd ti E 0 ix with
  |some e,some (.v false [.s (.ls z rows)]),some (.v false [.s (.sc (.int _ i))])=>
   some ((ti t).ok=true∧(ti e).ok=true∧(ti e).sz=z.length∧0≤i∧i<rows.length,.p (.ps (rows.getD i.toNat z)))
  |some e,some (.v false [.r p]),some (.v false [.s (.sc (.int _ i))])=>match E.at_ p with
   |some (.o _ _,.ls z rows)=>some ((ti t).ok=true∧(ti e).ok=true∧(ti e).sz=z.length∧E.vld p∧0≤i∧i<rows.length,.p (.pt p z.length i.toNat 0))
   |_=>none
  |_,_,_=>none
 | .index t x ix=>match opd ti E t x,opd ti E 0 ix with
  |some (.v false [.s (.sc (.string s))]),some (.v false [.s (.sc (.int _ i))])=>some ((ti t).ok=true∧(ti t).isStr=true∧0≤i∧i<s.size,int .u8 ((s.data.getD i.toNat 0).toNat:Int))
  |_,_=>none
 | .extract t ix=>match opd ti E 0 t with
  |some (.tu parts)=>match parts[ix]? with
   |some (a,ls)=>some (True,.v a ls)
   |none=>none
  |_=>none
 | .nilCheck x=>match opd ti E 0 x with
  |some (.p (.vw _ _ _ _))=>none
  |some (.p q)=>some (True,.p q)
  |some (.fn k caps)=>some (True,.fn k caps)
  |_=>none
 | .slice t x lo hi none=>match opd ti E t x with
  |some (.v false [.s (.sc (.string s))])=>match bnd s.size (hi.bind (opd ti E 0)) with
   |some (C,h)=>match bndL h (lo.bind (opd ti E 0)) with
    |some (D,l)=>some ((ti t).ok=true∧(ti t).isStr=true∧C∧D∧lo.isSome=(lo.bind (opd ti E 0)).isSome∧hi.isSome=(hi.bind (opd ti E 0)).isSome,str (s.extract l h))
    |none=>none
   |none=>none
  |some (.v false [.s (.ls z rows)])=>match bnd rows.length (hi.bind (opd ti E 0)),(ti t).elt with
   |some (C,h),some e=>match bndL h (lo.bind (opd ti E 0)) with
    |some (D,l)=>some ((ti t).ok=true∧(ti e).ok=true∧(ti e).sz=z.length∧C∧D∧lo.isSome=(lo.bind (opd ti E 0)).isSome∧hi.isSome=(hi.bind (opd ti E 0)).isSome,list z ((rows.take h).drop l))
    |none=>none
   |_,_=>none
  |some (.v false [.r p])=>match E.at_ p with
   |some (.o _ _,.ls z rows)=>match bnd rows.length (hi.bind (opd ti E 0)),(ti t).elt with
    |some (C,h),some e=>match bndL h (lo.bind (opd ti E 0)) with
     |some (D,l)=>some ((ti t).ok=true∧(ti e).ok=true∧(ti e).sz=z.length∧C∧D∧lo.isSome=(lo.bind (opd ti E 0)).isSome∧hi.isSome=(hi.bind (opd ti E 0)).isSome∧E.vld p,.p (.vw p z.length l (h-l)))
     |none=>none
    |_,_=>none
   |_=>none
  |_=>none
 | .convert src dst x=>match opd ti E src x,(ti dst).int?,(ti dst).isStr with
  |some (.v false [.s (.sc (.int _ n))]),some k,_=>some ((ti src).ok=true∧(ti dst).ok=true,int k (k.wrap n))
  |some (.v false [.s (.sc (.string s))]),_,true=>some ((ti src).ok=true∧(ti dst).ok=true,str s)
  |some (.v false [c]),_,true=>match E.rows c,(ti src).elt with
   |some (z,rows),some e=>some ((ti src).ok=true∧(ti dst).ok=true∧(ti e).ok=true∧(ti e).isU8=true∧z.length=1∧E.vldLV c∧E.bytM c∧ ∀row∈rows,isByteRow row,str ⟨(rows.map rowByte).toArray⟩)
   |_,_=>none
  |_,_,_=>none
 | .makeFunc f first caps=>purFn ti E f first.toList caps.toList
 | .build t parts=>match bparts ti E (ti t).fld parts.toList ((ti t).z.map zLV) with
  |some (C,l)=>some ((ti t).ok=true∧(ti t).agg=true∧C,.v true l)
  |none=>none
 | .call c=>purCall ti E o.type c.callee c.args.toList c.argTypes.toList
 |_=>none
end Go.Sm
namespace Go.Sm
open Go.RowKit
section all2
variable {α β : Type} {R : α → β → Prop}
theorem All2.len {as:List α} {bs:List β} (h:All2 R as bs):as.length=bs.length:=by
 induction h with
 |nil=>rfl
 |cons _ _ ih=>simp[ih]
theorem All2.get {as:List α} {bs:List β} (h:All2 R as bs): ∀ (j:Nat) (a:α) (b:β),as[j]? =some a→bs[j]? =some b→R a b:=by
 induction h with
 |nil=>intro j a b h1;simp at h1
 |cons h hs ih=>
  intro j a b h1 h2
  cases j with
  |zero=>
   simp only[List.getElem?_cons_zero,Option.some.injEq] at h1 h2
   subst h1
   subst h2
   exact h
  |succ j=>
   simp only[List.getElem?_cons_succ] at h1 h2
   exact ih j a b h1 h2
theorem All2.of_get: ∀ {as:List α} {bs:List β},as.length=bs.length→(∀ (j:Nat) (a:α) (b:β),as[j]? =some a→bs[j]? =some b→R a b)→All2 R as bs
 | [],[],_,_=> .nil
 | [],_::_,h,_=>by simp at h
 |_::_,[],h,_=>by simp at h
 |a::as,b::bs,h,hj=> .cons (hj 0 a b rfl rfl) (All2.of_get (by simpa using h) fun j x y h1 h2=>hj (j+1) x y (by simpa using h1) (by simpa using h2))
theorem All2.imp {R':α→β→Prop} {as:List α} {bs:List β} (h:All2 R as bs) (hi: ∀a b,R a b→R' a b):All2 R' as bs:=by
 induction h with
 |nil=>exact .nil
 |cons h _ ih=>exact .cons (hi _ _ h) ih
theorem All2.drop {as:List α} {bs:List β} (h:All2 R as bs) (n:Nat):All2 R (as.drop n) (bs.drop n):=
 .of_get (by simp[h.len]) fun j a b h1 h2=>h.get (n+j) a b (by simpa using h1) (by simpa using h2)
theorem All2.take {as:List α} {bs:List β} (h:All2 R as bs) (n:Nat):All2 R (as.take n) (bs.take n):=
 .of_get (by simp[h.len]) fun j a b h1 h2=>by
  rw[List.getElem?_take] at h1 h2
  split at h1
  ·rename_i hlt
   rw[if_pos hlt] at h2
   exact h.get j a b h1 h2
  ·cases h1
end all2
variable {P : Program} {ti : TT} {E : Env} {tag tag0 : Nat → Tag} {hv : Hv} {a : Act} {w w0 : World} {t : Nat}
theorem add_lit (b off j:Nat):(⟨b,off,none⟩:Addr).add j=⟨b,off+j,none⟩:=by
 unfold Addr.add
 split
 ·rename_i h;subst h;rfl
 ·rfl
namespace TI.good
theorem inf (g:(ti t).good P t): ∃x,P.info? t=some x∧x.size=(ti t).sz∧x.bytes=(ti t).by_∧x.zero=some (ti t).zv:=by
 obtain ⟨x,h1,h2⟩:=Option.map_eq_some_iff.1 g.info
 simp only[Prod.mk.injEq] at h2
 exact ⟨x,h1,h2.1,h2.2.1,h2.2.2⟩
theorem size (g:(ti t).good P t) (w:World):(sizeOf t).run P w= .ok (ti t).sz w:=by
 obtain ⟨x,h1,h2,_⟩:=g.inf
 simp[sizeOf,typeInfo,h1,h2]
theorem isAgg_run (g:(ti t).good P t) (w:World):(isAgg t).run P w= .ok (ti t).agg w:=by
 unfold isAgg
 rw[Sem.run_bind,run_underlying g.und w]
 simp only[Result.andThen_ok]
 cases hd:(ti t).desc<;>simp[TI.agg,hd]
 have h1:(ti t).agg=false:=by simp[TI.agg,hd]
 exact absurd hd ((g.na h1).2.2 _ _)
end TI.good
theorem mkV_load {agg:Bool} (g:(ti t).good P t) (ha:(ti t).agg=agg) (b off:Nat) (cs:List Value) (hl:cs.length=(ti t).sz) (hc: ∀j v,cs[j]? =some v→w.cell? ⟨b,off+j,none⟩=some v):
  (Instr.loadAt t (.pointer (some ⟨b,off,none⟩))).run P w= .ok (mkV agg cs) w:=by
 have hagg:=g.isAgg_run w
 have hsz:=g.size w
 simp only[Instr.loadAt,Instr.sureAddr,Sem.run_bind,Sem.run_pure,Result.andThen_ok,loadVar,hagg,ha]
 cases agg with
 |true=>
  have:=run_loadCells_list (P:=P) w ⟨b,off,none⟩ cs (fun j v hv=>by rw[add_lit];exact hc j v hv)
  rw[hl] at this
  simp[hsz,this,mkV]
 |false=>
  have h1:=(g.na ha).1
  match cs,hl with
  | [c],_=>
   have:=hc 0 c rfl
   simp only[Nat.add_zero] at this
   simp[this,mkV]
  | [],hl=>simp[h1] at hl
  |_::_::_,hl=>simp[h1] at hl
theorem VR_scal {v:Value} (h:scal v=true):VR tag hv w [] .s (.sc v) v:= .sc (by cases v<;>simp_all [scal,Value.oneCell'])
theorem cLV_ok: ∀ {z:Lf} {v:Value} {x:LV},cLV z v=some x→LR tag hv w x v:=by
 intro z v x h
 unfold cLV at h
 split at h
 ·cases h;rfl
 ·split at h
  ·cases h;exact VR_scal (by assumption)
  ·cases h
theorem cLVs_ok: ∀ {zs:List Lf} {vs:List Value} {xs:List LV},cLVs zs vs=some xs→All2 (LR tag hv w) xs vs
 | [],[],xs,h=>by
  simp only[cLVs,Option.some.injEq] at h
  subst h
  exact .nil
 | [],_::_,xs,h=>by simp[cLVs] at h
 |_::_,[],xs,h=>by simp[cLVs] at h
 |z::zs,v::vs,xs,h=>by
  simp only[cLVs] at h
  split at h
  ·rename_i x ys h1 h2
   cases h
   exact .cons (cLV_ok h1) (cLVs_ok h2)
  ·cases h
theorem VV_one {l:LV} {v:Value} (h:LR tag hv w l v):VV tag hv w false [l] v:=⟨[v],rfl,.cons h .nil,fun _=>rfl⟩
theorem VV_open {l:LV} {v:Value} (h:VV tag hv w false [l] v):LR tag hv w l v:=by
 obtain ⟨cs,rfl,h1,_⟩:=h
 cases h1 with
 |cons h hs=>
  cases hs
  exact h
theorem cSV_ok {T:Nat} {v:Value} {sv:SV} (h:cSV ti T v=some sv):SR tag hv w sv v:=by
 unfold cSV at h
 split at h
 ·split at h
  ·obtain ⟨ls,h1,rfl⟩:=Option.map_eq_some_iff.1 h
   exact ⟨_,by simp[mkV],cLVs_ok h1,by simp⟩
  ·cases h
 ·split at h
  ·cases h
   exact VV_one rfl
  ·cases h
 ·cases h
  trivial
 ·split at h
  ·cases h
   exact VV_one (VR_scal (by assumption))
  ·cases h
theorem opd_ok {T:Nat} {x:Operand} {sv:SV} (hs:St w0 tag0 E tag hv a w) (h:opd ti E T x=some sv):SR tag hv w sv (a.eval x):=by
 cases x with
 |tmp t=>exact hs.sl t sv h
 |const v=>exact cSV_ok h
 |global g=>simp[opd] at h
 |func k=>
  simp only[opd,Option.some.injEq] at h
  subst h
  exact ⟨[],rfl,.nil⟩
theorem at_ok {p:List Nat} {m:Md} {l:Lf} (hs:St w0 tag0 E tag hv a w) (h:E.at_ p=some (m,l)) (hv0:E.vld p): ∃v,VR tag hv w p m l v:=by
 match p,h,hv0 with
 |r::rest,h,hv0=>
  simp only[Env.at_] at h
  obtain ⟨x,h1,h2⟩:=Option.bind_eq_some_iff.1 h
  have hr:=hs.rt r x h1
  simp only[Env.vld,h1] at hv0
  obtain ⟨v',h5,_⟩:=VR.get rest _ _ _ _ m l hr hv0 h2
  exact ⟨v',by simpa using h5⟩
 | [],h,_=>simp[Env.at_] at h
theorem at_own {p:List Nat} {e:Nat} {cols:Nat→List Md} {z:List Lf} {rows:List (List Lf)} (hs:St w0 tag0 E tag hv a w) (h:E.at_ p=some (.o e cols,.ls z rows)) (hv0:E.vld p):VR tag hv w p (.o e cols) (.ls z rows) (hv p):=by
 obtain ⟨v,h1⟩:=at_ok hs h hv0
 have:=h1.open_own.1
 rw[this]
 exact h1
theorem LR_int {k:IntKind} {n:Int} {v:Value} (h:LR tag hv w (.s (.sc (.int k n))) v):v= .int k n:=by cases h;rfl
theorem LR_bool {b:Bool} {v:Value} (h:LR tag hv w (.s (.sc (.bool b))) v):v= .bool b:=by cases h;rfl
theorem LR_str {s:ByteArray} {v:Value} (h:LR tag hv w (.s (.sc (.string s))) v):v= .string s:=by cases h;rfl
theorem SR_int {k:IntKind} {n:Int} {v:Value} (h:SR tag hv w (.v false [.s (.sc (.int k n))]) v):v= .int k n:=LR_int (VV_open h)
theorem SR_bool {b:Bool} {v:Value} (h:SR tag hv w (.v false [.s (.sc (.bool b))]) v):v= .bool b:=LR_bool (VV_open h)
theorem SR_str {s:ByteArray} {v:Value} (h:SR tag hv w (.v false [.s (.sc (.string s))]) v):v= .string s:=LR_str (VV_open h)
theorem mk_int {k:IntKind} {n:Int}:SR tag hv w (int k n) (.int k n):=VV_one (.sc rfl)
theorem mk_bool {b:Bool}:SR tag hv w (bool b) (.bool b):=VV_one (.sc rfl)
theorem mk_str {s:ByteArray}:SR tag hv w (str s) (.string s):=VV_one (.sc rfl)
theorem sl_form {z:List Lf} {rows:List (List Lf)} {p:List Nat} {v:Value} (h:VR tag hv w p .s (.ls z rows) v):
  ∃A c,v= .slice A rows.length c∧rows.length≤c∧(0<rows.length→ ∃b off,A=some ⟨b,off,none⟩∧tag b= .sh∧
   (∀i,i<rows.length→(rows.getD i z).length=z.length)∧
   ∃cell:Nat→Nat→Value,(∀i j,i<rows.length→j<z.length→w.cell? ⟨b,off+(i*z.length+j),none⟩=some (cell i j))∧(∀i j,i<rows.length→j<z.length→VR tag hv w p .s (lf z rows i j) (cell i j))):=by
 cases h with
 |sh0=>exact ⟨_,_,rfl,by simp,fun h=>by simp at h⟩
 |sh cell hn hc ht hl hcell hr=>
  subst hn
  exact ⟨_,_,rfl,hc,fun _=>⟨_,_,rfl,ht,hl,cell,hcell,hr⟩⟩
theorem rows_form {c:LV} {z:List Lf} {rows:List (List Lf)} {v:Value} (hs:St w0 tag0 E tag hv a w) (h:E.rows c=some (z,rows)) (hv0:E.vldLV c) (hr:LR tag hv w c v):
  ∃A k,v= .slice A rows.length k:=by
 unfold Env.rows at h
 split at h
 ·cases h
  obtain ⟨A,c,h1,_⟩:=sl_form hr
  exact ⟨A,c,h1⟩
 ·cases h
  exact ⟨none,0,hr⟩
 ·rename_i p
  split at h
  ·rename_i e cols z' rows' h1
   cases h
   obtain ⟨h2,h3⟩:=(at_own hs h1 hv0).open_own
   rw[hr.1]
   rcases h3 with ⟨h4,h5⟩|⟨b,c,cur,h4,_⟩
   ·rw[h4,h5]
    exact ⟨none,0,rfl⟩
   ·rw[h4]
    exact ⟨_,_,rfl⟩
  ·cases h
 ·cases h
theorem bytes_form {c:LV} {z:List Lf} {rows:List (List Lf)} {v:Value} (hs:St w0 tag0 E tag hv a w) (h:E.rows c=some (z,rows)) (hv0:E.vldLV c) (hr:LR tag hv w c v) (hz:z.length=1) (hm:E.bytM c) (hb: ∀r∈rows,isByteRow r):
  ∃A k,v= .slice A rows.length k∧(0<rows.length→ ∃ad:Addr,A=some ad∧ ∀j (hj:j< (rows.map rowByte).length),w.cell? (ad.add j)=some (.int .u8 (((rows.map rowByte)[j]).toNat:Int))):=by
 have hcell: ∀ (p:List Nat) (j:Nat) (hj:j< (rows.map rowByte).length) (u:Value),VR tag hv w p .s (lf z rows j 0) u→u= .int .u8 (((rows.map rowByte)[j]).toNat:Int):=by
  intro p j hj u hu
  have hj':j<rows.length:=by simpa using hj
  obtain ⟨b,hbr⟩:=hb rows[j] (List.getElem_mem hj')
  have e:lf z rows j 0= .sc (.int .u8 (b.toNat:Int)):=by
   simp only[lf]
   rw[List.getD_eq_getElem?_getD (l:=rows),List.getElem?_eq_getElem hj',Option.getD_some,hbr]
   rfl
  rw[e] at hu
  cases hu
  rw[List.getElem_map,hbr]
  simp[rowByte,eByte]
 unfold Env.rows at h
 split at h
 ·rename_i z' rows'
  cases h
  obtain ⟨A,k,h1,h2,h3⟩:=sl_form hr
  refine ⟨A,k,h1,fun h0=> ?_⟩
  obtain ⟨b,off,rfl,_,_,cell,h4,h5⟩:=h3 h0
  refine ⟨_,rfl,fun j hj=> ?_⟩
  have hj':j<rows.length:=by simpa using hj
  have h6:=h4 j 0 hj' (by omega)
  rw[hcell _ j hj _ (h5 j 0 hj' (by omega)),hz] at h6
  rw[add_lit]
  simpa using h6
 ·cases h
  exact ⟨none,0,hr,fun h0=>by simp at h0⟩
 ·rename_i p
  split at h
  ·rename_i e cols z' rows' h1
   cases h
   have h2:=at_own hs h1 hv0
   obtain ⟨q1,q2⟩:=h2.open_own
   rw[hr.1]
   rcases q2 with ⟨q3,q4⟩|⟨b,c,cur,q3,_,_,_,q4,q5,_,q6⟩
   ·subst q4
    exact ⟨none,0,q3,fun h0=>by simp at h0⟩
   ·refine ⟨_,c,q3,fun _=>⟨_,rfl,fun j hj=> ?_⟩⟩
    have hj':j<rows.length:=by simpa using hj
    have h7:=q6 j 0 hj' (by omega)
    simp only[Env.bytM,h1] at hm
    rw[hm j,hz] at h7
    have h8:=hcell _ j hj _ h7
    have hlt:j<cur.size:=by
     rw[q5,hz]
     omega
    rw[add_lit]
    simp only[World.cell?,q4,Option.isSome_none,Bool.false_eq_true,if_false]
    simp only[Nat.mul_one,Nat.add_zero] at h8
    simp only[Nat.zero_add]
    rw[←h8]
    simp[Array.getD,hlt]
  ·cases h
 ·cases h
end Go.Sm
namespace Go.Sm
open Go.RowKit
variable {P : Program} {ti : TT} {E : Env} {tag tag0 : Nat → Tag} {hv : Hv} {a : Act} {w w0 : World} {t : Nat}
theorem intBin_ok {op:BinOp} {k:IntKind} {x y:Int} {C:Prop} {sv:SV} (h:intBin op k x y=some (C,sv)) (hC:C) (T:TypeId) (xo yo:Operand):
  ∃v,(do eqGuard op T xo yo (.int k x) (.int k y);binOp op T (.int k x) (.int k y):Sem Value).run P w= .ok v w∧SR tag hv w sv v:=by
 cases op<;>simp only[intBin,Option.some.injEq,Prod.mk.injEq,reduceCtorEq] at h<;>obtain ⟨rfl,rfl⟩:=h
 all_goals
  first|refine ⟨_, ?_,mk_int⟩|refine ⟨_, ?_,mk_bool⟩
  first
  |(simp[eqGuard,binOp,Op.intArith];done)
  |(simp[eqGuard,binOp,Op.intDiv,hC];done)
  |(simp only[eqGuard,binOp,Op.intBits];rfl)
  |(simp[eqGuard,binOp,Op.intBits];done)
  |(simp[eqGuard,binOp,Op.intCmp];done)
  |(simp[eqGuard,binOp,Op.intCmp];rfl)
theorem strBin_ok {op : BinOp} {x y : ByteArray} {C : Prop} {sv : SV} (h : strBin op x y = some (C, sv)) (hC : C) (T : TypeId) (xo yo : Operand) :
    ∃ v, (do eqGuard op T xo yo (.string x) (.string y); binOp op T (.string x) (.string y) : Sem Value).run P w = .ok v w ∧ SR tag hv w sv v := by
  cases op <;> simp only [strBin, Option.some.injEq, Prod.mk.injEq, reduceCtorEq] at h <;> obtain ⟨rfl, rfl⟩ := h
  all_goals
    first | refine ⟨_, ?_, mk_str⟩ | refine ⟨_, ?_, mk_bool⟩
    first
    | (have h3 : ¬ (9223372036854775807 < (x.size : Int) + (y.size : Int)) := by omega
       have h2 : IntKind.i64.max = 9223372036854775807 := by decide
       simp [eqGuard, binOp, Op.stringOp, h2, h3]; done)
    | (simp [eqGuard, binOp, Op.stringOp]; done)
    | (simp [eqGuard, binOp, Op.stringOp]; rfl)
theorem shiftBin_ok {op:BinOp} {k k':IntKind} {x y:Int} {C:Prop} {sv:SV} (h:shiftBin op k x y=some (C,sv)) (hC:C) (T:TypeId) (xo yo:Operand):
  ∃v,(do eqGuard op T xo yo (.int k x) (.int k' y);binOp op T (.int k x) (.int k' y):Sem Value).run P w= .ok v w∧SR tag hv w sv v:=by
 cases op<;>simp only[shiftBin,Option.some.injEq,Prod.mk.injEq,reduceCtorEq] at h<;>obtain ⟨rfl,rfl⟩:=h
 all_goals
  have hn: ¬y<0:=by omega
  exact ⟨_,by simp[eqGuard,binOp,Op.shift,hn],mk_int⟩
theorem boolBin_ok {ti:TT} (hT:TGood P ti) {op:BinOp} {T:TypeId} {x y:Bool} {C:Prop} {sv:SV} (hok:(ti T).ok=true) (hb:(ti T).isBool=true) (h:boolBin op x y=some (C,sv)) (xo yo:Operand):
  ∃v,(do eqGuard op T xo yo (.bool x) (.bool y);binOp op T (.bool x) (.bool y):Sem Value).run P w= .ok v w∧SR tag hv w sv v:=by
 have hu:P.underlying T=some .bool:=by
  have:=(hT T hok).und
  unfold TI.isBool at hb
  split at hb
  ·rename_i hd
   rw[this,hd]
  ·cases hb
 unfold boolBin at h
 split at h
 ·cases h
  exact ⟨.bool (x==y),by simp[eqGuard,binOp,Op.equal,Op.maxDepth,run_equalIn_bool' _ _ _ _ _ hu],mk_bool⟩
 ·cases h
  exact ⟨.bool (!(x==y)),by simp[eqGuard,binOp,Op.equal,Op.maxDepth,run_equalIn_bool' _ _ _ _ _ hu],mk_bool⟩
 ·cases h
theorem eqC_ok: ∀ {z:List Lf} {xs ys:List LV} {r:Bool} {cs ds:List Value},eqC z xs ys=some r→All2 (LR tag hv w) xs cs→All2 (LR tag hv w) ys ds→sameK z cs∧sameK z ds∧eqV cs ds=r:=by
 intro z xs ys
 fun_induction eqC z xs ys with
 |case1=>
  intro r cs ds h h1 h2
  cases h;cases h1;cases h2
  exact ⟨trivial,trivial,rfl⟩
 |case2 k _ z k1 a xs k2 b ys r0 he hk ih=>
  intro r cs ds h h1 h2
  cases h
  cases h1 with
  |cons h1 h1s=>
  cases h2 with
  |cons h2 h2s=>
  obtain ⟨q1,q2,q3⟩:=ih he h1s h2s
  rw[LR_int h1,LR_int h2]
  exact ⟨⟨hk.1,q1⟩,⟨hk.2,q2⟩,by simp[eqV,q3]⟩
 |case5 s0 z a xs b ys r0 he ih=>
  intro r cs ds h h1 h2
  cases h
  cases h1 with
  |cons h1 h1s=>
  cases h2 with
  |cons h2 h2s=>
  obtain ⟨q1,q2,q3⟩:=ih he h1s h2s
  rw[LR_str h1,LR_str h2]
  exact ⟨q1,q2,by simp[eqV,q3]⟩
 |case7 s0 z a xs b ys r0 he ih=>
  intro r cs ds h h1 h2
  cases h
  cases h1 with
  |cons h1 h1s=>
  cases h2 with
  |cons h2 h2s=>
  obtain ⟨q1,q2,q3⟩:=ih he h1s h2s
  rw[LR_bool h1,LR_bool h2]
  exact ⟨q1,q2,by simp[eqV,q3]⟩
 |_=>intro r cs ds h;cases h
theorem eqSV_ok (hT:TGood P ti) {op:BinOp} {T:Nat} {x y:SV} {X Y:Value} {C:Prop} {sv:SV} (hb:(ti T).eqb=true) (h:eqSV ti op T x y=some (C,sv)) (hC:C) (hx:SR tag hv w x X) (hy:SR tag hv w y Y) (xo yo:Operand):
  ∃v,(do eqGuard op T xo yo X Y;binOp op T X Y:Sem Value).run P w= .ok v w∧SR tag hv w sv v:=by
 unfold eqSV at h
 split at h
 ·rename_i ls ls'
  split at h
  ·rename_i r hr
   obtain ⟨cs,rfl,h1,_⟩:=hx
   obtain ⟨ds,rfl,h2,_⟩:=hy
   obtain ⟨q1,q2,q3⟩:=eqC_ok hr h1 h2
   obtain ⟨he,hg⟩:=hT.e T hb
   split at h
   ·cases h
    have he':=he 5000 w cs ds q1 q2
    rw[hC.2,q3] at he'
    simp only[mkV] at he'⊢
    exact ⟨.bool r,by rw[Sem.run_bind,run_eqGuard_agg w .eql T xo yo _ _ hg,Result.andThen_ok,run_eql_struct w T,he'];rfl,mk_bool⟩
   ·cases h
    have he':=he 5000 w cs ds q1 q2
    rw[hC.2,q3] at he'
    simp only[mkV] at he'⊢
    exact ⟨.bool (!r),by rw[Sem.run_bind,run_eqGuard_agg w .neq T xo yo _ _ hg,Result.andThen_ok,run_neq_struct w T,he'];rfl,mk_bool⟩
   ·cases h
  ·cases h
 ·cases h
theorem binSV_ok {op:BinOp} {x y:SV} {X Y:Value} {C:Prop} {sv:SV} (h:binSV op x y=some (C,sv)) (hC:C) (hx:SR tag hv w x X) (hy:SR tag hv w y Y) (T:TypeId) (xo yo:Operand):
  ∃v,(do eqGuard op T xo yo X Y;binOp op T X Y:Sem Value).run P w= .ok v w∧SR tag hv w sv v:=by
 unfold binSV at h
 split at h
 ·rw[SR_int hx,SR_int hy]
  exact shiftBin_ok h hC T xo yo
 ·rw[SR_int hx,SR_int hy]
  exact shiftBin_ok h hC T xo yo
 ·rw[SR_int hx,SR_int hy]
  split at h
  ·rename_i hk
   subst hk
   exact intBin_ok h hC T xo yo
  ·cases h
 ·rw[SR_str hx,SR_str hy]
  exact strBin_ok h hC T xo yo
 ·cases h
theorem run_binOp {o:Oper} {op:BinOp} {T yT:TypeId} {x y:Operand} {v:Value} (ho:o.op= .binOp op T x y yT) (h:(do eqGuard op T x y (a.eval x) (a.eval y);binOp op T (a.eval x) (a.eval y):Sem Value).run P w= .ok v w):
  (execOp a.eval o).run P w= .ok (.value v) w:=by
 simp only[Sem.run_bind] at h
 simp only[execOp,ho,Sem.run_bind,h,Result.andThen_ok,Sem.run_pure]
theorem run_fieldAt {f off u b k:Nat} (g:(ti t).good P t) (hf:(ti t).fld f=some (off,u)):(Instr.fieldAt t (.pointer (some ⟨b,k,none⟩)) f).run P w= .ok (.pointer (some ⟨b,k+off,none⟩)) w:=by
 obtain ⟨n,hn,hn0⟩:=g.fs f off u hf
 obtain ⟨i,hi,hin⟩:=Option.map_eq_some_iff.1 hn
 unfold TI.fld at hf
 split at hf
 ·rename_i fs hd
  obtain ⟨fl,hfl,h2⟩:=Option.map_eq_some_iff.1 hf
  simp only[Prod.mk.injEq] at h2
  obtain ⟨rfl,rfl⟩:=h2
  have hu:=g.und
  rw[hd] at hu
  have hne:i.size≠0:=by rw[hin];exact hn0
  simp[Instr.fieldAt,run_underlying hu,hfl,Instr.sureAddr,fieldPlace,sizeOf,typeInfo,hi,hne,add_lit]
 ·cases hf
theorem run_indexAt_sl {e:Nat} {A:Option Addr} {n c:Nat} {k:IntKind} {i:Int} {b off sz:Nat} (g:(ti t).good P t) (he:(ti t).elt=some e) (ge:(ti e).good P e) (hsz:(ti e).sz=sz)
  (h0:0≤i) (h1:i<n) (hA:A=some ⟨b,off,none⟩):(Instr.indexAt t (.slice A n c) (.int k i)).run P w= .ok (.pointer (some ⟨b,off+i.toNat*sz,none⟩)) w:=by
 unfold TI.elt at he
 split at he
 ·rename_i e' hd
  cases he
  have hu:=g.und
  rw[hd] at hu
  subst hA
  simp[Instr.indexAt,asIntOf,run_underlying hu,h0,h1,ge.size,hsz,add_lit]
 ·cases he
theorem bnd_ok {n:Nat} {x:Option Operand} {C:Prop} {h:Nat} {ti:TT} (hs:St w0 tag0 E tag hv a w) (hb:bnd n (x.bind (opd ti E 0))=some (C,h)) (hC:C) (hx:x.isSome=(x.bind (opd ti E 0)).isSome):
  (x=none∧h=n)∨ ∃y k i,x=some y∧a.eval y= .int k i∧0≤i∧i≤n∧h=i.toNat:=by
 cases x with
 |none=>
  simp only[Option.bind_none,bnd,Option.some.injEq,Prod.mk.injEq] at hb
  exact .inl ⟨rfl,hb.2.symm⟩
 |some y=>
  simp only[Option.bind_some] at hb hx
  cases ho:opd ti E 0 y with
  |none=>simp[ho] at hx
  |some sv=>
   rw[ho] at hb
   unfold bnd at hb
   split at hb
   ·rename_i heq;cases heq
   ·rename_i k i heq
    cases heq
    simp only[Option.some.injEq,Prod.mk.injEq] at hb
    obtain ⟨rfl,rfl⟩:=hb
    exact .inr ⟨y,k,i,rfl,SR_int (opd_ok hs ho),hC.1,hC.2,rfl⟩
   ·cases hb
theorem bndL_ok {n:Nat} {x:Option Operand} {C:Prop} {h:Nat} {ti:TT} (hs:St w0 tag0 E tag hv a w) (hb:bndL n (x.bind (opd ti E 0))=some (C,h)) (hC:C) (hx:x.isSome=(x.bind (opd ti E 0)).isSome):
  (x=none∧h=0)∨ ∃y k i,x=some y∧a.eval y= .int k i∧0≤i∧i≤n∧h=i.toNat:=by
 cases x with
 |none=>
  simp only[Option.bind_none,bndL,Option.some.injEq,Prod.mk.injEq] at hb
  exact .inl ⟨rfl,hb.2.symm⟩
 |some y=>
  simp only[Option.bind_some] at hb hx
  cases ho:opd ti E 0 y with
  |none=>simp[ho] at hx
  |some sv=>
   rw[ho] at hb
   unfold bndL at hb
   split at hb
   ·rename_i heq;cases heq
   ·rename_i k i heq
    cases heq
    simp only[Option.some.injEq,Prod.mk.injEq] at hb
    obtain ⟨rfl,rfl⟩:=hb
    exact .inr ⟨y,k,i,rfl,SR_int (opd_ok hs ho),hC.1,hC.2,rfl⟩
   ·cases hb
theorem run_bounds {isS:Bool} {len cap:Nat} {lo hi:Option Value} {h l:Nat} (hlc:len≤cap)
  (hh:(hi=none∧h=len)∨ ∃k i,hi=some (.int k i)∧0≤i∧i≤(len:Int)∧h=i.toNat) (hl:(lo=none∧l=0)∨ ∃k i,lo=some (.int k i)∧0≤i∧i≤(h:Int)∧l=i.toNat):
  (Instr.sliceBounds isS len cap lo hi none).run P w= .ok (l,h,cap) w:=by
 rcases hh with ⟨rfl,rfl⟩|⟨k,i,rfl,h0,h1,rfl⟩<;>rcases hl with ⟨rfl,rfl⟩|⟨k',i',rfl,h2,h3,rfl⟩
 ·simp[Instr.sliceBounds]
 ·simp[Instr.sliceBounds,Instr.sliceBound,asIntOf,h2,h3]
 ·have:i≤(cap:Int):=by omega
  simp[Instr.sliceBounds,Instr.sliceBound,asIntOf,h0,this]
 ·have h4:i≤(cap:Int):=by omega
  have h5: ¬max i 0<i':=by omega
  simp[Instr.sliceBounds,Instr.sliceBound,asIntOf,h0,h4,h2,h5]
theorem VR_cut {z:List Lf} {rows:List (List Lf)} {A:Option Addr} {n c l h:Nat} {p:List Nat} (hv0:VR tag hv w p .s (.ls z rows) (.slice A n c)) (hl:l≤h) (hh:h≤rows.length):
  VR tag hv w p .s (.ls z ((rows.take h).drop l)) (.slice (if c=l then A else A.map (·.add (l*z.length))) (h-l) (c-l)):=by
 have hlen:((rows.take h).drop l).length=h-l:=by simp;omega
 by_cases h0:h=l
 ·subst h0
  have:(rows.take h).drop h= []:=by simp
  rw[this,Nat.sub_self]
  exact .sh0
 ·cases hv0 with
  |sh0=>simp at hh;omega
  | @sh _ _ _ b off _ _ cell hn hc ht hrl hcell hr=>
   have hne:c≠l:=by omega
   simp only[hne,if_false,Option.map_some,add_lit]
   have hget: ∀i,i<h-l→((rows.take h).drop l).getD i z=rows.getD (l+i) z:=by
    intro i hi
    rw[List.getD_eq_getElem?_getD,List.getD_eq_getElem?_getD,List.getElem?_drop,List.getElem?_take,if_pos (by omega)]
   refine .sh (fun i j=>cell (l+i) j) hlen (by omega) ht (fun i hi=> ?_) (fun i j hi hj=> ?_) (fun i j hi hj=> ?_)
   ·rw[hget i hi]
    exact hrl _ (by omega)
   ·have:=hcell (l+i) j (by omega) hj
    rw[Nat.add_mul] at this
    rw[show off+l*z.length+(i*z.length+j)=off+(l*z.length+i*z.length+j) by omega]
    exact this
   ·have:=hr (l+i) j (by omega) hj
    simp only[lf] at this⊢
    rw[hget i hi]
    exact this
end Go.Sm
namespace Go.Sm
open Go.RowKit
variable {P : Program} {ti : TT} {E : Env} {tag tag0 : Nat → Tag} {hv : Hv} {a : Act} {w w0 : World} {t : Nat}
theorem take_all2_ps {ds:List Lf} {n b off:Nat} (hn:n≤ds.length) (hc: ∀j,j<ds.length→ ∃u,w.cell? ⟨b,off+j,none⟩=some u∧VR tag hv w [] .s (ds.getD j default) u):
  ∃cs:List Value,cs.length=n∧(∀j v,cs[j]? =some v→w.cell? ⟨b,off+j,none⟩=some v)∧All2 (LR tag hv w) ((ds.take n).map .s) cs:=by
 induction n with
 |zero=>exact ⟨[],rfl,fun j v h=>by simp at h,by simpa using .nil⟩
 |succ n ih=>
  obtain ⟨cs,h1,h2,h3⟩:=ih (by omega)
  obtain ⟨u,hu,hr⟩:=hc n (by omega)
  refine ⟨cs++ [u],by simp[h1],fun j v h=> ?_, ?_⟩
  ·rcases Nat.lt_or_ge j cs.length with hj|hj
   ·rw[List.getElem?_append_left hj] at h
    exact h2 j v h
   ·rw[List.getElem?_append_right hj] at h
    have:j=n:=by
     by_cases e:j-cs.length=0
     ·omega
     ·rw[List.getElem?_eq_none (by simp;omega)] at h;cases h
    subst this
    rw[←h1] at h
    simp only[Nat.sub_self,List.getElem?_cons_zero,Option.some.injEq] at h
    rw[←h]
    exact hu
  ·refine .of_get (by simp[h1];omega) fun j x y hx hy=> ?_
   rcases Nat.lt_or_ge j n with hj|hj
   ·refine h3.get j x y ?_ ?_
    ·rw[List.getElem?_map,List.getElem?_take,if_pos hj]
     rw[List.getElem?_map,List.getElem?_take,if_pos (by omega)] at hx
     exact hx
    ·rw[List.getElem?_append_left (by omega)] at hy
     exact hy
   ·have hj2:j=n:=by
     rcases Nat.lt_or_ge j (n+1) with h|h
     ·omega
     ·rw[List.getElem?_map,List.getElem?_take,if_neg (by omega)] at hx;simp at hx
    subst hj2
    rw[List.getElem?_append_right (by omega),h1] at hy
    simp only[Nat.sub_self,List.getElem?_cons_zero,Option.some.injEq] at hy
    rw[List.getElem?_map,List.getElem?_take,if_pos (by omega),List.getElem?_eq_getElem (by omega)] at hx
    simp only[Option.map_some,Option.some.injEq] at hx
    subst hx hy
    rw[List.getD_eq_getElem?_getD,List.getElem?_eq_getElem (by omega)] at hr
    exact hr
theorem toLV_ok {p:List Nat} {i j:Nat} {m:Md} {l:Lf} {v:Value} (h:VR tag hv w (p++ [i,j]) m l v):LR tag hv w (toLV p i j m l) v:=by
 cases m with
 |s=>
  show VR tag hv w [] .s l v
  refine h.move [] (fun b hb=>⟨hb,rfl⟩) (fun rest hrest=>by cases hrest)
 |x=>exact h.one
 |o e cols=>
  cases l with
  |sc u=>cases h
  |ls z rows=>
   obtain ⟨h1,h2⟩:=h.open_own
   refine ⟨h1.symm, ?_⟩
   rcases h2 with ⟨h3,_⟩|⟨b,c,cur,h3,_⟩
   ·exact ⟨_,_,_,h3⟩
   ·exact ⟨_,_,_,h3⟩
theorem row_all2_pt {p:List Nat} {e:Nat} {cols:Nat→List Md} {z:List Lf} {rows:List (List Lf)} {i off n b c:Nat} {cur:Array Value}
  (hb:w.heap[b]? =some (.cells cur e (0,0))) (hsz:cur.size=c*z.length) (hlc:rows.length≤c) (hi:i<rows.length)
  (hr: ∀i j,i<rows.length→j<z.length→VR tag hv w (p++ [i,j]) (md cols i j) (lf z rows i j) (cur.getD (i*z.length+j) default)) (hn:off+n≤z.length):
  ∃cs:List Value,cs.length=n∧(∀j v,cs[j]? =some v→w.cell? ⟨b,i*z.length+off+j,none⟩=some v)∧All2 (LR tag hv w) ((List.range' off n).map fun j=>toLV p i j (md cols i j) (lf z rows i j)) cs:=by
 have hlt: ∀j,j<z.length→i*z.length+j<cur.size:=by
  intro j hj
  rw[hsz]
  have h1:(i+1)*z.length≤c*z.length:=Nat.mul_le_mul_right _ (by omega)
  rw[Nat.add_mul] at h1
  omega
 refine ⟨(List.range' off n).map fun j=>cur.getD (i*z.length+j) default,by simp,fun j v h=> ?_, ?_⟩
 ·rw[List.getElem?_map,Option.map_eq_some_iff] at h
  obtain ⟨k,hk,rfl⟩:=h
  have hj:j<n:=by
   have:=(List.getElem?_eq_some_iff.1 hk).1
   simpa using this
  rw[List.getElem?_range' (by omega)] at hk
  cases hk
  have:=hlt (off+j) (by omega)
  rw[Nat.one_mul] at*
  simp only[World.cell?,hb,Option.isSome_none,Bool.false_eq_true,if_false]
  rw[show i*z.length+off+j=i*z.length+(off+j) by omega]
  simp[Array.getD,this]
 ·refine .of_get (by simp) fun j x y hx hy=> ?_
  rw[List.getElem?_map,Option.map_eq_some_iff] at hx hy
  obtain ⟨k,hk,rfl⟩:=hx
  obtain ⟨k',hk',rfl⟩:=hy
  rw[hk] at hk'
  cases hk'
  have hj:j<n:=by
   have:=(List.getElem?_eq_some_iff.1 hk).1
   simpa using this
  rw[List.getElem?_range' (by omega)] at hk
  cases hk
  exact toLV_ok (hr i _ hi (by omega))
theorem run_len_sl {e:Nat} {A:Option Addr} {n c:Nat} (g:(ti t).good P t) (he:(ti t).elt=some e) (T:TypeId):(Builtin.len_ #[t] T #[.slice A n c]).run P w= .ok (.int .i64 n) w:=by
 unfold TI.elt at he
 split at he
 ·rename_i e' hd
  cases he
  have hu:=g.und
  rw[hd] at hu
  simp[Builtin.len_,run_underlying hu,goInt]
 ·cases he
theorem isStr_und (g:(ti t).good P t) (h:(ti t).isStr=true):P.underlying t=some .string:=by
 unfold TI.isStr at h
 split at h
 ·rename_i hd
  have hu:=g.und
  rwa [hd] at hu
 ·cases h
theorem elt_und {e:Nat} (g:(ti t).good P t) (h:(ti t).elt=some e):P.underlying t=some (.slice e):=by
 unfold TI.elt at h
 split at h
 ·rename_i hd
  have hu:=g.und
  rw[hd] at hu
  cases h
  exact hu
 ·cases h
theorem run_part {cs:List Value} {off:Nat} (g:(ti t).good P t) (hl:off+(ti t).sz≤cs.length):(part t cs.toArray off).run P w= .ok (mkV (ti t).agg ((cs.drop off).take (ti t).sz)) w:=by
 simp only[part,Sem.run_bind,g.isAgg_run w,Result.andThen_ok]
 cases ha:(ti t).agg with
 |true=>simp[g.size,mkV]
 |false=>
  have h1:=(g.na ha).1
  rw[h1] at hl⊢
  have h2:cs[off]? =some cs[off]:=List.getElem?_eq_getElem (by omega)
  have h3:(cs.drop off).take 1= [cs[off]]:=by
   rw[List.drop_eq_getElem_cons (by omega)]
   rfl
  simp[h2,h3,mkV]
theorem capsO_ok (hs:St w0 tag0 E tag hv a w): ∀ {xs:List Operand} {qs:List PV},capsO ti E xs=some qs→All2 (PR tag hv w) qs (xs.map a.eval)
 | [],qs,h=>by
  simp only[capsO,Option.some.injEq] at h
  subst h
  exact .nil
 |x::r,qs,h=>by
  simp only[capsO] at h
  split at h
  ·rename_i q qs' h1 h2
   cases h
   exact .cons (opd_ok hs h1) (capsO_ok hs h2)
  ·cases h
theorem purFn_ok {o:Oper} {f:Fn} {first caps:Array Operand} {C:Prop} {sv:SV} (hs:St w0 tag0 E tag hv a w) (ho:o.op= .makeFunc f first caps) (h:purFn ti E f first.toList caps.toList=some (C,sv)) (_hC:C):
  ∃v,(execOp a.eval o).run P w= .ok (.value v) w∧SR tag hv w sv v:=by
 unfold purFn at h
 split at h
 ·rename_i k hl
  have h0:first= #[]:=by
   apply Array.ext'
   simpa using hl
  split at h
  ·rename_i qs hq
   cases h
   subst h0
   refine ⟨.func (.func k) #[] (caps.map a.eval),by simp[execOp,ho,Instr.makeFunc],(caps.map a.eval).toList,rfl, ?_⟩
   rw[Array.toList_map]
   exact capsO_ok hs hq
  ·cases h
 ·cases h
theorem purCall_ok {o:Oper} {c:Call} {C:Prop} {sv:SV} (hT:TGood P ti) (hs:St w0 tag0 E tag hv a w) (ho:o.op= .call c) (h:purCall ti E o.type c.callee c.args.toList c.argTypes.toList=some (C,sv)) (hC:C):
  ∃v,(execOp a.eval o).run P w= .ok (.value v) w∧SR tag hv w sv v:=by
 obtain ⟨f,args,ats⟩:=c
 unfold purCall at h
 simp only at h
 split at h
 ·
  split at h
  ·rename_i x t h1 h2
   have e1:args= #[x]:=by apply Array.ext';simpa using h1
   have e2:ats= #[t]:=by apply Array.ext';simpa using h2
   subst e1 e2
   split at h
   ·rename_i p sz lo n hx
    cases h
    obtain ⟨e,he⟩:=Option.isSome_iff_exists.1 hC.2
    obtain ⟨A,k,h1⟩: ∃A k,a.eval x= .slice A n k:=by
     rcases (opd_ok hs hx:PR tag hv w (.vw p sz lo n) _) with ⟨b,N,k,o,_,h1,_⟩|⟨_,h1,rfl,_⟩
     ·exact ⟨_,_,h1⟩
     ·exact ⟨_,_,h1⟩
    have:=run_len_sl (P:=P) (w:=w) (A:=A) (n:=n) (c:=k) (hT t hC.1) he o.type
    exact ⟨_,by simp[execOp,ho,resolve,invoke,builtin,h1,this],mk_int⟩
   ·rename_i s hx
    cases h
    have hxv:=SR_str (opd_ok hs hx)
    have hu:=isStr_und (hT t hC.1) hC.2
    exact ⟨_,by simp[execOp,ho,resolve,invoke,builtin,Builtin.len_,hxv,run_underlying hu,goInt],mk_int⟩
   ·rename_i c _ hx
    split at h
    ·rename_i z rows hrows
     cases h
     obtain ⟨A,k,h1⟩:=rows_form hs hrows hC.2.2 (VV_open (opd_ok hs hx))
     obtain ⟨e,he⟩:=Option.isSome_iff_exists.1 hC.2.1
     have:=run_len_sl (P:=P) (w:=w) (A:=A) (n:=rows.length) (c:=k) (hT t hC.1) he o.type
     exact ⟨_,by simp[execOp,ho,resolve,invoke,builtin,h1,this],mk_int⟩
    ·cases h
   ·cases h
  ·cases h
 ·
  split at h
  ·rename_i x y h1
   have e1:args= #[x,y]:=by apply Array.ext';simpa using h1
   subst e1
   split at h
   ·rename_i k n k' m hx hy
    cases h
    have h1:=SR_int (opd_ok hs hx)
    have h2:=SR_int (opd_ok hs hy)
    exact ⟨_,by simp[execOp,ho,resolve,invoke,builtin,h1,h2,Builtin.min_,Builtin.min2],mk_int⟩
   ·cases h
  ·cases h
 ·
  split at h
  ·rename_i x y h1
   have e1:args= #[x,y]:=by apply Array.ext';simpa using h1
   subst e1
   split at h
   ·rename_i k n k' m hx hy
    cases h
    have h1:=SR_int (opd_ok hs hx)
    have h2:=SR_int (opd_ok hs hy)
    exact ⟨_,by simp[execOp,ho,resolve,invoke,builtin,h1,h2,Builtin.max_,Builtin.max2],mk_int⟩
   ·cases h
  ·cases h
 ·cases h
theorem foldl_setM {α:Type} [Inhabited α]: ∀ (l:List α) (k off:Nat) (cs:Array α),((l.zipIdx k).foldl (fun cs (x:α×Nat)=>cs.setIfInBounds (off+x.2) x.1) cs).toList=setM cs.toList (off+k) l
 | [],_,_,_=>rfl
 |y::r,k,off,cs=>by
  simp only[List.zipIdx_cons,List.foldl_cons,setM]
  rw[foldl_setM r (k+1) off,Array.toList_setIfInBounds]
  rfl
theorem All2.setM {α β:Type} {R:α→β→Prop} {new:List α} {vs:List β} (hn:All2 R new vs): ∀ {ls:List α} {cs:List β} {off:Nat},All2 R ls cs→All2 R (setM ls off new) (Go.Sm.setM cs off vs):=by
 induction hn with
 |nil=>exact fun h=>h
 | @cons x y xs ys h _ ih=>
  intro ls cs off hl
  simp only[Go.Sm.setM]
  refine ih (.of_get (by simp[hl.len]) fun j u v hu hv=> ?_)
  rw[List.getElem?_set] at hu hv
  split at hu
  ·rename_i he
   rw[if_pos he] at hv
   split at hu
   ·split at hv
    ·cases hu;cases hv;exact h
    ·cases hv
   ·cases hu
  ·rename_i he
   rw[if_neg he] at hv
   exact hl.get j u v hu hv
theorem LR.one {x:LV} {c:Value} (h:LR tag hv w x c):c.oneCell'=true:=by
 cases x with
 |s l=>exact VR.one h
 |n z=>simp only[LR] at h;rw[h];rfl
 |r p=>
  obtain ⟨_,A,n,c',h2⟩:=h
  rw[h2];rfl
 |u=>exact h
theorem cells_mkV {ag:Bool} {ls:List LV} {cs:List Value} (h:All2 (LR tag hv w) ls cs) (h1:ag=false→ls.length=1):(mkV ag cs).cells.toList=cs:=by
 cases ag with
 |true=>simp[mkV,Value.cells]
 |false=>
  have hl:=h1 rfl
  rw[h.len] at hl
  match cs,hl,h with
  | [c],_,h=>
   have hone:c.oneCell'=true:=by
    cases h with
    | @cons x _ _ _ h _=>
     cases x with
     |s l=>exact VR.one h
     |n z=>simp only[LR] at h;rw[h];rfl
     |r p=>
      obtain ⟨_,A,n,c',h2⟩:=h
      rw[h2];rfl
     |u=>exact h
   cases c<;>simp_all [mkV,Value.cells,Value.oneCell']
theorem zLV_ok (g:(ti t).good P t):All2 (LR tag hv w) ((ti t).z.map zLV) (ti t).zv.cells.toList:=by
 rw[g.zc]
 refine .of_get (by simp) fun j x y hx hy=> ?_
 rw[List.getElem?_map,Option.map_eq_some_iff] at hx hy
 obtain ⟨l,h1,rfl⟩:=hx
 obtain ⟨l',h2,rfl⟩:=hy
 rw[h1] at h2
 cases h2
 rcases g.zf l (List.mem_of_getElem? h1) with ⟨v,rfl,hv⟩|⟨zz,rfl⟩
 ·exact VR_scal hv
 ·rfl
theorem bparts_ok (hs:St w0 tag0 E tag hv a w) {place:Nat→Option (Nat×Nat)} {pl:Nat→Option (Nat×Nat)} (hpl: ∀i off u,place i=some (off,u)→(ti u).ok=true→pl i=some (off,(ti u).sz)):
  ∀ {parts:List (Nat×Operand)} {ls l:List LV} {C:Prop} {cs:Array Value},bparts ti E place parts ls=some (C,l)→C→All2 (LR tag hv w) ls cs.toList→
  ∃cs',Instr.fill pl cs (parts.map fun q=>(q.1,a.eval q.2))=some cs'∧All2 (LR tag hv w) l cs'.toList
 | [],ls,l,C,cs,h,hC,hall=>by
  simp only[bparts,Option.some.injEq,Prod.mk.injEq] at h
  obtain ⟨_,rfl⟩:=h
  exact ⟨cs,rfl,hall⟩
 |(i,x)::r,ls,l,C,cs,h,hC,hall=>by
  simp only[bparts] at h
  split at h
  ·rename_i off u hp
   split at h
   ·rename_i ag new hx
    split at h
    ·rename_i C1 l1 hb
     cases h
     obtain ⟨⟨h1,h2,h3⟩,hC1⟩:=hC
     obtain ⟨vs,h4,h5,h6⟩:=opd_ok hs hx
     have hcells:(a.eval x).cells.toList=vs:=by rw[h4];exact cells_mkV h5 h6
     have hsz:(a.eval x).cells.size=(ti u).sz:=by rw[←Array.length_toList,hcells,←h5.len,h2]
     have hcl:cs.size=ls.length:=by rw[hall.len];simp
     have hset:(((a.eval x).cells.zipIdx).foldl (fun cs (x:Value×Nat)=>cs.setIfInBounds (off+x.2) x.1) cs).toList=setM cs.toList off vs:=by
      rw[←Array.foldl_toList,Array.toList_zipIdx,foldl_setM,hcells,Nat.add_zero]
     have hall':All2 (LR tag hv w) (setM ls off new) (((a.eval x).cells.zipIdx).foldl (fun cs (x:Value×Nat)=>cs.setIfInBounds (off+x.2) x.1) cs).toList:=by
      rw[hset]
      exact All2.setM h5 hall
     obtain ⟨cs',h7,h8⟩:=bparts_ok hs hpl hb hC1 hall'
     refine ⟨cs', ?_,h8⟩
     simp only[List.map_cons,Instr.fill,hpl i off u hp h1]
     rw[if_neg (by simp[hsz];rw[hcl,←h2];exact h3)]
     exact h7
    ·cases h
   ·cases h
  ·cases h
theorem run_build {o:Oper} {parts:Array (Nat×Operand)} {l:List LV} {C:Prop} (hT:TGood P ti) (hs:St w0 tag0 E tag hv a w) (ho:o.op= .build t parts) (ht:(ti t).ok=true) (hag:(ti t).agg=true)
  (h:bparts ti E (ti t).fld parts.toList ((ti t).z.map zLV)=some (C,l)) (hC:C): ∃v,(execOp a.eval o).run P w= .ok (.value v) w∧VV tag hv w true l v:=by
 have g:=hT t ht
 obtain ⟨x,h1,h2,h3,h4⟩:=g.inf
 obtain ⟨fs,hfs⟩: ∃fs,(ti t).desc= .struct fs:=by
  unfold TI.agg at hag
  split at hag
  ·rename_i fs hd;exact ⟨fs,hd⟩
  ·cases hag
 have hund:P.underlying t=some (.struct fs):=by rw[g.und,hfs]
 have hpl: ∃places:Array (Nat×Nat),(fs.mapM fun (f:Field)=>(do pure (f.offset,←sizeOf f.type):Sem (Nat×Nat))).run P w= .ok places w∧ ∀i off u,(ti t).fld i=some (off,u)→(ti u).ok=true→places[i]? =some (off,(ti u).sz):=by
  have key: ∀ (l:List Field),(∀ (i:Nat) (f:Field),l[i]? =some f→ ∃n,(P.info? f.type).map (·.size)=some n)→ ∃places:List (Nat×Nat),(l.mapM fun (f:Field)=>(do pure (f.offset,←sizeOf f.type):Sem (Nat×Nat))).run P w= .ok places w∧
    ∀ (i:Nat) (f:Field),l[i]? =some f→(ti f.type).ok=true→places[i]? =some (f.offset,(ti f.type).sz):=by
   intro l
   induction l with
   |nil=>exact fun _=>⟨[],rfl,fun i f h=>by simp at h⟩
   |cons f r ih=>
    intro hl
    obtain ⟨ps,q1,q2⟩:=ih (fun i f h=>hl (i+1) f (by simpa using h))
    obtain ⟨n,hn⟩:=hl 0 f rfl
    obtain ⟨y,hy1,hy2⟩:=Option.map_eq_some_iff.1 hn
    refine ⟨(f.offset,n)::ps, ?_,fun i f' hi hok=> ?_⟩
    ·rw[List.mapM_cons]
     simp only[Sem.run_bind,sizeOf,typeInfo,run_program,hy1,Sem.run_pure,Result.andThen_ok,hy2]
     simp only[sizeOf,typeInfo] at q1
     rw[q1]
     rfl
    ·cases i with
     |zero=>
      simp only[List.getElem?_cons_zero,Option.some.injEq] at hi
      subst hi
      obtain ⟨y',hz1,hz2,_⟩:=(hT _ hok).inf
      rw[hy1] at hz1
      cases hz1
      simp[←hy2,hz2]
     |succ i=>
      simp only[List.getElem?_cons_succ] at hi⊢
      exact q2 i f' hi hok
  obtain ⟨ps,q1,q2⟩:=key fs.toList (fun i f hi=>by
   have hf:(ti t).fld i=some (f.offset,f.type):=by
    simp only[TI.fld,hfs]
    rw[←Array.getElem?_toList,hi]
    rfl
   obtain ⟨n,h5,_⟩:=g.fs i _ _ hf
   exact ⟨n,h5⟩)
  refine ⟨ps.toArray, ?_,fun i off u hf hok=> ?_⟩
  ·rw[Array.mapM_eq_mapM_toList,Sem.run_map,q1]
   rfl
  ·simp only[TI.fld,hfs] at hf
   obtain ⟨f,h5,h6⟩:=Option.map_eq_some_iff.1 hf
   simp only[Prod.mk.injEq] at h6
   obtain ⟨rfl,rfl⟩:=h6
   have:=q2 i f (by rw[Array.getElem?_toList];exact h5) hok
   simpa using this
 obtain ⟨places,hp1,hp2⟩:=hpl
 obtain ⟨cs',h5,h6⟩:=bparts_ok hs (pl:=fun i=>places[i]?) hp2 h hC (zLV_ok g)
 refine ⟨.agg cs', ?_,cs'.toList,rfl,h6,fun hf=>by cases hf⟩
 have h7:(parts.map fun (x:Nat×Operand)=>(x.1,a.eval x.2)).toList=parts.toList.map fun q=>(q.1,a.eval q.2):=by simp
 simp only[execOp,ho,Instr.build,zeroValue,typeInfo,Sem.run_bind,run_program,h1,h4,Sem.run_pure,Result.andThen_ok,run_underlying hund,hp1,h7,h5]
theorem pur_ok (hT:TGood P ti) {o:Oper} {C:Prop} {sv:SV} (hs:St w0 tag0 E tag hv a w) (h:pur ti E o=some (C,sv)) (hC:C):
  ∃v,(execOp a.eval o).run P w= .ok (.value v) w∧SR tag hv w sv v:=by
 unfold pur at h
 split at h
 ·
  rename_i x ho
  obtain ⟨s,h1,h2⟩:=Option.map_eq_some_iff.1 h
  cases h2
  exact ⟨a.eval x,by simp[execOp,ho],opd_ok hs h1⟩
 ·
  rename_i x ho
  obtain ⟨s,h1,h2⟩:=Option.map_eq_some_iff.1 h
  cases h2
  exact ⟨a.eval x,by simp[execOp,ho],opd_ok hs h1⟩
 ·
  rename_i t ad ho
  split at h
  ·rename_i ds hd
   cases h
   obtain ⟨b,off,h1,h2,h3⟩:=opd_ok hs hd
   obtain ⟨cs,h4,h5,h6⟩:=take_all2_ps hC.2 h3
   have g:=hT t hC.1
   have:=mkV_load (agg:=(ti t).agg) g rfl b off cs h4 h5
   refine ⟨_,by simp[execOp,ho,h1,this],cs,rfl,h6,fun hf=> ?_⟩
   rw[h6.len,h4]
   exact (g.na hf).1
  ·rename_i bb off hd
   split at h
   ·rename_i ls hbx
    cases h
    obtain ⟨k,h1,h2⟩:=opd_ok hs hd
    obtain ⟨k',cur,e,h3,ht,hb,hall⟩:=hs.bx bb ls hbx
    rw[h1] at h3
    cases h3
    have g:=hT t hC.1
    have hlen:off+(ti t).sz≤cur.toList.length:=by rw[←hall.len];exact hC.2
    have:=mkV_load (P:=P) (w:=w) (agg:=(ti t).agg) g rfl k off ((cur.toList.drop off).take (ti t).sz) (by simp only[List.length_take,List.length_drop];omega) (fun j v hj=>by
     rw[List.getElem?_take] at hj
     split at hj
     ·rw[List.getElem?_drop] at hj
      simp only[World.cell?,hb,Option.isSome_none,Bool.false_eq_true,if_false]
      simpa using hj
     ·cases hj)
    refine ⟨_,by simp only[execOp,ho,h2,Sem.run_bind,this,Result.andThen_ok,Sem.run_pure],_,rfl,(hall.drop off).take _,fun hf=> ?_⟩
    rw[((hall.drop off).take _).len,List.length_take,List.length_drop]
    have:=(g.na hf).1
    omega
   ·cases h
  ·rename_i p sz i off hd
   split at h
   ·rename_i e cols z rows hat
    cases h
    obtain ⟨hok,hvld,hi,hn,hz⟩:=hC
    obtain ⟨b,n,c,h1,h2⟩:=opd_ok hs hd
    have h3:=(at_own hs hat hvld).open_own
    rcases h3 with ⟨_,h4|⟨b',c',cur,h4,hlc,hm,ht,hb,hcs,hl,hr⟩⟩
    ·rw[h4.2] at hi;simp at hi
    ·rw[h1] at h4
     cases h4
     obtain ⟨cs,h5,h6,h7⟩:=row_all2_pt hb hcs hlc hi hr hn
     have g:=hT t hok
     have:=mkV_load (agg:=(ti t).agg) g rfl b _ cs h5 h6
     subst hz
     refine ⟨_,by simp[execOp,ho,h2,this],cs,rfl,h7,fun hf=> ?_⟩
     rw[h7.len,h5]
     exact (g.na hf).1
   ·cases h
  ·cases h
 ·
  rename_i op t x y yt ho
  split at h
  ·rename_i A B hA hB
   split at h
   ·rename_i hbt
    split at h
    ·rename_i u1 u2
     obtain ⟨⟨C',sv'⟩,hb,h3⟩:=Option.map_eq_some_iff.1 h
     simp only[Prod.mk.injEq] at h3
     obtain ⟨rfl,rfl⟩:=h3
     have e1:=SR_bool (opd_ok hs hA)
     have e2:=SR_bool (opd_ok hs hB)
     obtain ⟨v,h1,h2⟩:=boolBin_ok (P:=P) (w:=w) (tag:=tag) (hv:=hv) hT hC hbt hb x y
     rw[←e1,←e2] at h1
     exact ⟨v,run_binOp ho h1,h2⟩
    ·cases h
   ·split at h
    ·rename_i he
     obtain ⟨v,h1,h2⟩:=eqSV_ok (P:=P) (w:=w) hT he h hC (opd_ok hs hA) (opd_ok hs hB) x y
     exact ⟨v,run_binOp ho h1,h2⟩
    ·obtain ⟨v,h1,h2⟩:=binSV_ok (P:=P) (w:=w) h hC (opd_ok hs hA) (opd_ok hs hB) t x y
     exact ⟨v,run_binOp ho h1,h2⟩
  ·cases h
 ·
  rename_i t x ho
  split at h
  ·rename_i b hx
   cases h
   have:=SR_bool (opd_ok hs hx)
   exact ⟨.bool (!b),by simp[execOp,ho,this,Op.unary],mk_bool⟩
  ·cases h
 ·
  rename_i t x ho
  split at h
  ·rename_i k n hx
   cases h
   have:=SR_int (opd_ok hs hx)
   exact ⟨_,by simp[execOp,ho,this,Op.unary,Op.intArith],mk_int⟩
  ·cases h
 ·
  rename_i t x f ho
  split at h
  ·rename_i off u ds hf hx
   cases h
   obtain ⟨b,k,h1,h2,h3⟩:=opd_ok hs hx
   have:=run_fieldAt (P:=P) (w:=w) (b:=b) (k:=k) (hT t hC) hf
   refine ⟨_,by simp[execOp,ho,h1,this],b,k+off,rfl,h2,fun j hj=> ?_⟩
   rw[List.length_drop] at hj
   obtain ⟨u,h4,h5⟩:=h3 (off+j) (by omega)
   refine ⟨u,by rw[Nat.add_assoc];exact h4, ?_⟩
   rw[List.getD_eq_getElem?_getD,List.getElem?_drop,←List.getD_eq_getElem?_getD]
   exact h5
  ·rename_i off u bb o hf hx
   cases h
   obtain ⟨k,h1,h2⟩:=opd_ok hs hx
   have:=run_fieldAt (P:=P) (w:=w) (b:=k) (k:=o) (hT t hC) hf
   exact ⟨.pointer (some ⟨k,o+off,none⟩),by simp[execOp,ho,h2,this],k,h1,rfl⟩
  ·rename_i off u p sz i k hf hx
   cases h
   obtain ⟨b,n,c,h1,h2⟩:=opd_ok hs hx
   have:=run_fieldAt (P:=P) (w:=w) (b:=b) (k:=i*sz+k) (hT t hC) hf
   exact ⟨.pointer (some ⟨b,i*sz+k+off,none⟩),by simp[execOp,ho,h2,this],b,n,c,h1,by rw[Nat.add_assoc]⟩
  ·cases h
 ·
  rename_i t x f ho
  split at h
  ·rename_i off u ls hf hx
   cases h
   obtain ⟨cs,h1,h2,_⟩:=opd_ok hs hx
   have g:=hT t hC.1
   have gu:=hT u hC.2.1
   have hl:off+(ti u).sz≤cs.length:=by rw[←h2.len];exact hC.2.2
   have hp:=run_part (P:=P) (w:=w) gu hl
   refine ⟨mkV (ti u).agg ((cs.drop off).take (ti u).sz), ?_,_,rfl,(h2.drop off).take _,fun hf2=> ?_⟩
   ·unfold TI.fld at hf
    split at hf
    ·rename_i fs hd
     obtain ⟨fl,hfl,h3⟩:=Option.map_eq_some_iff.1 hf
     simp only[Prod.mk.injEq] at h3
     obtain ⟨rfl,rfl⟩:=h3
     have hu:=g.und
     rw[hd] at hu
     simp[execOp,ho,h1,mkV,Instr.field,run_underlying hu,hfl,asAgg,hp]
    ·cases hf
   ·have:=(gu.na hf2).1
    simp only[List.length_take,List.length_drop,h2.len]
    omega
  ·cases h
 ·
  rename_i t x ix ho
  split at h
  ·rename_i e z rows k i he hx hix
   cases h
   obtain ⟨h1,h2,h3,h4,h5⟩:=hC
   obtain ⟨n,rfl⟩:=Int.eq_ofNat_of_zero_le h4
   have h5':n<rows.length:=by omega
   obtain ⟨A,c,hv1,hc,hcs⟩:=sl_form (VV_open (opd_ok hs hx))
   obtain ⟨b,off,hA,ht,hl,cell,hcell,hr⟩:=hcs (by omega)
   have hi:=SR_int (opd_ok hs hix)
   have:=run_indexAt_sl (P:=P) (w:=w) (k:=k) (n:=rows.length) (c:=c) (hT t h1) he (hT e h2) h3 h4 h5 hA
   refine ⟨_,by simp[execOp,ho,hv1,hi,this];rfl,b,_,rfl,ht,fun j hj=>⟨cell n j, ?_, ?_⟩⟩
   ·simp only[Int.toNat_natCast] at hj⊢
    rw[hl n h5'] at hj
    rw[Nat.add_assoc]
    exact hcell n j h5' hj
   ·simp only[Int.toNat_natCast] at hj⊢
    rw[hl n h5'] at hj
    exact (hr n j h5' hj)
  ·rename_i e p k i he hx hix
   split at h
   ·rename_i e' cols z rows hat
    cases h
    obtain ⟨h1,h2,h3,hvld,h4,h5⟩:=hC
    obtain ⟨n,rfl⟩:=Int.eq_ofNat_of_zero_le h4
    have h5':n<rows.length:=by omega
    have hxv:=(VV_open (opd_ok hs hx)).1
    have hi:=SR_int (opd_ok hs hix)
    rcases (at_own hs hat hvld).open_own with ⟨_,h6|⟨b',c',cur,h6,hlc,hm,ht,hb,hcs,hl,hr⟩⟩
    ·rw[h6.2] at h5';simp at h5'
    ·have:=run_indexAt_sl (P:=P) (w:=w) (k:=k) (n:=rows.length) (c:=c') (hT t h1) he (hT e h2) h3 h4 h5 (b:=b') (off:=0) rfl
     rw[h6] at hxv
     exact ⟨_,by simp[execOp,ho,hxv,hi,this];rfl,b',_,_,h6,by simp⟩
   ·cases h
  ·cases h
 ·
  rename_i t x ix ho
  split at h
  ·rename_i s k i hx hix
   cases h
   obtain ⟨h1,h2,h4,h5⟩:=hC
   obtain ⟨n,rfl⟩:=Int.eq_ofNat_of_zero_le h4
   have h5':n<s.size:=by omega
   have hxv:=SR_str (opd_ok hs hx)
   have hi:=SR_int (opd_ok hs hix)
   have hu:=isStr_und (hT t h1) h2
   refine ⟨_, ?_,mk_int⟩
   have h6:s[n]? =some (s.data.getD n 0):=by
    rw[getElem?_pos s n h5']
    simp[Array.getD,h5',ByteArray.getElem_eq_getElem_data]
   simp[execOp,ho,hxv,hi,Instr.index,asIntOf,run_underlying hu,h6]
  ·cases h
 ·
  rename_i t ix ho
  split at h
  ·rename_i parts ht
   split at h
   ·rename_i ag ls hp
    cases h
    obtain ⟨vs,h1,h2⟩:=opd_ok hs ht
    have hlt:ix<vs.length:=by rw[←h2.len];exact (List.getElem?_eq_some_iff.1 hp).1
    have h3:=h2.get ix _ _ hp (List.getElem?_eq_getElem hlt)
    refine ⟨vs[ix], ?_,h3⟩
    simp[execOp,ho,h1,Instr.extract,hlt]
   ·cases h
  ·cases h
 ·
  rename_i x ho
  split at h
  ·cases h
  ·rename_i q hnv hx
   cases h
   have h1:=opd_ok hs hx
   refine ⟨a.eval x, ?_,h1⟩
   cases q with
   |pt p sz i off=>
    obtain ⟨b,n,c,_,h2⟩:=h1
    simp[execOp,ho,h2]
   |bx b off=>
    obtain ⟨k,_,h2⟩:=h1
    simp[execOp,ho,h2]
   |ps ds=>
    obtain ⟨b,off,h2,_⟩:=h1
    simp[execOp,ho,h2]
   |vw p sz lo n=>exact (hnv p sz lo n rfl).elim
  ·rename_i k caps hx
   cases h
   have h1:=opd_ok hs hx
   refine ⟨a.eval x, ?_,h1⟩
   obtain ⟨vs,h2,_⟩:=h1
   simp[execOp,ho,h2]
  ·cases h
 ·
  rename_i t x lo hi ho
  split at h
  ·rename_i s hx
   split at h
   ·rename_i C1 hh hb1
    split at h
    ·rename_i D1 ll hb2
     cases h
     obtain ⟨h1,h2,h3,h4,h5,h6⟩:=hC
     have hxv:=SR_str (opd_ok hs hx)
     have hu:=isStr_und (hT t h1) h2
     have e1:=bnd_ok hs hb1 h3 h6
     have e2:=bndL_ok hs hb2 h4 h5
     refine ⟨_, ?_,mk_str⟩
     have hr:=run_bounds (P:=P) (w:=w) (isS:=false) (len:=s.size) (cap:=s.size) (lo:=lo.map a.eval) (hi:=hi.map a.eval) (h:=hh) (l:=ll) (Nat.le_refl _) (by
       rcases e1 with ⟨rfl,rfl⟩|⟨y,k,i,rfl,h7,h8,h9,rfl⟩
       ·exact .inl ⟨rfl,rfl⟩
       ·exact .inr ⟨k,i,by simp[h7],h8,h9,rfl⟩) (by
       rcases e2 with ⟨rfl,rfl⟩|⟨y,k,i,rfl,h7,h8,h9,rfl⟩
       ·exact .inl ⟨rfl,rfl⟩
       ·exact .inr ⟨k,i,by simp[h7],h8,h9,rfl⟩)
     simp[execOp,ho,hxv,Instr.sliceAt,Instr.slice,run_underlying hu,hr]
    ·cases h
   ·cases h
  ·rename_i z rows hx
   split at h
   ·rename_i C1 hh e hb1 he
    split at h
    ·rename_i D1 ll hb2
     cases h
     obtain ⟨h1,h2,hz,h3,h4,h5,h6⟩:=hC
     have hxv:=VV_open (opd_ok hs hx)
     obtain ⟨A,c,hv1,hc,_⟩:=sl_form hxv
     have hu:=elt_und (hT t h1) he
     have e1:=bnd_ok hs hb1 h3 h6
     have e2:=bndL_ok hs hb2 h4 h5
     have hr:=run_bounds (P:=P) (w:=w) (isS:=true) (len:=rows.length) (cap:=c) (lo:=lo.map a.eval) (hi:=hi.map a.eval) (h:=hh) (l:=ll) hc (by
       rcases e1 with ⟨rfl,rfl⟩|⟨y,k,i,rfl,h7,h8,h9,rfl⟩
       ·exact .inl ⟨rfl,rfl⟩
       ·exact .inr ⟨k,i,by simp[h7],h8,h9,rfl⟩) (by
       rcases e2 with ⟨rfl,rfl⟩|⟨y,k,i,rfl,h7,h8,h9,rfl⟩
       ·exact .inl ⟨rfl,rfl⟩
       ·exact .inr ⟨k,i,by simp[h7],h8,h9,rfl⟩)
     have hhl:hh≤rows.length:=by rcases e1 with ⟨_,rfl⟩|⟨y,k,i,_,_,h8,h9,rfl⟩<;>omega
     have hll:ll≤hh:=by rcases e2 with ⟨_,rfl⟩|⟨y,k,i,_,_,h8,h9,rfl⟩<;>omega
     rw[hv1] at hxv
     have hcut:=VR_cut hxv hll hhl
     refine ⟨_, ?_,VV_one hcut⟩
     simp[execOp,ho,hv1,Instr.sliceAt,Instr.slice,run_underlying hu,hr,(hT e h2).size,hz]
    ·cases h
   ·cases h
  ·rename_i p hx
   split at h
   ·rename_i e0 cols z rows hat
    split at h
    ·rename_i C1 hh e hb1 he
     split at h
     ·rename_i D1 ll hb2
      cases h
      obtain ⟨h1,h2,hz,h3,h4,h5,h6,h7⟩:=hC
      have hxv:=VV_open (opd_ok hs hx)
      have hown:=at_own hs hat h7
      have hu:=elt_und (hT t h1) he
      have e1:=bnd_ok hs hb1 h3 h6
      have e2:=bndL_ok hs hb2 h4 h5
      have hhl:hh≤rows.length:=by rcases e1 with ⟨_,rfl⟩|⟨y,k,i,_,_,h8,h9,rfl⟩<;>omega
      have hll:ll≤hh:=by rcases e2 with ⟨_,rfl⟩|⟨y,k,i,_,_,h8,h9,rfl⟩<;>omega
      have hbnd: ∀c,rows.length≤c→(Instr.sliceBounds true rows.length c (lo.map a.eval) (hi.map a.eval) none).run P w= .ok (ll,hh,c) w:=fun c hc=>run_bounds hc (by
        rcases e1 with ⟨rfl,rfl⟩|⟨y,k,i,rfl,h7,h8,h9,rfl⟩
        ·exact .inl ⟨rfl,rfl⟩
        ·exact .inr ⟨k,i,by simp[h7],h8,h9,rfl⟩) (by
        rcases e2 with ⟨rfl,rfl⟩|⟨y,k,i,rfl,h7,h8,h9,rfl⟩
        ·exact .inl ⟨rfl,rfl⟩
        ·exact .inr ⟨k,i,by simp[h7],h8,h9,rfl⟩)
      rcases hown.open_own.2 with ⟨hn,hr0⟩|⟨b,c,cur,hn,hc,_⟩
      ·have hl0:rows.length=0:=by rw[hr0];rfl
       have hh0:hh=0:=by omega
       have ll0:ll=0:=by omega
       subst hh0 ll0
       have hr:=hbnd 0 (by omega)
       rw[hl0] at hr
       refine ⟨.slice none 0 0, ?_,.inr ⟨hn,rfl,rfl,rfl⟩⟩
       simp[execOp,ho,hxv.1,hn,Instr.sliceAt,Instr.slice,run_underlying hu,hr,(hT e h2).size]
      ·have hr:=hbnd c hc
       by_cases hcl:c=ll
       ·subst hcl
        refine ⟨.slice (some ⟨b,0,none⟩) (hh-c) (c-c), ?_,.inl ⟨b,_,c,0,hn,rfl,fun h=> ?_,by omega⟩⟩
        ·simp[execOp,ho,hxv.1,hn,Instr.sliceAt,Instr.slice,run_underlying hu,hr,(hT e h2).size]
        ·rcases h with h|h
         ·omega
         ·rw[h,Nat.zero_mul]
       ·refine ⟨.slice (some ⟨b,ll*z.length,none⟩) (hh-ll) (c-ll), ?_,.inl ⟨b,_,c,_,hn,rfl,fun _=>rfl,by omega⟩⟩
        simp[execOp,ho,hxv.1,hn,Instr.sliceAt,Instr.slice,run_underlying hu,hr,(hT e h2).size,hcl,hz,Addr.add_lit]
     ·cases h
    ·cases h
   ·cases h
  ·cases h
 ·
  rename_i src dst x ho
  split at h
  ·rename_i k n k' _ hx hk
   cases h
   have hu1:=(hT src hC.1).und
   have hu2:=(hT dst hC.2).und
   have hxv:=SR_int (opd_ok hs hx)
   unfold TI.int? at hk
   split at hk
   ·rename_i k2 hd
    cases hk
    rw[hd] at hu2
    exact ⟨_,by simp[execOp,ho,hxv,convert,run_underlying hu1,run_underlying hu2,Conv.intToInt],mk_int⟩
   ·cases hk
  ·rename_i hx hk
   cases h
   have hu1:=(hT src hC.1).und
   have hu2:=isStr_und (hT dst hC.2) hk
   have hxv:=SR_str (opd_ok hs hx)
   exact ⟨_,by simp[execOp,ho,hxv,convert,run_underlying hu1,run_underlying hu2],mk_str⟩
  ·rename_i c _ hx hk _
   split at h
   ·rename_i z rows e hrows he
    cases h
    obtain ⟨h1,h2,h3,h4,h5,h6,h7,h8⟩:=hC
    have hu1:=(hT src h1).und
    have hu2:=isStr_und (hT dst h2) hk
    have hu3:P.underlying e=some (.int .u8):=by
     have:=(hT e h3).und
     unfold TI.isU8 at h4
     split at h4
     ·rename_i hd
      rw[this,hd]
     ·cases h4
    have hu1':P.underlying src=some (.slice e):=by
     unfold TI.elt at he
     split at he
     ·rename_i hd
      cases he
      rw[hu1,hd]
     ·cases he
    obtain ⟨A,k,hv0,hA⟩:=bytes_form hs hrows h6 (VV_open (opd_ok hs hx)) h5 h7 h8
    refine ⟨.string ⟨(rows.map rowByte).toArray⟩, ?_,mk_str⟩
    by_cases h0:0<rows.length
    ·obtain ⟨ad,rfl,hcell⟩:=hA h0
     have:=run_convert_bytes_back (P:=P) w src dst e ad k (rows.map rowByte) hu1' hu3 hu2 hcell
     rw[List.length_map] at this
     simp only[execOp,ho,hv0,Sem.run_bind,this,Result.andThen_ok,Sem.run_pure]
    ·have hr0:rows= []:=List.length_eq_zero_iff.1 (by omega)
     subst hr0
     cases A with
     |none=>
      have:=run_convert_bytes_nil (P:=P) w src e hu1' hu3 0 k dst hu2
      simp only[List.length_nil] at hv0
      simp only[execOp,ho,hv0,Sem.run_bind,this,Result.andThen_ok,Sem.run_pure]
      rfl
     |some ad=>
      have:=run_convert_bytes_back (P:=P) w src dst e ad k [] hu1' hu3 hu2 (fun j hj=>absurd hj (by simp))
      simp only[List.length_nil] at hv0 this
      simp only[execOp,ho,hv0,Sem.run_bind,this,Result.andThen_ok,Sem.run_pure]
      rfl
   ·cases h
  ·cases h
 ·
  rename_i f first caps ho
  exact purFn_ok hs ho h hC
 ·
  rename_i t parts ho
  split at h
  ·rename_i C1 l hb
   cases h
   obtain ⟨v,h1,h2⟩:=run_build hT hs ho hC.1 hC.2.1 hb hC.2.2
   exact ⟨v,h1,h2⟩
  ·cases h
 ·
  rename_i c ho
  exact purCall_ok hT hs ho h hC
 ·cases h
end Go.Sm
namespace Go.Sm
open Go.RowKit
variable {P : Program} {ti : TT} {E : Env} {tag tag' tag0 : Nat → Tag} {hv hv' : Hv} {a : Act} {w w' w0 : World} {t : Nat} {d : Nat → Bool}
def Env.put (E:Env) (d:Option Nat) (sv:SV):Env:=
 match d with
 |none=>E
 |some d=>if d<E.nt then {E with sl:=putL E.sl d sv} else {E with sl:=delL E.sl d}
theorem eval_put (a:Act) (d t:Nat) (v:Value):(a.put (some d) v).eval (.tmp t)=if d=t∧d<a.tmps.size then v else a.eval (.tmp t):=by
 simp only[Act.put,Act.eval,Array.getD_eq_getD_getElem?]
 by_cases h:d=t
 ·subst h
  by_cases h2:d<a.tmps.size
  ·simp[h2]
  ·simp[h2]
 ·rw[Array.getElem?_setIfInBounds_ne h]
  simp[h]
theorem St.put (hs:St w0 tag0 E tag hv a w) {d:Option Nat} {sv:SV} {v:Value} (h:SR tag hv w sv v):St w0 tag0 (E.put d sv) tag hv (a.put d v) w:=by
 cases d with
 |none=>exact hs
 |some d=>
  have hsz:(a.put (some d) v).tmps.size=a.tmps.size:=by simp[Act.put]
  by_cases hd:d<E.nt
  ·simp only[Env.put,if_pos hd]
   refine ⟨hsz.trans hs.nt,hs.df,fun t sv' hl=> ?_,hs.bx,hs.rt,hs.fr,hs.hi⟩
   rw[lkp_putL] at hl
   rw[eval_put]
   split at hl
   ·rename_i he
    cases hl
    rw[if_pos ⟨he,by rw[hs.nt];exact hd⟩]
    exact h
   ·rename_i he
    rw[if_neg (fun hh=>he hh.1)]
    exact hs.sl t sv' hl
  ·simp only[Env.put,if_neg hd]
   refine ⟨hsz.trans hs.nt,hs.df,fun t sv' hl=> ?_,hs.bx,hs.rt,hs.fr,hs.hi⟩
   rw[lkp_delL] at hl
   rw[eval_put]
   split at hl
   ·cases hl
   ·rename_i he
    rw[if_neg (fun hh=>he hh.1)]
    exact hs.sl t sv' hl
theorem St.weak {E':Env} (hs:St w0 tag0 E tag hv a w) (h0:E'.nt=E.nt) (h1: ∀t sv,lkp E'.sl t=some sv→lkp E.sl t=some sv) (h2: ∀b ls,lkp E'.bx b=some ls→lkp E.bx b=some ls)
  (h3: ∀r x,lkp E'.rt r=some x→lkp E.rt r=some x):St w0 tag0 E' tag hv a w:=
 ⟨hs.nt.trans h0.symm,hs.df,fun t sv h=>hs.sl t sv (h1 t sv h),fun b ls h=>hs.bx b ls (h2 b ls h),fun r x h=>hs.rt r x (h3 r x h),hs.fr,hs.hi⟩
def keepL {α:Type} (l:List (Nat×α)):List Nat→List (Nat×α)
 | []=> []
 |t::r=>match lkp l t with
  |some x=>(t,x)::keepL l r
  |none=>keepL l r
theorem lkp_keepL {α:Type} (l:List (Nat×α)) (t:Nat) (x:α): ∀vs:List Nat,lkp (keepL l vs) t=some x→lkp l t=some x
 | [],h=>by simp[keepL,lkp] at h
 |s::r,h=>by
  simp only[keepL] at h
  split at h
  ·rename_i y hy
   simp only[lkp] at h
   split at h
   ·rename_i he
    subst he
    rw[hy];exact h
   ·exact lkp_keepL l t x r h
  ·exact lkp_keepL l t x r h
def Env.keep (E:Env) (vs:List Nat):Env:= {E with sl:=keepL E.sl vs}
theorem St.keep (hs:St w0 tag0 E tag hv a w) (vs:List Nat):St w0 tag0 (E.keep vs) tag hv a w:=
 hs.weak rfl (fun t sv h=>lkp_keepL _ t sv vs h) (fun _ _ h=>h) (fun _ _ h=>h)
def LV.fr (d:Nat→Bool):LV→LV
 | .r (k::p)=>if d k=true then .u else .r (k::p)
 | .r []=> .u
 |l=>l
def PV.hd (d:Nat→Bool):PV→Bool
 | .pt (r::_) _ _ _=>d r
 | .pt [] _ _ _=>true
 | .vw (r::_) _ _ _=>d r
 | .vw [] _ _ _=>true
 | .bx b _=>d b
 | .ps _=>false
def SV.fr (d:Nat→Bool):SV→SV
 | .v ag ls=> .v ag (ls.map (LV.fr d))
 | .tu parts=> .tu (parts.map fun q=>(q.1,q.2.map (LV.fr d)))
 | .p q=>if q.hd d then .dead else .p q
 | .fn k caps=>if caps.any (PV.hd d) then .dead else .fn k caps
 | .g c s=> .g c (s.fr d)
 | .pin r q x=>if d r then .dead else .pin r q x
 | .dead=> .dead
def delD {α:Type}:List (Nat×α)→(Nat→Bool)→List (Nat×α)
 | [],_=> []
 |(k,x)::r,d=>if d k=true then delD r d else (k,x)::delD r d
theorem lkp_delD {α:Type} (d:Nat→Bool) (t':Nat): ∀l:List (Nat×α),lkp (delD l d) t'=if d t'=true then none else lkp l t'
 | []=>by simp[delD,lkp]
 |(k,x)::r=>by
  simp only[delD]
  by_cases h:d k=true
  ·simp only[if_pos h,lkp_delD d t' r,lkp]
   by_cases h2:k=t'
   ·subst h2
    simp[h]
   ·simp[h2]
  ·simp only[if_neg h,lkp,lkp_delD d t' r]
   by_cases h2:k=t'
   ·subst h2
    simp[h]
   ·simp[h2]
def Env.fresh (E:Env) (d:Nat→Bool):Env:=
 {E with sl:=E.sl.map fun x=>(x.1,x.2.fr d),bx:=(delD E.bx d).map fun x=>(x.1,x.2.map (LV.fr d)),rt:=delD E.rt d}
def fam (d:Nat):Nat→Bool:=fun r=>r%1000==d
theorem lkp_map {α β:Type} (f:α→β) (t:Nat): ∀l:List (Nat×α),lkp (l.map fun x=>(x.1,f x.2)) t=(lkp l t).map f
 | []=>rfl
 |(k,x)::r=>by
  simp only[List.map_cons,lkp]
  split
  ·rfl
  ·exact lkp_map f t r
structure Hop (d:Nat→Bool) (tag tag':Nat→Tag) (hv hv':Hv) (w w':World):Prop where
 sh: ∀b,b<w.heap.size→tag b= .sh→tag' b= .sh∧w'.heap[b]? =w.heap[b]?
 own: ∀b r p,b<w.heap.size→tag b= .own (r::p)→d r=false→tag' b= .own (r::p)∧w'.heap[b]? =w.heap[b]?
 hv: ∀r p,d r=false→hv' (r::p)=hv (r::p)
theorem VR.hop {p:List Nat} {m:Md} {l:Lf} {v:Value} {r:Nat} (h:VR tag hv w (r::p) m l v) (hh:Hop d tag tag' hv hv' w w') (hr:d r=false) (hi: ∀b,w.heap.size≤b→tag b= .off):VR tag' hv' w' (r::p) m l v:=by
 refine h.move _ (fun b hb=> ?_) (fun rest _=>⟨hh.hv r (p++rest) hr,fun b hb=> ?_⟩)
 ·rcases Nat.lt_or_ge b w.heap.size with hlt|hge
  ·exact hh.sh b hlt hb
  ·rw[hi b hge] at hb;cases hb
 ·rcases Nat.lt_or_ge b w.heap.size with hlt|hge
  ·exact hh.own b r (p++rest) hlt hb hr
  ·rw[hi b hge] at hb;cases hb
theorem VR.hop_s {p:List Nat} {l:Lf} {v:Value} (h:VR tag hv w p .s l v) (hh:Hop d tag tag' hv hv' w w') (hi: ∀b,w.heap.size≤b→tag b= .off):VR tag' hv' w' p .s l v:=by
 refine h.move _ (fun b hb=> ?_) (fun rest hr=>by cases hr)
 rcases Nat.lt_or_ge b w.heap.size with hlt|hge
 ·exact hh.sh b hlt hb
 ·rw[hi b hge] at hb;cases hb
theorem LR.hop {l:LV} {v:Value} (h:LR tag hv w l v) (hh:Hop d tag tag' hv hv' w w') (hi: ∀b,w.heap.size≤b→tag b= .off):LR tag' hv' w' (l.fr d) v:=by
 cases l with
 |s l=>exact VR.hop_s h hh hi
 |n z=>exact h
 |u=>exact h
 |r p=>
  obtain ⟨h1,A,n,c,h2⟩:=h
  cases p with
  |nil=>simp only[LV.fr];rw[h2];rfl
  |cons r p=>
   simp only[LV.fr]
   split
   ·rw[h2];rfl
   ·rename_i hne
    exact ⟨by rw[hh.hv r p (by simpa using hne)];exact h1,A,n,c,h2⟩
theorem All2.map_left {α β γ:Type} {R:β→γ→Prop} {f:α→β} {as:List α} {cs:List γ} (h:All2 (fun x y=>R (f x) y) as cs):All2 R (as.map f) cs:=by
 induction h with
 |nil=>exact .nil
 |cons h _ ih=>exact .cons h ih
theorem VV.hop {ag:Bool} {ls:List LV} {v:Value} (h:VV tag hv w ag ls v) (hh:Hop d tag tag' hv hv' w w') (hi: ∀b,w.heap.size≤b→tag b= .off):VV tag' hv' w' ag (ls.map (LV.fr d)) v:=by
 obtain ⟨cs,h1,h2,h3⟩:=h
 exact ⟨cs,h1,(h2.imp fun _ _ h=>h.hop hh hi).map_left,by simpa using h3⟩
theorem PR.hop {q:PV} {v:Value} (h:PR tag hv w q v) (hq:q.hd d=false) (hh:Hop d tag tag' hv hv' w w') (hi: ∀b,w.heap.size≤b→tag b= .off):PR tag' hv' w' q v:=by
 cases q with
 |pt p sz i off=>
  cases p with
  |nil=>simp[PV.hd] at hq
  |cons r p=>
   obtain ⟨b,n,c,h1,h2⟩:=h
   refine ⟨b,n,c, ?_,h2⟩
   rw[hh.hv r p hq]
   exact h1
 |vw p sz lo n=>
  cases p with
  |nil=>simp[PV.hd] at hq
  |cons r p=>
   simp only[PR]
   rw[hh.hv r p hq]
   exact h
 |bx b off=>
  obtain ⟨k,h1,h2⟩:=h
  refine ⟨k, ?_,h2⟩
  rw[hh.hv b [0] hq]
  exact h1
 |ps ds=>
  obtain ⟨b,off,h1,h2,h3⟩:=h
  have hb: ∀j,j<ds.length→b<w.heap.size:=fun j hj=>by
   obtain ⟨u,hu,_⟩:=h3 j hj
   exact World.block_lt_of_cell? _ _ hu
  have hsh:tag' b= .sh:=by
   rcases Nat.lt_or_ge b w.heap.size with hlt|hge
   ·exact (hh.sh b hlt h2).1
   ·rw[hi b hge] at h2;cases h2
  refine ⟨b,off,h1,hsh,fun j hj=> ?_⟩
  obtain ⟨u,hu,hr⟩:=h3 j hj
  refine ⟨u, ?_,hr.hop_s hh hi⟩
  rw[World.cell?_of_block (w:=w) ((hh.sh b (hb j hj) h2).2)]
  exact hu
theorem SR.hop: ∀ {sv:SV} {v:Value},SR tag hv w sv v→Hop d tag tag' hv hv' w w'→(∀b,w.heap.size≤b→tag b= .off)→SR tag' hv' w' (sv.fr d) v
 | .dead,_,_,_,_=>trivial
 | .v ag ls,v,h,hh,hi=>VV.hop h hh hi
 | .tu parts,v,h,hh,hi=>by
  obtain ⟨vs,h1,h2⟩:=h
  exact ⟨vs,h1,All2.map_left (h2.imp fun q u h=>VV.hop h hh hi)⟩
 | .p q,v,h,hh,hi=>by
  simp only[SV.fr]
  split
  ·trivial
  ·rename_i hq
   exact PR.hop h (by simpa using hq) hh hi
 | .fn k caps,v,h,hh,hi=>by
  simp only[SV.fr]
  split
  ·trivial
  ·rename_i hq
   obtain ⟨vs,h1,h2⟩:=h
   refine ⟨vs,h1, ?_⟩
   simp only[List.any_eq_true,not_exists,not_and,Bool.not_eq_true] at hq
   clear h1
   induction h2 with
   |nil=>exact .nil
   |cons h hs ih=>exact .cons (PR.hop h (hq _ (by simp)) hh hi) (ih fun x hx=>hq x (by simp[hx]))
 | .g c s,v,h,hh,hi=>⟨fun hc=>SR.hop (h.1 hc) hh hi,h.2⟩
 | .pin r q x,v,h,hh,hi=>by
  simp only[SV.fr]
  split
  ·trivial
  ·rename_i hr
   exact (hh.hv r q (by simpa using hr)).trans h
theorem LR.hop0 {l:LV} {v:Value} (h:LR tag hv w l v) (hh:Hop (fun _=>false) tag tag' hv hv w w') (hi: ∀b,w.heap.size≤b→tag b= .off):LR tag' hv w' l v:=by
 cases l with
 |s l=>exact VR.hop_s h hh hi
 |_=>exact h
theorem VV.hop0 {ag:Bool} {ls:List LV} {v:Value} (h:VV tag hv w ag ls v) (hh:Hop (fun _=>false) tag tag' hv hv w w') (hi: ∀b,w.heap.size≤b→tag b= .off):VV tag' hv w' ag ls v:=by
 obtain ⟨cs,h1,h2,h3⟩:=h
 exact ⟨cs,h1,h2.imp fun _ _ h=>h.hop0 hh hi,h3⟩
theorem PR.hop0 {q:PV} {v:Value} (h:PR tag hv w q v) (hh:Hop (fun _=>false) tag tag' hv hv w w') (hi: ∀b,w.heap.size≤b→tag b= .off):PR tag' hv w' q v:=by
 cases q with
 |pt p sz i off=>exact h
 |vw p sz lo n=>exact h
 |bx b off=>exact h
 |ps ds=>exact PR.hop (q:= .ps ds) h rfl hh hi
theorem SR.hop0: ∀ {sv:SV} {v:Value},SR tag hv w sv v→Hop (fun _=>false) tag tag' hv hv w w'→(∀b,w.heap.size≤b→tag b= .off)→SR tag' hv w' sv v
 | .dead,_,_,_,_=>trivial
 | .v ag ls,v,h,hh,hi=>VV.hop0 h hh hi
 | .tu parts,v,h,hh,hi=>by
  obtain ⟨vs,h1,h2⟩:=h
  exact ⟨vs,h1,h2.imp fun q u h=>VV.hop0 h hh hi⟩
 | .p q,v,h,hh,hi=>PR.hop0 h hh hi
 | .fn k caps,v,h,hh,hi=>by
  obtain ⟨vs,h1,h2⟩:=h
  exact ⟨vs,h1,h2.imp fun _ _ h=>h.hop0 hh hi⟩
 | .g c s,v,h,hh,hi=>⟨fun hc=>SR.hop0 (h.1 hc) hh hi,h.2⟩
 | .pin r q x,v,h,hh,hi=>h
theorem St.hop (hs:St w0 tag0 E tag hv a w) (hh:Hop d tag tag' hv hv' w w') (hf:Fr w0 tag0 tag' w') (hi': ∀b,w'.heap.size≤b→tag' b= .off):St w0 tag0 (E.fresh d) tag' hv' a w':=by
 have hi:=hs.hi
 refine ⟨hs.nt,hs.df,fun t sv h=> ?_,fun b ls h=> ?_,fun r x h=> ?_,hf,hi'⟩
 ·simp only[Env.fresh,lkp_map] at h
  obtain ⟨sv0,h1,rfl⟩:=Option.map_eq_some_iff.1 h
  exact SR.hop (hs.sl t sv0 h1) hh hi
 ·simp only[Env.fresh,lkp_map,lkp_delD] at h
  obtain ⟨ls0,h1,rfl⟩:=Option.map_eq_some_iff.1 h
  split at h1
  ·cases h1
  ·rename_i hne
   obtain ⟨k,cur,e,h2,h3,h4,h5⟩:=hs.bx b ls0 h1
   have hk:k<w.heap.size:=by
    rcases Nat.lt_or_ge k w.heap.size with hlt|hge
    ·exact hlt
    ·rw[Array.getElem?_eq_none hge] at h4;cases h4
   have h6:=hh.own k b [0] hk h3 (by simpa using hne)
   exact ⟨k,cur,e,by rw[hh.hv b [0] (by simpa using hne)];exact h2,h6.1,h6.2.trans h4,(h5.imp fun _ _ h=>h.hop hh hi).map_left⟩
 ·simp only[Env.fresh,lkp_delD] at h
  split at h
  ·cases h
  ·rename_i hne
   have:=(hs.rt r x h).hop hh (by simpa using hne) hi
   rw[hh.hv r [] (by simpa using hne)]
   exact this
end Go.Sm
namespace Go.Sm
open Go.RowKit
variable {P : Program} {ti : TT} {E : Env} {tag tag' tag0 : Nat → Tag} {hv hv' : Hv} {a : Act} {w w' w0 : World} {t d : Nat}
theorem Fr.step (h:Fr w0 tag0 tag w) (ho:w'.os=w.os) (ht:w'.tape=w.tape) (hout:w'.output=w.output) (hsz:w.heap.size≤w'.heap.size)
  (hb: ∀b,b<w.heap.size→(tag b= .sh∨tag b= .off)→w'.heap[b]? =w.heap[b]? ∧tag' b=tag b):Fr w0 tag0 tag' w':=by
 refine ⟨ho.trans h.os,ht.trans h.tape,hout.trans h.output,Nat.le_trans h.size hsz,fun b hlt hq=> ?_⟩
 have h1:=h.heap b hlt hq
 have h2:=hb b (Nat.lt_of_lt_of_le hlt h.size) (by rw[h1.2];exact hq)
 exact ⟨h2.1.trans h1.1,h2.2.trans h1.2⟩
def upT (tag:Nat→Tag) (b:Nat) (p:List Nat):Nat→Tag:=fun x=>if x=b then .own p else tag x
def upH (hv:Hv) (p:List Nat) (v:Value):Hv:=fun x=>if x=p then v else hv x
def Env.box (E:Env) (d:Nat) (ls:List LV):Env:= {E.fresh (fam d) with bx:=putL (E.fresh (fam d)).bx d (ls.map (LV.fr (fam d)))}
theorem hop_alloc (D:Nat→Bool) (d:Nat) (hd:D d=true) (p:List Nat) (v:Value) (o:Obj):Hop D tag (upT tag w.heap.size (d::p)) hv (upH hv (d::p) v) w (w.alloc o):=by
 refine ⟨fun b hb h=> ?_,fun b r q hb h hne=> ?_,fun r q hne=> ?_⟩
 ·refine ⟨?_,Below.heap_alloc w o b hb⟩
  simp only[upT]
  rw[if_neg (by omega)]
  exact h
 ·refine ⟨?_,Below.heap_alloc w o b hb⟩
  simp only[upT]
  rw[if_neg (by omega)]
  exact h
 ·simp only[upH]
  rw[if_neg (fun e=>by rw[(List.cons.inj e).1,hd] at hne;cases hne)]
theorem fr_alloc (hs:St w0 tag0 E tag hv a w) (p:List Nat) (o:Obj):Fr w0 tag0 (upT tag w.heap.size p) (w.alloc o):=
 hs.fr.step rfl rfl rfl (by simp) fun b hb _=>⟨Below.heap_alloc w o b hb,by simp only[upT];rw[if_neg (by omega)]⟩
theorem hi_alloc (hs:St w0 tag0 E tag hv a w) (p:List Nat) (o:Obj): ∀b,(w.alloc o).heap.size≤b→upT tag w.heap.size p b= .off:=by
 intro b hb
 rw[World.size_alloc] at hb
 simp only[upT]
 rw[if_neg (by omega)]
 exact hs.hi b (by omega)
theorem St.newBox (hs:St w0 tag0 E tag hv a w) (d:Nat) (hd:d<1000) {ls:List LV} {cs:List Value} (h:All2 (LR tag hv w) ls cs) (T:TypeId):
  St w0 tag0 (E.box d ls) (upT tag w.heap.size [d,0]) (upH hv [d,0] (.pointer (some ⟨w.heap.size,0,none⟩))) a (w.alloc (.cells cs.toArray T)):=by
 have hh:=hop_alloc (tag:=tag) (hv:=hv) (w:=w) (fam d) d (by simp[fam];omega) [0] (.pointer (some ⟨w.heap.size,0,none⟩)) (.cells cs.toArray T)
 have h1:=hs.hop hh (fr_alloc hs _ _) (hi_alloc hs _ _)
 refine ⟨h1.nt,h1.df,h1.sl,fun b ls' hl=> ?_,h1.rt,h1.fr,h1.hi⟩
 simp only[Env.box,lkp_putL] at hl
 split at hl
 ·rename_i he
  subst he
  cases hl
  refine ⟨w.heap.size,cs.toArray,T,by simp[upH],by simp[upT],heap_alloc_new w _, ?_⟩
  exact (h.imp fun _ _ h=>h.hop hh hs.hi).map_left
 ·exact h1.bx b ls' hl
theorem run_alloc (g:(ti t).good P t) {o:Oper} (ho:o.op= .alloc t):(execOp a.eval o).run P w= .ok (.value (.pointer (some ⟨w.heap.size,0,none⟩))) (w.alloc (.cells (ti t).zv.cells t)):=by
 obtain ⟨x,h1,h2,h3,h4⟩:=g.inf
 simp[execOp,ho,Instr.alloc,zeroValue,typeInfo,h1,h4,newVar,newRow]
theorem run_box {o:Oper} {x:Operand} (ho:o.op= .box t x):(execOp a.eval o).run P w= .ok (.value (.pointer (some ⟨w.heap.size,0,none⟩))) (w.alloc (.cells (a.eval x).cells t)):=by
 simp[execOp,ho,Instr.box,newVar,newRow]
theorem run_storeCells_blk (k:Nat) (e:TypeId): ∀ (vs:List Value) (cur:Array Value) (off i:Nat) (w:World),w.heap[k]? =some (.cells cur e (0,0))→off+i+vs.length≤cur.size→(∀v∈vs,v.oneCell'=true)→
  ∃w',(storeCells ⟨k,off,none⟩ vs i).run P w= .ok () w'∧w'.os=w.os∧w'.tape=w.tape∧w'.output=w.output∧w'.heap.size=w.heap.size∧(∀b,b≠k→w'.heap[b]? =w.heap[b]?)∧
   ∃cur',w'.heap[k]? =some (.cells cur' e (0,0))∧cur'.size=cur.size∧ ∀j,cur'.getD j default=if off+i≤j∧j<off+i+vs.length then vs.getD (j- (off+i)) default else cur.getD j default
 | [],cur,off,i,w,hb,hl,h1=>⟨w,rfl,rfl,rfl,rfl,rfl,fun _ _=>rfl,cur,hb,rfl,fun j=>by rw[if_neg (by simp only[List.length_nil];omega)]⟩
 |v::vs,cur,off,i,w,hb,hl,h1=>by
  simp only[List.length_cons] at hl
  have hc:w.cell? ⟨k,off+i,none⟩=some (cur.getD (off+i) default):=by
   simp only[World.cell?,hb,Option.isSome_none,Bool.false_eq_true,if_false]
   rw[Array.getD_eq_getD_getElem?,Array.getElem?_eq_getElem (by omega)]
   rfl
  have hf:w.frozen? ⟨k,off+i,none⟩=false:=by simp[World.frozen?,hb]
  have hb1:(w.setCell ⟨k,off+i,none⟩ v).heap[k]? =some (.cells (cur.setIfInBounds (off+i) v) e (0,0)):=by
   simp[World.setCell,Array.getElem?_modify,hb]
  obtain ⟨w',h2,h3,h4,h5,h6,h7,cur',h8,h9,h10⟩:=run_storeCells_blk k e vs (cur.setIfInBounds (off+i) v) off (i+1) (w.setCell ⟨k,off+i,none⟩ v) hb1 (by simp;omega) (fun u hu=>h1 u (by simp[hu]))
  refine ⟨w', ?_,h3,h4,h5,by rw[h6];simp,fun b hne=> ?_,cur',h8,by rw[h9];simp,fun j=> ?_⟩
  ·simp only[storeCells,Sem.run_bind,add_lit,run_store P w _ v _ (h1 v (by simp)),hc,hf,Bool.false_eq_true,if_false,Result.andThen_ok,h2]
  ·rw[h7 b hne]
   exact Below.heap_setCell w ⟨k,off+i,none⟩ v b hne
  ·rw[h10 j]
   simp only[List.length_cons]
   by_cases hj:j=off+i
   ·subst hj
    rw[if_neg (by omega),if_pos (by omega)]
    rw[Array.getD_eq_getD_getElem?,Array.getElem?_setIfInBounds_self_of_lt (by omega)]
    simp
   ·have h11:(cur.setIfInBounds (off+i) v).getD j default=cur.getD j default:=by
     rw[Array.getD_eq_getD_getElem?,Array.getElem?_setIfInBounds_ne (Ne.symm hj),←Array.getD_eq_getD_getElem?]
    rw[h11]
    by_cases hin:off+(i+1)≤j∧j<off+(i+1)+vs.length
    ·rw[if_pos hin,if_pos (by omega)]
     rw[show j- (off+i)=(j- (off+(i+1)))+1 by omega]
     simp
    ·rw[if_neg hin,if_neg (by omega)]
def splice (ls:List LV) (off:Nat) (new:List LV):List LV:=ls.take off++(new++ls.drop (off+new.length))
def Env.stBx (E:Env) (b off:Nat) (ls new:List LV):Env:= {E with bx:=putL E.bx b (splice ls off new)}
theorem St.storeBx (hs:St w0 tag0 E tag hv a w) {b off:Nat} {ls new:List LV} {ag:Bool} {X V:Value} (hT:TGood P ti) (hok:(ti t).ok=true) (hb:lkp E.bx b=some ls) (hp:SR tag hv w (.p (.bx b off)) X) (hv1:VV tag hv w ag new V)
  (hlen:new.length=(ti t).sz) (hoff:off+new.length≤ls.length):
  ∃w',(Instr.storeAt t X V).run P w= .ok () w'∧St w0 tag0 (E.stBx b off ls new) tag hv a w':=by
 obtain ⟨k,hk1,rfl⟩:=hp
 obtain ⟨k',cur,e,hk2,ht,hbl,hall⟩:=hs.bx b ls hb
 rw[hk1] at hk2
 cases hk2
 obtain ⟨cs,rfl,hcs,hag⟩:=hv1
 have hcells:=cells_mkV hcs hag
 have hcl:cs.length=new.length:=hcs.len.symm
 have hcur:cur.size=ls.length:=by rw[hall.len];simp
 have g:=hT t hok
 obtain ⟨w',h1,h2,h3,h4,h5,h6,cur',h7,h8,h9⟩:=run_storeCells_blk (P:=P) k e cs cur off 0 w hbl (by omega) (fun v hv=>by
  obtain ⟨j,hj⟩:=List.getElem?_of_mem hv
  have hj2:j<new.length:=by rw[←hcl];exact (List.getElem?_eq_some_iff.1 hj).1
  exact (hcs.get j _ _ (List.getElem?_eq_getElem hj2) hj).one)
 have hh: ∀b',tag b'≠ .own [b,0]→w'.heap[b']? =w.heap[b']? :=fun b' hne=>h6 b' (fun e=>hne (e▸ht))
 have hVR: ∀ {p m l v},VR tag hv w p m l v→(∀rest,OwnIn m l rest→p++rest≠ [b,0])→VR tag hv w' p m l v:=by
  intro p m l v h hne
  refine h.move p (fun b' hb'=>⟨hb',hh b' (by rw[hb'];intro e;cases e)⟩) (fun rest hr=>⟨rfl,fun b' hb'=>⟨hb',hh b' (by rw[hb'];intro e;injection e with e;exact hne rest hr e)⟩⟩)
 have hs': ∀ {l:Lf} {v:Value},VR tag hv w [] .s l v→VR tag hv w' [] .s l v:=fun h=>hVR h (fun rest hr=>by cases hr)
 have hLR: ∀ {x:LV} {v:Value},LR tag hv w x v→LR tag hv w' x v:=by
  intro x v h
  cases x with
  |s l=>exact hs' h
  |n z=>exact h
  |r p=>exact h
  |u=>exact h
 have hVV: ∀ {ag:Bool} {ls:List LV} {v:Value},VV tag hv w ag ls v→VV tag hv w' ag ls v:=fun h=>by
  obtain ⟨cs,h1,h2,h3⟩:=h
  exact ⟨cs,h1,h2.imp fun _ _ h=>hLR h,h3⟩
 have hPR: ∀ {q:PV} {v:Value},PR tag hv w q v→PR tag hv w' q v:=by
  intro q v h
  cases q with
  |pt p sz i off=>exact h
  |vw p sz lo n=>exact h
  |bx b off=>exact h
  |ps ds=>
   obtain ⟨b',off',h1,h2,h3⟩:=h
   refine ⟨b',off',h1,h2,fun j hj=> ?_⟩
   obtain ⟨u,hu,hr⟩:=h3 j hj
   refine ⟨u, ?_,hs' hr⟩
   rw[World.cell?_of_block (w:=w) (hh b' (by rw[h2];intro e;cases e))]
   exact hu
 have hSR: ∀ {sv:SV} {v:Value},SR tag hv w sv v→SR tag hv w' sv v:=by
  intro sv
  induction sv with
  |dead=>exact fun _=>trivial
  |v ag ls=>exact fun h=>hVV h
  |tu parts=>exact fun ⟨vs,h1,h2⟩=>⟨vs,h1,h2.imp fun _ _ h=>hVV h⟩
  |p q=>exact fun h=>hPR h
  |fn k caps=>exact fun ⟨vs,h1,h2⟩=>⟨vs,h1,h2.imp fun _ _ h=>hPR h⟩
  |g c s ih=>exact fun h=>⟨fun hc=>ih (h.1 hc),h.2⟩
  |pin r q x=>exact fun h=>h
 refine ⟨w', ?_,⟨hs.nt,hs.df,fun t' sv h=>hSR (hs.sl t' sv h),fun b' ls' h=> ?_,fun r x h=>hVR (hs.rt r x h) (fun rest hr=> ?_),hs.fr.step h2 h3 h4 (by omega) fun b' _ hq=>⟨hh b' (by rcases hq with hq|hq<;>rw[hq]<;>intro e<;>cases e),rfl⟩,fun b' hb'=>hs.hi b' (by omega)⟩⟩
 ·have hsz:=g.size w
  have h10:(mkV ag cs).cells.size=(ti t).sz:=by rw[←Array.length_toList,hcells,hcl,hlen]
  simp only[Instr.storeAt,Instr.sureAddr,Sem.run_bind,Sem.run_pure,Result.andThen_ok,storeVar,hsz,h10,ne_eq,not_true_eq_false,if_false,hcells]
  exact h1
 ·simp only[Env.stBx,lkp_putL] at h
  split at h
  ·rename_i he
   subst he
   cases h
   refine ⟨k,cur',e,hk1,ht,h7,.of_get ?_ fun j x y hx hy=> ?_⟩
   ·simp only[splice,List.length_append,List.length_take,List.length_drop,Array.length_toList,h8,hcur]
    omega
   ·have hj:j<cur'.size:=by simpa using (List.getElem?_eq_some_iff.1 hy).1
    have hy':y=cur'.getD j default:=by
     rw[Array.getElem?_toList] at hy
     rw[Array.getD_eq_getD_getElem?,hy]
     rfl
    have h9j:=h9 j
    simp only[Nat.add_zero] at h9j
    rw[h9j] at hy'
    simp only[splice] at hx
    by_cases c1:j<off
    ·rw[List.getElem?_append_left (by rw[List.length_take];omega),List.getElem?_take,if_pos c1] at hx
     rw[if_neg (by omega)] at hy'
     refine hLR (hall.get j x y hx ?_)
     rw[hy',Array.getElem?_toList,Array.getD_eq_getD_getElem?,Array.getElem?_eq_getElem (by omega)]
     rfl
    ·have hl1:(ls.take off).length=off:=by rw[List.length_take];omega
     rw[List.getElem?_append_right (by omega),hl1] at hx
     by_cases c2:j<off+new.length
     ·rw[List.getElem?_append_left (by omega)] at hx
      rw[if_pos (by omega)] at hy'
      refine hLR (hcs.get (j-off) x y hx ?_)
      rw[hy',List.getD_eq_getElem?_getD,List.getElem?_eq_getElem (by omega)]
      rfl
     ·rw[List.getElem?_append_right (by omega),List.getElem?_drop] at hx
      rw[if_neg (by omega)] at hy'
      rw[show off+new.length+(j-off-new.length)=j by omega] at hx
      refine hLR (hall.get j x y hx ?_)
      rw[hy',Array.getElem?_toList,Array.getD_eq_getD_getElem?,Array.getElem?_eq_getElem (by omega)]
      rfl
  ·rename_i hne
   obtain ⟨k2,cur2,e2,q1,q2,q3,q4⟩:=hs.bx b' ls' h
   refine ⟨k2,cur2,e2,q1,q2, ?_,q4.imp fun _ _ h=>hLR h⟩
   rw[hh k2 (by rw[q2];intro e;injection e with e;injection e with e;exact hne e.symm)]
   exact q3
 ·intro e
  have e2:=congrArg List.length e
  have e3: ∀ {m l q},OwnIn m l q→q.length≠1:=fun h=>by cases h<;>simp
  simp only[List.length_append,List.length_cons,List.length_nil] at e2
  exact e3 hr (by omega)
end Go.Sm
namespace Go.Sm
open Go.RowKit
variable {P : Program} {ti : TT} {E : Env} {tag tag' tag0 : Nat → Tag} {hv hv' : Hv} {a : Act} {w w' w0 : World} {t d : Nat}
inductive Ow:Md→Lf→Prop
 |sc {v}:Ow .s (.sc v)
 |x {l}:Ow .x l
 |o {e cols z rows} (h: ∀i j,i<rows.length→j<z.length→Ow (md cols i j) (lf z rows i j)):Ow (.o e cols) (.ls z rows)
theorem VR.moveOw {p:List Nat} {m:Md} {l:Lf} {v:Value} (h:VR tag hv w p m l v):Ow m l→ ∀p':List Nat,
  (∀rest,OwnIn m l rest→hv' (p'++rest)=hv (p++rest)∧ ∀b,tag b= .own (p++rest)→tag' b= .own (p'++rest)∧w'.heap[b]? =w.heap[b]?)→VR tag' hv' w' p' m l v:=by
 induction h with
 |dead h1=>exact fun _ _ _=> .dead h1
 |sc h1=>exact fun _ _ _=> .sc h1
 |sh0=>intro ho;cases ho
 |sh=>intro ho;cases ho
 |own0 hh=>
  intro _ p' ho
  have:=(ho [] .here).1
  simp only[List.append_nil] at this
  exact .own0 (this.trans hh)
 |own cur hn hc hm ht hh hb hs hl hr ih=>
  intro hO p' ho
  cases hO with
  |o hO=>
  have h0:=ho [] .here
  simp only[List.append_nil] at h0
  have h2:=h0.2 _ ht
  refine .own cur hn hc hm h2.1 (h0.1.trans hh) (h2.2.trans hb) hs hl (fun i j hi hj=>ih i j hi hj (hO i j (by omega) hj) _ (fun rest hrest=> ?_))
  have:=ho (i::j::rest) (.deep (by omega) hj hrest)
  simpa using this
def Env.shL (E:Env):LV→Option (Prop×Lf)
 | .s l=>some (True,l)
 | .n z=>some (True,.ls z [])
 | .r p=>match E.at_ p with
  |some (.o e cols,.ls z rows)=>some (E.vld p∧Full (.o e cols) (.ls z rows),.ls z rows)
  |_=>none
 | .u=>none
def Env.shLs (E:Env):List LV→Option (Prop×List Lf)
 | []=>some (True,[])
 |y::r=>match E.shL y,E.shLs r with
  |some (C,l),some (D,ls)=>some (C∧D,l::ls)
  |_,_=>none
def Env.shP (E:Env):PV→Option (Prop×List Lf)
 | .ps ds=>some (True,ds)
 | .bx b off=>match lkp E.bx b with
  |some ls=>E.shLs (ls.drop off)
  |none=>none
 | .pt _ _ _ _=>none
 | .vw _ _ _ _=>none
def Env.shPs (E:Env):List PV→Option (Prop×List (List Lf))
 | []=>some (True,[])
 |y::r=>match E.shP y,E.shPs r with
  |some (C,l),some (D,ls)=>some (C∧D,l::ls)
  |_,_=>none
def Env.shS (E:Env):SV→Option (Prop×SV)
 | .v ag ls=>match E.shLs ls with
  |some (C,ds)=>some (C,.v ag (ds.map .s))
  |none=>none
 | .p q=>match E.shP q with
  |some (C,ds)=>some (C,.p (.ps ds))
  |none=>none
 | .fn k caps=>match E.shPs caps with
  |some (C,ds)=>some (C,.fn k (ds.map .ps))
  |none=>none
 |_=>none
def LV.nm:LV→List Nat
 | .r (k::_)=> [k]
 |_=> []
def Env.nmP (E:Env):PV→List Nat
 | .ps _=> []
 | .bx b _=>b::(match lkp E.bx b with|some ls=>ls.flatMap LV.nm|none=> [])
 | .pt (k::_) _ _ _=> [k]
 | .pt [] _ _ _=> []
 | .vw (k::_) _ _ _=> [k]
 | .vw [] _ _ _=> []
def Env.nm (E:Env):SV→List Nat
 | .v _ ls=>ls.flatMap LV.nm
 | .p q=>E.nmP q
 | .fn _ caps=>caps.flatMap E.nmP
 |_=> []
def lend (R:List Nat) (tag:Nat→Tag):Nat→Tag:=fun b=>match tag b with
 | .own (k::_)=>if k∈R then .sh else .off
 | .own []=> .off
 |s=>s
theorem lend_sh {R:List Nat} {b:Nat} (h:tag b= .sh):lend R tag b= .sh:=by simp[lend,h]
theorem lend_own {R:List Nat} {b k:Nat} {p:List Nat} (h:tag b= .own (k::p)) (hk:k∈R):lend R tag b= .sh:=by simp[lend,h,hk]
theorem lend_cases (R:List Nat) (b:Nat):lend R tag b= .sh∨lend R tag b= .off:=by
 unfold lend
 split
 ·split<;>simp
 ·simp
 ·rename_i h1 h2
  cases h:tag b with
  |sh=>simp
  |off=>simp
  |own p=>
   cases p with
   |nil=>exact absurd h h2
   |cons k p=>exact absurd h (h1 k p)
theorem shL_ok {R:List Nat} {y:LV} {C:Prop} {l:Lf} {v:Value} (hs:St w0 tag0 E tag hv a w) (h:E.shL y=some (C,l)) (hC:C) (hR: ∀k∈y.nm,k∈R) (hy:LR tag hv w y v):VR (lend R tag) hv' w [] .s l v:=by
 cases y with
 |s l0=>
  simp only[Env.shL,Option.some.injEq,Prod.mk.injEq] at h
  obtain ⟨rfl,rfl⟩:=h
  exact VR.move hy [] (fun b hb=>⟨lend_sh hb,rfl⟩) (fun rest hr=>by cases hr)
 |n z=>
  simp only[Env.shL,Option.some.injEq,Prod.mk.injEq] at h
  obtain ⟨rfl,rfl⟩:=h
  rw[show v= .slice none 0 0 from hy]
  exact .sh0
 |u=>simp[Env.shL] at h
 |r p=>
  simp only[Env.shL] at h
  split at h
  ·rename_i e cols z rows hat
   cases h
   have h1:=at_own hs hat hC.1
   rw[hy.1]
   refine h1.share hC.2 (fun b hb=>lend_sh hb) (fun rest b _ hb=> ?_) []
   cases p with
   |nil=>simp[Env.at_] at hat
   |cons k p=>exact lend_own hb (hR k (by simp[LV.nm]))
  ·cases h
theorem shLs_ok {R:List Nat} (hs:St w0 tag0 E tag hv a w): ∀ {ls:List LV} {C:Prop} {ds:List Lf} {cs:List Value},E.shLs ls=some (C,ds)→C→(∀k∈ls.flatMap LV.nm,k∈R)→All2 (LR tag hv w) ls cs→All2 (fun l v=>VR (lend R tag) hv' w [] .s l v) ds cs
 | [],C,ds,cs,h,hC,hR,hy=>by
  simp only[Env.shLs,Option.some.injEq,Prod.mk.injEq] at h
  obtain ⟨rfl,rfl⟩:=h
  cases hy
  exact .nil
 |y::r,C,ds,cs,h,hC,hR,hy=>by
  simp only[Env.shLs] at h
  split at h
  ·rename_i C1 l D1 ls h1 h2
   cases h
   cases hy with
   |cons hy hys=>exact .cons (shL_ok hs h1 hC.1 (fun k hk=>hR k (by simp[hk])) hy) (shLs_ok hs h2 hC.2 (fun k hk=>hR k (by rw[List.flatMap_cons];exact List.mem_append_right _ hk)) hys)
  ·cases h
theorem shP_ok {R:List Nat} {q:PV} {C:Prop} {ds:List Lf} {v:Value} (hs:St w0 tag0 E tag hv a w) (h:E.shP q=some (C,ds)) (hC:C) (hR: ∀k∈E.nmP q,k∈R) (hq:PR tag hv w q v):PR (lend R tag) hv' w (.ps ds) v:=by
 cases q with
 |ps ds0=>
  simp only[Env.shP,Option.some.injEq,Prod.mk.injEq] at h
  obtain ⟨rfl,rfl⟩:=h
  obtain ⟨b,off,h1,h2,h3⟩:=hq
  refine ⟨b,off,h1,lend_sh h2,fun j hj=> ?_⟩
  obtain ⟨u,hu,hr⟩:=h3 j hj
  exact ⟨u,hu,hr.move [] (fun b hb=>⟨lend_sh hb,rfl⟩) (fun rest hr=>by cases hr)⟩
 |pt p sz i off=>simp[Env.shP] at h
 |vw p sz lo n=>simp[Env.shP] at h
 |bx b off=>
  simp only[Env.shP] at h
  split at h
  ·rename_i ls hb
   obtain ⟨k,h1,rfl⟩:=hq
   obtain ⟨k',cur,e,h2,h3,h4,h5⟩:=hs.bx b ls hb
   rw[h1] at h2
   cases h2
   have hall:=shLs_ok (hv':=hv') (R:=R) hs h hC (fun k hk=>hR k (by
    obtain ⟨x,hx,hk2⟩:=List.mem_flatMap.1 hk
    simp only[Env.nmP,hb]
    exact List.mem_cons_of_mem _ (List.mem_flatMap.2 ⟨x,List.mem_of_mem_drop hx,hk2⟩))) (h5.drop off)
   refine ⟨k,off,rfl,lend_own h3 (hR b (by simp[Env.nmP])),fun j hj=> ?_⟩
   have hl:=hall.len
   have hj2:j< (cur.toList.drop off).length:=by omega
   refine ⟨(cur.toList.drop off)[j], ?_,hall.get j _ _ (by rw[List.getD_eq_getElem?_getD,List.getElem?_eq_getElem hj];rfl) (List.getElem?_eq_getElem hj2)⟩
   have h6:(cur.toList.drop off)[j]? =some (cur.toList.drop off)[j]:=List.getElem?_eq_getElem hj2
   rw[List.getElem?_drop,Array.getElem?_toList] at h6
   simp only[World.cell?,h4,Option.isSome_none,Bool.false_eq_true,if_false]
   exact h6
  ·cases h
theorem shPs_ok {R:List Nat} (hs:St w0 tag0 E tag hv a w): ∀ {qs:List PV} {C:Prop} {ds:List (List Lf)} {cs:List Value},E.shPs qs=some (C,ds)→C→(∀k∈qs.flatMap E.nmP,k∈R)→All2 (PR tag hv w) qs cs→All2 (PR (lend R tag) hv' w) (ds.map .ps) cs
 | [],C,ds,cs,h,hC,hR,hy=>by
  simp only[Env.shPs,Option.some.injEq,Prod.mk.injEq] at h
  obtain ⟨rfl,rfl⟩:=h
  cases hy
  exact .nil
 |y::r,C,ds,cs,h,hC,hR,hy=>by
  simp only[Env.shPs] at h
  split at h
  ·rename_i C1 l D1 ls h1 h2
   cases h
   cases hy with
   |cons hy hys=>exact .cons (shP_ok hs h1 hC.1 (fun k hk=>hR k (by simp[hk])) hy) (shPs_ok hs h2 hC.2 (fun k hk=>hR k (by rw[List.flatMap_cons];exact List.mem_append_right _ hk)) hys)
  ·cases h
theorem shS_ok {R:List Nat} {sv sv':SV} {C:Prop} {v:Value} (hs:St w0 tag0 E tag hv a w) (h:E.shS sv=some (C,sv')) (hC:C) (hR: ∀k∈E.nm sv,k∈R) (hv0:SR tag hv w sv v):SR (lend R tag) hv' w sv' v:=by
 cases sv with
 |v ag ls=>
  simp only[Env.shS] at h
  split at h
  ·rename_i C1 ds h1
   cases h
   obtain ⟨cs,h2,h3,h4⟩:=hv0
   have:=shLs_ok (hv':=hv') hs h1 hC hR h3
   refine ⟨cs,h2,All2.map_left (f:=LV.s) (R:=LR (lend R tag) hv' w) this,fun hf=> ?_⟩
   have h5:=h4 hf
   rw[List.length_map,this.len,←h3.len]
   exact h5
  ·cases h
 |p q=>
  simp only[Env.shS] at h
  split at h
  ·rename_i C1 ds h1
   cases h
   exact shP_ok hs h1 hC hR hv0
  ·cases h
 |fn k caps=>
  simp only[Env.shS] at h
  split at h
  ·rename_i C1 ds h1
   cases h
   obtain ⟨vs,h2,h3⟩:=hv0
   exact ⟨vs,h2,shPs_ok hs h1 hC hR h3⟩
  ·cases h
 |dead=>simp[Env.shS] at h
 |tu parts=>simp[Env.shS] at h
 |g c s=>simp[Env.shS] at h
 |pin r q x=>simp[Env.shS] at h
abbrev ML:=List (Md×Lf)
def RC (tag:Nat→Tag) (hv:Hv) (w:World):Nat→ML→List Value→Prop
 |_,[],[]=>True
 |b,(m,l)::r,c::cs=>VR tag hv w [b] m l c∧RC tag hv w (b+1) r cs
 |_,_,_=>False
def RVs (tag:Nat→Tag) (hv:Hv) (w:World):Nat→List (Bool×ML)→List Value→Prop
 |_,[],[]=>True
 |b,(ag,ml)::ps,v::vs=>(∃cs,v=mkV ag cs∧RC tag hv w b ml cs∧(ag=false→ml.length=1))∧RVs tag hv w (b+ml.length) ps vs
 |_,_,_=>False
def RV (tag:Nat→Tag) (hv:Hv) (w:World) (rs:List (Bool×ML)) (rv:Value):Prop:=
 match rs with
 | [p]=>RVs tag hv w 0 [p] [rv]
 |ps=> ∃vs,rv= .tuple vs.toArray∧RVs tag hv w 0 ps vs
def VC (P:Program) (f:FuncId) (as:List SV) (rs:List (Bool×ML)):Prop:=
 (∃fn c,P.funcs[f]? =some fn∧fn.body=some c∧(fn.name== "runtime.NumGoroutine")=false)∧
 ∀ (w:World) (tag:Nat→Tag) (hv:Hv) (vs:List Value),(∀b,tag b= .sh∨tag b= .off)→(∀b,w.heap.size≤b→tag b= .off)→All2 (SR tag hv w) as vs→
  Calls P f vs.toArray w fun e w'=> ∃tag' hv' rv,e= .returned rv∧Fr w tag tag' w'∧(∀b,w'.heap.size≤b→tag' b= .off)∧RV tag' hv' w' rs rv
def OwML (ml:ML):Prop:= ∀x∈ml,Ow x.1 x.2
def OwRs (rs:List (Bool×ML)):Prop:= ∀q∈rs,OwML q.2
def resL (d:Nat):Nat→ML→List LV
 |_,[]=> []
 |b,(.s,l)::r=> .s l::resL d (b+1) r
 |b,(.x,_)::r=> .u::resL d (b+1) r
 |b,(.o _ _,_)::r=> .r [d+1000*b]::resL d (b+1) r
def resR (d:Nat):Nat→ML→List (Nat×Md×Lf)
 |_,[]=> []
 |b,(.o e cols,l)::r=>(d+1000*b,.o e cols,l)::resR d (b+1) r
 |b,_::r=>resR d (b+1) r
def resPs (d:Nat):Nat→List (Bool×ML)→List (Bool×List LV)
 |_,[]=> []
 |b,(ag,ml)::r=>(ag,resL d b ml)::resPs d (b+ml.length) r
def resRs (d:Nat):Nat→List (Bool×ML)→List (Nat×Md×Lf)
 |_,[]=> []
 |b,(_,ml)::r=>resR d b ml++resRs d (b+ml.length) r
def resS (d:Nat) (rs:List (Bool×ML)):SV:=
 match rs with
 | [(ag,ml)]=> .v ag (resL d 0 ml)
 |ps=> .tu (resPs d 0 ps)
def Env.ret (E:Env) (d:Nat) (rs:List (Bool×ML)):Env:= {E.fresh (fam d) with rt:=resRs d 0 rs++(E.fresh (fam d)).rt}
def tagN (tag tag':Nat→Tag) (sz d:Nat):Nat→Tag:=fun b=>
 if b<sz then tag b else match tag' b with
  | .own (r::rest)=> .own ((d+1000*r)::rest)
  | .own []=> .off
  |s=>s
def hvN (hv hv':Hv) (d:Nat):Hv:=fun p=>match p with
 |r::rest=>if fam d r=true then hv' ((r/1000)::rest) else hv (r::rest)
 | []=>hv []
section
variable {R : List Nat}
theorem hvN_new (hd:d<1000) (b:Nat) (rest:List Nat):hvN hv hv' d ((d+1000*b)::rest)=hv' (b::rest):=by
 simp only[hvN,fam,beq_iff_eq]
 rw[if_pos (by omega),show (d+1000*b)/1000=b by omega]
theorem res_move {b:Nat} {m:Md} {l:Lf} {v:Value} (hd:d<1000) (hfr:Fr w (lend R tag) tag' w') (hR:R= []∨Ow m l) (h:VR tag' hv' w' [b] m l v):
  VR (tagN tag tag' w.heap.size d) (hvN hv hv' d) w' [d+1000*b] m l v:=by
 have hown: ∀rest,hvN hv hv' d ([d+1000*b]++rest)=hv' ([b]++rest)∧ ∀b',tag' b'= .own ([b]++rest)→tagN tag tag' w.heap.size d b'= .own ([d+1000*b]++rest)∧w'.heap[b']? =w'.heap[b']? :=by
  intro rest
  refine ⟨hvN_new hd b rest,fun b' hb'=>⟨?_,rfl⟩⟩
  simp only[tagN]
  split
  ·rename_i hlt
   have h1:=(hfr.heap b' hlt (lend_cases R b')).2
   rcases lend_cases R b' with h2|h2<;>rw[h1,h2] at hb'<;>cases hb'
  ·rw[hb']
   rfl
 rcases hR with hR|hR
 ·refine h.move _ (fun b' hb'=>⟨?_,rfl⟩) (fun rest _=>hown rest)
  simp only[tagN]
  split
  ·rename_i hlt
   have h1:=(hfr.heap b' hlt (lend_cases R b')).2
   rw[hb'] at h1
   subst hR
   unfold lend at h1
   split at h1
   ·simp at h1
   ·cases h1
   ·exact h1.symm
  ·rw[hb']
 ·exact h.moveOw hR _ (fun rest _=>hown rest)
theorem res_sh {l:Lf} {v:Value} {p:List Nat} (h:VR tag hv w p .s l v):VR tag hv' w [] .s l v:=h.move [] (fun _ hb=>⟨hb,rfl⟩) (fun rest hr=>by cases hr)
theorem resL_ok (hd:d<1000) (hfr:Fr w (lend R tag) tag' w'): ∀ {b:Nat} {ml:ML} {cs:List Value},(R= []∨OwML ml)→RC tag' hv' w' b ml cs→All2 (LR (tagN tag tag' w.heap.size d) (hvN hv hv' d) w') (resL d b ml) cs
 |b,[],[],_,_=> .nil
 |b,[],_::_,_,h=>by simp[RC] at h
 |b,_::_,[],_,h=>by simp[RC] at h
 |b,(m,l)::r,c::cs,hR,h=>by
  simp only[RC] at h
  have h1:=res_move (hv:=hv) hd hfr (hR.imp id fun ho=>ho (m,l) (by simp)) h.1
  have h2:=resL_ok hd hfr (hR.imp id fun ho x hx=>ho x (by simp[hx])) h.2
  cases m with
  |s=>exact .cons (res_sh h1) h2
  |x=>exact .cons h1.one h2
  |o e cols=>
   cases l with
   |sc u=>cases h1
   |ls z rows=>
    refine .cons ?_ h2
    obtain ⟨h3,h4⟩:=h1.open_own
    refine ⟨h3.symm, ?_⟩
    rcases h4 with ⟨h5,_⟩|⟨_,_,_,h5,_⟩<;>exact ⟨_,_,_,h5⟩
theorem resR_ok (hd:d<1000) (hfr:Fr w (lend R tag) tag' w'): ∀ {b:Nat} {ml:ML} {cs:List Value},(R= []∨OwML ml)→RC tag' hv' w' b ml cs→ ∀x∈resR d b ml,VR (tagN tag tag' w.heap.size d) (hvN hv hv' d) w' [x.1] x.2.1 x.2.2 (hvN hv hv' d [x.1])
 |b,[],[],_,_=>by simp[resR]
 |b,[],_::_,_,h=>by simp[RC] at h
 |b,_::_,[],_,h=>by simp[RC] at h
 |b,(m,l)::r,c::cs,hR,h=>by
  simp only[RC] at h
  have h1:=res_move (hv:=hv) hd hfr (hR.imp id fun ho=>ho (m,l) (by simp)) h.1
  have h2:=resR_ok hd hfr (hR.imp id fun ho x hx=>ho x (by simp[hx])) h.2
  intro x hx
  cases m with
  |s=>exact h2 x hx
  |x=>exact h2 _ hx
  |o e cols=>
   simp only[resR,List.mem_cons] at hx
   rcases hx with rfl|hx
   ·cases l with
    |sc u=>cases h1
    |ls z rows=>
     have:=h1.open_own.1
     simp only
     rw[this]
     exact h1
   ·exact h2 x hx
theorem resPs_ok (hd:d<1000) (hfr:Fr w (lend R tag) tag' w'): ∀ {b:Nat} {ps:List (Bool×ML)} {vs:List Value},(R= []∨OwRs ps)→RVs tag' hv' w' b ps vs→All2 (fun (q:Bool×List LV) u=>VV (tagN tag tag' w.heap.size d) (hvN hv hv' d) w' q.1 q.2 u) (resPs d b ps) vs∧
  ∀x∈resRs d b ps,VR (tagN tag tag' w.heap.size d) (hvN hv hv' d) w' [x.1] x.2.1 x.2.2 (hvN hv hv' d [x.1])
 |b,[],[],_,_=>⟨.nil,by simp[resRs]⟩
 |b,[],_::_,_,h=>by simp[RVs] at h
 |b,_::_,[],_,h=>by simp[RVs] at h
 |b,(ag,ml)::r,v::vs,hR,h=>by
  simp only[RVs] at h
  obtain ⟨⟨cs,h1,h2,h3⟩,h4⟩:=h
  have hm:R= []∨OwML ml:=hR.imp id fun ho=>ho (ag,ml) (by simp)
  have ih:=resPs_ok hd hfr (hR.imp id fun ho x hx=>ho x (by simp[hx])) h4
  refine ⟨.cons ⟨cs,h1,resL_ok hd hfr hm h2,fun hf=> ?_⟩ ih.1,fun x hx=> ?_⟩
  ·have: ∀b (ml:ML),(resL d b ml).length=ml.length:=by
    intro b ml
    induction ml generalizing b with
    |nil=>rfl
    |cons y r ih=>
     obtain ⟨m,l⟩:=y
     cases m<;>simp[resL,ih]
   rw[this]
   exact h3 hf
  ·simp only[resRs,List.mem_append] at hx
   rcases hx with hx|hx
   ·exact resR_ok hd hfr hm h2 x hx
   ·exact ih.2 x hx
theorem lkp_append {α:Type} (l2:List (Nat×α)) (t:Nat) (y:α): ∀l1:List (Nat×α),lkp (l1++l2) t=some y→(∃x∈l1,x=(t,y))∨lkp l2 t=some y
 | [],h=> .inr h
 |(k,x)::r,h=>by
  simp only[List.cons_append,lkp] at h
  split at h
  ·rename_i he
   cases h
   subst he
   exact .inl ⟨_,by simp,rfl⟩
  ·rcases lkp_append l2 t y r h with ⟨z,h1,h2⟩|h1
   ·exact .inl ⟨z,by simp[h1],h2⟩
   ·exact .inr h1
theorem resRs_fam (hd:d<1000): ∀ (b:Nat) (ps:List (Bool×ML)),∀x∈resRs d b ps,fam d x.1=true:=by
 have h1: ∀ (b:Nat) (ml:ML),∀x∈resR d b ml,fam d x.1=true:=by
  intro b ml
  induction ml generalizing b with
  |nil=>simp[resR]
  |cons y r ih=>
   obtain ⟨m,l⟩:=y
   intro x hx
   cases m with
   |s=>exact ih _ x hx
   |x=>exact ih _ _ hx
   |o e cols=>
    simp only[resR,List.mem_cons] at hx
    rcases hx with rfl|hx
    ·simp only[fam,beq_iff_eq];omega
    ·exact ih _ x hx
 intro b ps
 induction ps generalizing b with
 |nil=>simp[resRs]
 |cons y r ih=>
  obtain ⟨ag,ml⟩:=y
  intro x hx
  simp only[resRs,List.mem_append] at hx
  rcases hx with hx|hx
  ·exact h1 _ _ x hx
  ·exact ih _ x hx
theorem St.ret {rs:List (Bool×ML)} {rv:Value} (hs:St w0 tag0 E tag hv a w) (hd:d<1000) (hfr:Fr w (lend R tag) tag' w') (hi': ∀b,w'.heap.size≤b→tag' b= .off) (hR:R= []∨OwRs rs) (hrv:RV tag' hv' w' rs rv):
  ∃tg hh,St w0 tag0 (E.ret d rs) tg hh a w'∧SR tg hh w' (resS d rs) rv:=by
 have hop:Hop (fam d) tag (tagN tag tag' w.heap.size d) hv (hvN hv hv' d) w w':=by
  refine ⟨fun b hb h=>⟨by simp[tagN,hb,h],(hfr.heap b hb (lend_cases R b)).1⟩,fun b r p hb h _=>⟨by simp[tagN,hb,h],(hfr.heap b hb (lend_cases R b)).1⟩,fun r p hr=> ?_⟩
  simp[hvN,hr]
 have hF:Fr w0 tag0 (tagN tag tag' w.heap.size d) w':=hs.fr.step hfr.os hfr.tape hfr.output hfr.size fun b hb _=>⟨(hfr.heap b hb (lend_cases R b)).1,by simp[tagN,hb]⟩
 have h1:=hs.hop hop hF (fun b hb=>by
  have hlt: ¬b<w.heap.size:=by have:=hfr.size;omega
  simp[tagN,hlt,hi' b hb])
 have key: ∃ps vs,RVs tag' hv' w' 0 ps vs∧(rs=ps)∧((rs.length=1∧vs= [rv])∨(rs.length≠1∧rv= .tuple vs.toArray)):=by
  unfold RV at hrv
  split at hrv
  ·exact ⟨_,_,hrv,rfl,.inl ⟨rfl,rfl⟩⟩
  ·rename_i h9
   obtain ⟨vs,h2,h3⟩:=hrv
   refine ⟨_,vs,h3,rfl,.inr ⟨fun hl=> ?_,h2⟩⟩
   match rs,hl,h9 with
   | [p],_,h9=>exact h9 p rfl
 obtain ⟨ps,vs,h2,rfl,h3⟩:=key
 have h4:=resPs_ok (hv:=hv) hd hfr hR h2
 refine ⟨_,_,⟨h1.nt,h1.df,h1.sl,h1.bx,fun r x hl=> ?_,h1.fr,h1.hi⟩, ?_⟩
 ·rcases lkp_append _ _ _ _ hl with ⟨y,hy,rfl⟩|hl
  ·exact h4.2 _ hy
  ·exact h1.rt r x hl
 ·unfold resS
  split
  ·rename_i ag ml
   rcases h3 with ⟨_,rfl⟩|⟨h5,_⟩
   ·have:=h4.1
    simp only[resPs] at this
    cases this with
    |cons h hs=>exact h
   ·simp at h5
  ·rename_i h9
   rcases h3 with ⟨h5,_⟩|⟨_,rfl⟩
   ·match rs,h5,h9 with
    | [(ag,ml)],_,h9=>exact absurd rfl (h9 ag ml)
   ·exact ⟨vs,rfl,h4.1⟩
end
end Go.Sm
namespace Go.Sm
open Go.RowKit
variable {P : Program} {ti : TT} {E : Env} {tag tag' tag0 : Nat → Tag} {hv hv' : Hv} {a : Act} {w w' w0 : World} {t d : Nat}
def gcond:SV→Bool→Option Bool
 | .v false [.s (.sc (.bool c))],b=>some (if b then c else !c)
 | .g c s,b=>match gcond s b with
  |some y=>some (c&&y)
  |none=>none
 |_,_=>none
theorem gcond_ok: ∀ {sv:SV} {b g:Bool} {v:Value},SR tag hv w sv v→gcond sv b=some g→(∃y,v= .bool y∧(y==b)=g)∨(v=undef∧g=false)
 | .v ag ls,b,g,v,h,hg=>by
  unfold gcond at hg
  split at hg
  ·rename_i c b' heq
   cases heq
   cases hg
   refine .inl ⟨b',SR_bool h, ?_⟩
   rename_i b0 _
   cases b'<;>cases b0<;>rfl
  ·rename_i heq;cases heq
  ·cases hg
 | .g c s,b,g,v,h,hg=>by
  simp only[gcond] at hg
  split at hg
  ·rename_i y hy
   cases hg
   cases c with
   |true=>simpa using gcond_ok (h.1 rfl) hy
   |false=>exact .inr ⟨h.2 rfl,rfl⟩
  ·cases hg
 | .dead,b,g,v,h,hg=>by simp[gcond] at hg
 | .tu _,b,g,v,h,hg=>by simp[gcond] at hg
 | .p _,b,g,v,h,hg=>by simp[gcond] at hg
 | .fn _ _,b,g,v,h,hg=>by simp[gcond] at hg
 | .pin _ _ _,b,g,v,h,hg=>by simp[gcond] at hg
def unS:SV→SV
 | .g _ s=>s
 |s=>s
def Env.un (E:Env) (ts:List Nat):Env:= {E with sl:=E.sl.map fun y=>(y.1,if ts.contains y.1 then unS y.2 else y.2)}
def gsOk (E:Env):List Nat→Prop
 | []=>True
 |t::r=>(match lkp E.sl t with|some (.g c _)=>c=true|_=>True)∧gsOk E r
theorem lkp_mapk {α:Type} (f:Nat→α→α) (t:Nat): ∀l:List (Nat×α),lkp (l.map fun y=>(y.1,f y.1 y.2)) t=(lkp l t).map (f t)
 | []=>rfl
 |(k,y)::r=>by
  simp only[List.map_cons,lkp]
  split
  ·rename_i h;subst h;rfl
  ·exact lkp_mapk f t r
theorem gsOk_mem: ∀ {ts:List Nat},gsOk E ts→ ∀t∈ts,match lkp E.sl t with|some (.g c _)=>c=true|_=>True
 | [],_,t,ht=>by simp at ht
 |s::r,h,t,ht=>by
  rcases List.mem_cons.1 ht with rfl|ht
  ·exact h.1
  ·exact gsOk_mem h.2 t ht
theorem St.un (hs:St w0 tag0 E tag hv a w) {ts:List Nat} (h:gsOk E ts):St w0 tag0 (E.un ts) tag hv a w:=by
 refine ⟨hs.nt,hs.df,fun t sv hl=> ?_,hs.bx,hs.rt,hs.fr,hs.hi⟩
 simp only[Env.un] at hl
 rw[lkp_mapk (fun k y=>if ts.contains k then unS y else y)] at hl
 obtain ⟨s,h1,rfl⟩:=Option.map_eq_some_iff.1 hl
 have h2:=hs.sl t s h1
 split
 ·rename_i hm
  have h3:=gsOk_mem h t (by simpa using hm)
  rw[h1] at h3
  cases s with
  |g c s=>exact h2.1 h3
  |_=>exact h2
 ·exact h2
def tm:Operand→List Nat
 | .tmp t=> [t]
 |_=> []
def opTmps:Op→List Nat
 | .move x| .assign x| .unOp _ _ x| .convert _ _ x| .load _ x| .fieldAddr _ x _| .field _ x _| .extract x _| .nilCheck x=>tm x
 | .binOp _ _ x y _| .indexAddr _ x y| .index _ x y=>tm x++tm y
 | .slice _ x lo hi _=>tm x++((match lo with|some y=>tm y|none=> [])++(match hi with|some y=>tm y|none=> []))
 | .call c=>(match c.callee with| .value f=>tm f|_=> [])++c.args.toList.flatMap tm
 | .build _ parts=>parts.toList.flatMap fun q=>tm q.2
 | .makeFunc _ first caps=>first.toList.flatMap tm++caps.toList.flatMap tm
 |_=> []
def guardB (E:Env) (ops:List Oper) (j:Nat) (b:Bool):Option Bool:=
 match ops[j]? with
 |some o=>match o.dst with
  |some t=>match lkp E.sl t with
   |some sv=>gcond sv b
   |none=>none
  |none=>none
 |none=>none
theorem guardB_ok {ops:Array Oper} {j:Nat} {b g:Bool} (hs:St w0 tag0 E tag hv a w) (h:guardB E ops.toList j b=some g):(yielded ops a.tmps j==some b)=g:=by
 unfold guardB at h
 split at h
 ·rename_i o ho
  split at h
  ·rename_i t ht
   split at h
   ·rename_i sv hl
    have ho':ops[j]? =some o:=by rw[←Array.getElem?_toList];exact ho
    have h1:=hs.sl t sv hl
    simp only[Act.eval,Array.getD_eq_getD_getElem?] at h1
    simp only[yielded,ho',Option.bind_some,ht]
    rcases gcond_ok h1 h with ⟨y,hy,hyb⟩|⟨hu,rfl⟩
    ·cases hq:a.tmps[t]? with
     |none=>
      rw[hq] at hy
      simp only[Option.getD_none] at hy
      cases hy
     |some v=>
      rw[hq] at hy
      simp only[Option.getD_some] at hy
      subst hy
      simpa using hyb
    ·cases hq:a.tmps[t]? with
     |none=>rfl
     |some v=>
      rw[hq] at hu
      simp only[Option.getD_some] at hu
      subst hu
      rfl
   ·cases h
  ·cases h
 ·cases h
def argsO (ti:TT) (E:Env):List Operand→List TypeId→Option (List SV)
 | [],_=>some []
 |x::r,ts=>match opd ti E (ts.headD 0) x,argsO ti E r ts.tail with
  |some s,some ss=>some (s::ss)
  |_,_=>none
def Env.shSs (E:Env):List SV→Option (Prop×List SV)
 | []=>some (True,[])
 |y::r=>match E.shS y,E.shSs r with
  |some (C,l),some (D,ls)=>some (C∧D,l::ls)
  |_,_=>none
theorem argsO_ok (hs:St w0 tag0 E tag hv a w): ∀ {xs:List Operand} {ts:List TypeId} {ss:List SV},argsO ti E xs ts=some ss→All2 (SR tag hv w) ss (xs.map a.eval)
 | [],ts,ss,h=>by
  simp only[argsO,Option.some.injEq] at h
  subst h
  exact .nil
 |y::r,ts,ss,h=>by
  simp only[argsO] at h
  split at h
  ·rename_i s ss' h1 h2
   cases h
   exact .cons (opd_ok hs h1) (argsO_ok hs h2)
  ·cases h
theorem shSs_ok {R:List Nat} (hs:St w0 tag0 E tag hv a w): ∀ {ss ss':List SV} {C:Prop} {vs:List Value},E.shSs ss=some (C,ss')→C→(∀k∈ss.flatMap E.nm,k∈R)→All2 (SR tag hv w) ss vs→All2 (SR (lend R tag) hv' w) ss' vs
 | [],ss',C,vs,h,hC,hR,hy=>by
  simp only[Env.shSs,Option.some.injEq,Prod.mk.injEq] at h
  obtain ⟨rfl,rfl⟩:=h
  cases hy
  exact .nil
 |y::r,ss',C,vs,h,hC,hR,hy=>by
  simp only[Env.shSs] at h
  split at h
  ·rename_i C1 l D1 ls h1 h2
   cases h
   cases hy with
   |cons hy hys=>exact .cons (shS_ok hs h1 hC.1 (fun k hk=>hR k (by simp[hk])) hy) (shSs_ok hs h2 hC.2 (fun k hk=>hR k (by rw[List.flatMap_cons];exact List.mem_append_right _ hk)) hys)
  ·cases h
theorem All2.append {α β:Type} {R:α→β→Prop} {as as':List α} {bs bs':List β} (h:All2 R as bs) (h':All2 R as' bs'):All2 R (as++as') (bs++bs'):=by
 induction h with
 |nil=>exact h'
 |cons h _ ih=>exact .cons h ih
def callO (ti:TT) (E:Env) (c:Call):Option (Prop×Nat×List SV×List Nat):=
 match c.callee with
 | .value f=>match opd ti E 0 f,argsO ti E c.args.toList c.argTypes.toList with
  |some (.fn k caps),some ss=>match E.shSs (ss++caps.map SV.p) with
   |some (C,as)=>some (C,k,as,(ss++caps.map SV.p).flatMap E.nm)
   |none=>none
  |_,_=>none
 |_=>none
theorem callO_ok {o:Oper} {c:Call} {C:Prop} {k:Nat} {as:List SV} {R:List Nat} (hs:St w0 tag0 E tag hv a w) (ho:o.op= .call c) (h:callO ti E c=some (C,k,as,R)) (hC:C)
  (hf: ∃fn b,P.funcs[k]? =some fn∧fn.body=some b∧(fn.name== "runtime.NumGoroutine")=false):
  ∃vs:List Value,(execOp a.eval o).run P w= .ok (.enter k vs.toArray) w∧All2 (SR (lend R tag) hv w) as vs:=by
 obtain ⟨callee,args,ats⟩:=c
 unfold callO at h
 simp only at h
 split at h
 ·rename_i f
  split at h
  ·rename_i k' caps ss h1 h2
   split at h
   ·rename_i C' as' h3
    cases h
    obtain ⟨cs,h4,h5⟩:=opd_ok hs h1
    have h6:=argsO_ok hs h2
    have h7:All2 (SR tag hv w) (ss++caps.map SV.p) (args.toList.map a.eval++cs):=h6.append (All2.map_left (f:=SV.p) (R:=SR tag hv w) h5)
    refine ⟨args.toList.map a.eval++cs, ?_,shSs_ok hs h3 hC (fun k hk=>hk) h7⟩
    obtain ⟨fn,b,q1,q2,q3⟩:=hf
    have q4:(args.map a.eval++cs.toArray)=(args.toList.map a.eval++cs).toArray:=by
     apply Array.ext'
     simp
    rw[←q4]
    simp only[execOp,ho,resolve,Sem.run_bind,h4,Deferred.ofValue,Sem.run_pure,Result.andThen_ok,invoke,callFunc,run_program,q1,q3,Bool.false_eq_true,if_false,q2,Option.isNone_some,Array.empty_append]
   ·cases h
  ·cases h
 ·cases h
end Go.Sm
namespace Go.Sm
open Go.RowKit
variable {P : Program} {ti : TT} {E : Env} {tag tag' tag0 : Nat → Tag} {hv hv' : Hv} {a : Act} {w w' w0 : World} {t d : Nat}
def pl:Value→Option Nat
 | .slice (some x) _ _=>some x.block
 | .pointer (some x)=>some x.block
 |_=>none
def normT (tag:Nat→Tag) (hv:Hv):Nat→Tag:=fun b=>match tag b with
 | .own p=>if pl (hv p)=some b then .own p else .off
 |s=>s
theorem normT_sh {b:Nat}:normT tag hv b= .sh↔tag b= .sh:=by
 unfold normT
 cases h:tag b with
 |own p=>simp only;split<;>simp
 |_=>simp
theorem normT_own {b:Nat} {p:List Nat} (h:normT tag hv b= .own p):tag b= .own p∧pl (hv p)=some b:=by
 unfold normT at h
 cases hb:tag b with
 |own q=>
  rw[hb] at h
  simp only at h
  split at h
  ·rename_i h1
   cases h
   exact ⟨rfl,h1⟩
  ·cases h
 |sh=>rw[hb] at h;cases h
 |off=>rw[hb] at h;cases h
theorem normT_one {b b':Nat} {p:List Nat} (h:normT tag hv b= .own p) (h':normT tag hv b'= .own p):b=b':=by
 have h1:=(normT_own h).2
 rw[(normT_own h').2] at h1
 exact (Option.some.inj h1).symm
theorem VR.norm {p:List Nat} {m:Md} {l:Lf} {v:Value} (h:VR tag hv w p m l v):VR (normT tag hv) hv w p m l v:=by
 induction h with
 |dead h1=>exact .dead h1
 |sc h1=>exact .sc h1
 |sh0=>exact .sh0
 |sh cell hn hc ht hl hcell hr ih=>exact .sh cell hn hc (normT_sh.2 ht) hl hcell ih
 |own0 hh=>exact .own0 hh
 |own cur hn hc hm ht hh hb hs hl hr ih=>
  refine .own cur hn hc hm ?_ hh hb hs hl ih
  simp[normT,ht,hh,pl]
theorem LR.norm {l:LV} {v:Value} (h:LR tag hv w l v):LR (normT tag hv) hv w l v:=by
 cases l with
 |s l=>exact VR.norm h
 |_=>exact h
theorem VV.norm {ag:Bool} {ls:List LV} {v:Value} (h:VV tag hv w ag ls v):VV (normT tag hv) hv w ag ls v:=by
 obtain ⟨cs,h1,h2,h3⟩:=h
 exact ⟨cs,h1,h2.imp fun _ _ h=>h.norm,h3⟩
theorem PR.norm {q:PV} {v:Value} (h:PR tag hv w q v):PR (normT tag hv) hv w q v:=by
 cases q with
 |ps ds=>
  obtain ⟨b,off,h1,h2,h3⟩:=h
  refine ⟨b,off,h1,normT_sh.2 h2,fun j hj=> ?_⟩
  obtain ⟨u,hu,hr⟩:=h3 j hj
  exact ⟨u,hu,hr.norm⟩
 |_=>exact h
theorem SR.norm: ∀ {sv:SV} {v:Value},SR tag hv w sv v→SR (normT tag hv) hv w sv v
 | .dead,_,_=>trivial
 | .v ag ls,v,h=>VV.norm h
 | .tu parts,v,h=>by
  obtain ⟨vs,h1,h2⟩:=h
  exact ⟨vs,h1,h2.imp fun _ _ h=>VV.norm h⟩
 | .p q,v,h=>PR.norm h
 | .fn k caps,v,h=>by
  obtain ⟨vs,h1,h2⟩:=h
  exact ⟨vs,h1,h2.imp fun _ _ h=>h.norm⟩
 | .g c s,v,h=>⟨fun hc=>SR.norm (h.1 hc),h.2⟩
 | .pin r q x,v,h=>h
theorem St.norm (hs:St w0 tag0 E tag hv a w):St w0 tag0 E (normT tag hv) hv a w:=by
 refine ⟨hs.nt,hs.df,fun t sv h=>(hs.sl t sv h).norm,fun b ls h=> ?_,fun r x h=>(hs.rt r x h).norm, ?_,fun b hb=> ?_⟩
 ·obtain ⟨k,cur,e,h1,h2,h3,h4⟩:=hs.bx b ls h
  exact ⟨k,cur,e,h1,by simp[normT,h2,h1,pl],h3,h4.imp fun _ _ h=>h.norm⟩
 ·refine ⟨hs.fr.os,hs.fr.tape,hs.fr.output,hs.fr.size,fun b hb hq=> ?_⟩
  obtain ⟨h1,h2⟩:=hs.fr.heap b hb hq
  refine ⟨h1, ?_⟩
  unfold normT
  rcases hq with hq|hq<;>simp[h2,hq]
 ·simp[normT,hs.hi b hb]
theorem lkp_app {α:Type} (l2:List (Nat×α)) (t:Nat): ∀l1:List (Nat×α),lkp (l1++l2) t=match lkp l1 t with|some y=>some y|none=>lkp l2 t
 | []=>rfl
 |(k,x)::r=>by
  simp only[List.cons_append,lkp]
  split
  ·rfl
  ·exact lkp_app l2 t r
def dth (R:Nat→Bool) (P:List (List Nat)) (q:List Nat):Bool:=(match q with|r::_=>R r| []=>true)||P.any fun p=>p.isPrefixOf q
def LV.ct (R:Nat→Bool) (P:List (List Nat)):LV→LV
 | .r q=>if dth R P q=true then .u else .r q
 |l=>l
def PV.ct (R:Nat→Bool) (P:List (List Nat)):PV→Bool
 | .pt q _ _ _=>dth R P q
 | .vw q _ _ _=>dth R P q
 | .bx b _=>dth R P [b,0]
 | .ps _=>false
def SV.ct (R:Nat→Bool) (P:List (List Nat)):SV→SV
 | .v ag ls=> .v ag (ls.map (LV.ct R P))
 | .tu parts=> .tu (parts.map fun q=>(q.1,q.2.map (LV.ct R P)))
 | .p q=>if q.ct R P then .dead else .p q
 | .fn k caps=>if caps.any (PV.ct R P) then .dead else .fn k caps
 | .g c s=> .g c (s.ct R P)
 | .pin r q x=>if dth R P (r::q) then .dead else .pin r q x
 | .dead=> .dead
def hdE (r:Nat):List Nat→Bool
 |k::_=>k==r
 | []=>true
def Env.re (E : Env) (R : Nat → Bool) (P W : List (List Nat)) (rts : List (Nat × Md × Lf)) : Env :=
  { E with sl := E.sl.map (fun x => (x.1, x.2.ct R P)), bx := (delD E.bx fun b => dth R P [b, 0]).map (fun x => (x.1, x.2.map (LV.ct R P))),
           rt := rts ++ delD E.rt fun r => R r || (P.any (hdE r) || W.any (hdE r)) }
structure Hp (R:Nat→Bool) (P W:List (List Nat)) (tag tag':Nat→Tag) (hv hv':Hv) (w w':World):Prop where
 sh: ∀b,b<w.heap.size→tag b= .sh→tag' b= .sh∧w'.heap[b]? =w.heap[b]?
 own: ∀b q,b<w.heap.size→tag b= .own q→dth R P q=false→tag' b= .own q∧(q∉W→w'.heap[b]? =w.heap[b]?)
 off: ∀b,b<w.heap.size→tag b= .off→tag' b= .off∧w'.heap[b]? =w.heap[b]?
 hv: ∀q,dth R P q=false→hv' q=hv q
 os:w'.os=w.os
 tape:w'.tape=w.tape
 output:w'.output=w.output
 size:w.heap.size≤w'.heap.size
 hi: ∀b,w'.heap.size≤b→tag' b= .off
section
variable {R : Nat → Bool} {Ps Ws : List (List Nat)}
theorem VR.hp_s {p p':List Nat} {l:Lf} {v:Value} (h:VR tag hv w p .s l v) (hh:Hp R Ps Ws tag tag' hv hv' w w') (hi: ∀b,w.heap.size≤b→tag b= .off):VR tag' hv' w' p' .s l v:=by
 refine h.move _ (fun b hb=> ?_) (fun rest hr=>by cases hr)
 rcases Nat.lt_or_ge b w.heap.size with hlt|hge
 ·exact hh.sh b hlt hb
 ·rw[hi b hge] at hb;cases hb
theorem VR.hp {p:List Nat} {m:Md} {l:Lf} {v:Value} (h:VR tag hv w p m l v) (hh:Hp R Ps Ws tag tag' hv hv' w w') (hi: ∀b,w.heap.size≤b→tag b= .off) (hd: ∀rest,OwnIn m l rest→dth R Ps (p++rest)=false∧p++rest∉Ws):VR tag' hv' w' p m l v:=by
 refine h.move _ (fun b hb=> ?_) (fun rest hr=>⟨hh.hv _ (hd rest hr).1,fun b hb=> ?_⟩)
 ·rcases Nat.lt_or_ge b w.heap.size with hlt|hge
  ·exact hh.sh b hlt hb
  ·rw[hi b hge] at hb;cases hb
 ·rcases Nat.lt_or_ge b w.heap.size with hlt|hge
  ·have:=hh.own b _ hlt hb (hd rest hr).1
   exact ⟨this.1,this.2 (hd rest hr).2⟩
  ·rw[hi b hge] at hb;cases hb
theorem LR.hp {l:LV} {v:Value} (h:LR tag hv w l v) (hh:Hp R Ps Ws tag tag' hv hv' w w') (hi: ∀b,w.heap.size≤b→tag b= .off):LR tag' hv' w' (l.ct R Ps) v:=by
 cases l with
 |s l=>exact VR.hp_s h hh hi
 |n z=>exact h
 |u=>exact h
 |r p=>
  obtain ⟨h1,A,n,c,h2⟩:=h
  simp only[LV.ct]
  split
  ·rw[h2];rfl
  ·rename_i hne
   exact ⟨by rw[hh.hv p (by simpa using hne)];exact h1,A,n,c,h2⟩
theorem VV.hp {ag:Bool} {ls:List LV} {v:Value} (h:VV tag hv w ag ls v) (hh:Hp R Ps Ws tag tag' hv hv' w w') (hi: ∀b,w.heap.size≤b→tag b= .off):VV tag' hv' w' ag (ls.map (LV.ct R Ps)) v:=by
 obtain ⟨cs,h1,h2,h3⟩:=h
 exact ⟨cs,h1,(h2.imp fun _ _ h=>h.hp hh hi).map_left,by simpa using h3⟩
theorem PR.hp {q:PV} {v:Value} (h:PR tag hv w q v) (hq:q.ct R Ps=false) (hh:Hp R Ps Ws tag tag' hv hv' w w') (hi: ∀b,w.heap.size≤b→tag b= .off):PR tag' hv' w' q v:=by
 cases q with
 |pt p sz i off=>
  obtain ⟨b,n,c,h1,h2⟩:=h
  refine ⟨b,n,c, ?_,h2⟩
  rw[hh.hv p hq]
  exact h1
 |vw p sz lo n=>
  simp only[PR]
  rw[hh.hv p hq]
  exact h
 |bx b off=>
  obtain ⟨k,h1,h2⟩:=h
  refine ⟨k, ?_,h2⟩
  rw[hh.hv [b,0] hq]
  exact h1
 |ps ds=>
  obtain ⟨b,off,h1,h2,h3⟩:=h
  have hb: ∀j,j<ds.length→b<w.heap.size:=fun j hj=>by
   obtain ⟨u,hu,_⟩:=h3 j hj
   exact World.block_lt_of_cell? _ _ hu
  have hsh:tag' b= .sh:=by
   rcases Nat.lt_or_ge b w.heap.size with hlt|hge
   ·exact (hh.sh b hlt h2).1
   ·rw[hi b hge] at h2;cases h2
  refine ⟨b,off,h1,hsh,fun j hj=> ?_⟩
  obtain ⟨u,hu,hr⟩:=h3 j hj
  refine ⟨u, ?_,hr.hp_s hh hi⟩
  rw[World.cell?_of_block (w:=w) ((hh.sh b (hb j hj) h2).2)]
  exact hu
theorem SR.hp: ∀ {sv:SV} {v:Value},SR tag hv w sv v→Hp R Ps Ws tag tag' hv hv' w w'→(∀b,w.heap.size≤b→tag b= .off)→SR tag' hv' w' (sv.ct R Ps) v
 | .dead,_,_,_,_=>trivial
 | .v ag ls,v,h,hh,hi=>VV.hp h hh hi
 | .tu parts,v,h,hh,hi=>by
  obtain ⟨vs,h1,h2⟩:=h
  exact ⟨vs,h1,All2.map_left (h2.imp fun q u h=>VV.hp h hh hi)⟩
 | .p q,v,h,hh,hi=>by
  simp only[SV.ct]
  split
  ·trivial
  ·rename_i hq
   exact PR.hp h (by simpa using hq) hh hi
 | .fn k caps,v,h,hh,hi=>by
  simp only[SV.ct]
  split
  ·trivial
  ·rename_i hq
   obtain ⟨vs,h1,h2⟩:=h
   refine ⟨vs,h1, ?_⟩
   simp only[List.any_eq_true,not_exists,not_and,Bool.not_eq_true] at hq
   clear h1
   induction h2 with
   |nil=>exact .nil
   |cons h hs ih=>exact .cons (PR.hp h (hq _ (by simp)) hh hi) (ih fun x hx=>hq x (by simp[hx]))
 | .g c s,v,h,hh,hi=>⟨fun hc=>SR.hp (h.1 hc) hh hi,h.2⟩
 | .pin r q x,v,h,hh,hi=>by
  simp only[SV.ct]
  split
  ·trivial
  ·rename_i hr
   exact (hh.hv (r::q) (by simpa using hr)).trans h
theorem dth_root {r:Nat} {rest:List Nat} (h:(R r||(Ps.any (hdE r)||Ws.any (hdE r)))=false):dth R Ps (r::rest)=false∧r::rest∉Ws:=by
 simp only[Bool.or_eq_false_iff,List.any_eq_false] at h
 simp only[dth,Bool.or_eq_false_iff,List.any_eq_false]
 refine ⟨⟨h.1,fun p hp=> ?_⟩,fun hm=> ?_⟩
 ·have:=h.2.1 p hp
  cases p with
  |nil=>simp[hdE] at this
  |cons k p=>
   simp only[hdE,beq_iff_eq] at this
   simp[List.isPrefixOf,this]
 ·have:=h.2.2 _ hm
  simp[hdE] at this
theorem St.re (hs:St w0 tag0 E tag hv a w) (hh:Hp R Ps Ws tag tag' hv hv' w w') (hW: ∀q∈Ws,q.length≠2) {rts:List (Nat×Md×Lf)} (hrt: ∀r y,lkp rts r=some y→VR tag' hv' w' [r] y.1 y.2 (hv' [r])):St w0 tag0 (E.re R Ps Ws rts) tag' hv' a w':=by
 have hi:=hs.hi
 refine ⟨hs.nt,hs.df,fun t sv h=> ?_,fun b ls h=> ?_,fun r x h=> ?_,hs.fr.step hh.os hh.tape hh.output hh.size fun b hb hq=> ?_,hh.hi⟩
 ·simp only[Env.re,lkp_map] at h
  obtain ⟨sv0,h1,rfl⟩:=Option.map_eq_some_iff.1 h
  exact SR.hp (hs.sl t sv0 h1) hh hi
 ·simp only[Env.re,lkp_map,lkp_delD] at h
  obtain ⟨ls0,h1,rfl⟩:=Option.map_eq_some_iff.1 h
  split at h1
  ·cases h1
  ·rename_i hne
   obtain ⟨k,cur,e,h2,h3,h4,h5⟩:=hs.bx b ls0 h1
   have hk:k<w.heap.size:=by
    rcases Nat.lt_or_ge k w.heap.size with hlt|hge
    ·exact hlt
    ·rw[Array.getElem?_eq_none hge] at h4;cases h4
   have h6:=hh.own k [b,0] hk h3 (by simpa using hne)
   exact ⟨k,cur,e,by rw[hh.hv [b,0] (by simpa using hne)];exact h2,h6.1,(h6.2 (fun hm=>hW _ hm rfl)).trans h4,(h5.imp fun _ _ h=>h.hp hh hi).map_left⟩
 ·simp only[Env.re,lkp_app] at h
  split at h
  ·rename_i z hz
   cases h
   exact hrt r _ hz
  ·rw[lkp_delD] at h
   split at h
   ·cases h
   ·rename_i hne
    have hne':(R r||(Ps.any (hdE r)||Ws.any (hdE r)))=false:=by simpa using hne
    have:=(hs.rt r x h).hp hh hi (fun rest _=>dth_root hne')
    rw[hh.hv [r] (dth_root hne').1]
    exact this
 ·rcases hq with hq|hq
  ·have:=hh.sh b hb hq
   exact ⟨this.2,this.1.trans hq.symm⟩
  ·have:=hh.off b hb hq
   exact ⟨this.2,this.1.trans hq.symm⟩
end
end Go.Sm
namespace Go.Sm
open Go.RowKit
variable {P : Program} {ti : TT} {E : Env} {tag tag' tag0 : Nat → Tag} {hv hv' : Hv} {a : Act} {w w' w0 : World} {t d : Nat}
theorem setM_len {α:Type}: ∀ (ys l:List α) (off:Nat),(setM l off ys).length=l.length
 | [],_,_=>rfl
 |y::r,l,off=>by simp[setM,setM_len r]
theorem setM_get {α:Type}: ∀ (ys l:List α) (off j:Nat),(setM l off ys)[j]? =if off≤j∧j<off+ys.length then (if j<l.length then ys[j-off]? else none) else l[j]?
 | [],l,off,j=>by rw[if_neg (by simp only[List.length_nil];omega)];rfl
 |y::r,l,off,j=>by
  simp only[setM,setM_get r,List.length_set,List.length_cons]
  by_cases h:j=off
  ·subst h
   rw[if_neg (by omega),if_pos (by omega),List.getElem?_set_self']
   simp only[Nat.sub_self,List.getElem?_cons_zero]
   split
   ·rename_i h2
    rw[List.getElem?_eq_getElem h2];rfl
   ·rename_i h2
    rw[List.getElem?_eq_none (by omega)];rfl
  ·by_cases h2:off+1≤j∧j<off+1+r.length
   ·rw[if_pos h2,if_pos (show off≤j∧j<off+(r.length+1) by omega),show j-off=(j- (off+1))+1 by omega]
    simp
   ·rw[if_neg h2,if_neg (show¬(off≤j∧j<off+(r.length+1)) by omega),List.getElem?_set_ne (by omega)]
def spl {α:Type} (n off:Nat) (l ys:List α):List α:=if off=0∧ys.length=n then ys else setM l off ys
theorem spl_in {α:Type} {n off j:Nat} {l ys:List α} {x:α} (h:off≤j∧j<off+ys.length) (hx:(spl n off l ys)[j]? =some x):ys[j-off]? =some x:=by
 unfold spl at hx
 split at hx
 ·rename_i h2
  simpa [h2.1] using hx
 ·rw[setM_get,if_pos h] at hx
  split at hx
  ·exact hx
  ·cases hx
theorem spl_in' {α:Type} {n off j:Nat} {l ys:List α} (h:off≤j∧j<off+ys.length) (hl:l.length=n) (hn:off+ys.length≤n):(spl n off l ys)[j]? =ys[j-off]? :=by
 unfold spl
 split
 ·rename_i h2
  simp[h2.1]
 ·rw[setM_get,if_pos h,if_pos (by omega)]
theorem spl_out {α:Type} {n off j:Nat} {l ys:List α} (h: ¬(off≤j∧j<off+ys.length)) (hj:j<n):(spl n off l ys)[j]? =l[j]? :=by
 unfold spl
 split
 ·rename_i h2
  omega
 ·rw[setM_get,if_neg h]
theorem spl_len {α:Type} {n off:Nat} {l ys:List α} (hl:l.length=n):(spl n off l ys).length=n:=by
 unfold spl
 split
 ·rename_i h2
  exact h2.2
 ·rw[setM_len,hl]
def setR:List Nat→Nat→Nat→List (Md×Lf)→Md×Lf→Md×Lf
 | [],i,off,ys,(.o e cols,.ls z rows)=>
  (.o e (fun k=>if k=i then spl z.length off (cols i) (ys.map (·.1)) else cols k),.ls z (rows.set i (spl z.length off (rows.getD i z) (ys.map (·.2)))))
 |i0::j0::rest,i,off,ys,(.o e cols,.ls z rows)=>
  (.o e (fun k=>if k=i0 then (cols i0).set j0 (setR rest i off ys (md cols i0 j0,lf z rows i0 j0)).1 else cols k),
   .ls z (rows.set i0 ((rows.getD i0 z).set j0 (setR rest i off ys (md cols i0 j0,lf z rows i0 j0)).2)))
 |_,_,_,_,x=>x
theorem rows_setr_len {z:List Lf} {rows:List (List Lf)} {i:Nat} {row:List Lf} (hrow:row.length=z.length) (hl: ∀i,i<rows.length→(rows.getD i z).length=z.length):
  ∀i',i'< (rows.set i row).length→((rows.set i row).getD i' z).length=z.length:=by
 intro i' h'
 rw[List.length_set] at h'
 by_cases h1:i'=i
 ·subst h1
  rw[List.getD_eq_getElem?_getD,List.getElem?_set_self h']
  exact hrow
 ·rw[List.getD_eq_getElem?_getD,List.getElem?_set_ne (Ne.symm h1),←List.getD_eq_getElem?_getD]
  exact hl _ h'
theorem VR.updR {e:Nat} {cols:Nat→List Md} {z:List Lf} {rows:List (List Lf)} {i off:Nat} {ys:List (Md×Lf)} {us:List Value} (hi:i<rows.length) (hoff:off+ys.length≤z.length):
  ∀ (rest p:List Nat) (m:Md) (l:Lf) (v:Value),VR tag hv w p m l v→vldL rest (m,l)→getL rest (m,l)=some (.o e cols,.ls z rows)→
  (∀b,tag b= .sh→tag' b= .sh∧w'.heap[b]? =w.heap[b]?)→
  (∀q,OwnIn m l q→(∀j,j<ys.length→ ¬(rest++ [i,off+j])<+:q)→hv' (p++q)=hv (p++q)∧ ∀b,tag b= .own (p++q)→tag' b= .own (p++q)∧(q≠rest→w'.heap[b]? =w.heap[b]?))→
  (∀b cur,tag b= .own (p++rest)→w.heap[b]? =some (.cells cur e (0,0))→ ∃cur',w'.heap[b]? =some (.cells cur' e (0,0))∧cur'.size=cur.size∧
   ∀k,cur'.getD k default=if i*z.length+off≤k∧k<i*z.length+off+ys.length then us.getD (k- (i*z.length+off)) default else cur.getD k default)→
  (∀j y,ys[j]? =some y→VR tag' hv' w' (p++rest++ [i,off+j]) y.1 y.2 (us.getD j default))→
  VR tag' hv' w' p (setR rest i off ys (m,l)).1 (setR rest i off ys (m,l)).2 v
 | [],p,m,l,v,h,hv0,hg,hs,ho,hb,hu=>by
  simp only[getL,Option.some.injEq,Prod.mk.injEq] at hg
  obtain ⟨rfl,rfl⟩:=hg
  obtain ⟨hh,h0|⟨b,c,cur,rfl,hc,hm,ht,hbl,hsz,hl,hr⟩⟩:=h.open_own
  ·rw[h0.2] at hi
   simp at hi
  ·have h00:=ho [] .here (by simp)
   simp only[List.append_nil] at h00 hb
   obtain ⟨cur',hb',hs',hk⟩:=hb b cur ht hbl
   have hlt:i*z.length+z.length≤cur.size:=by
    rw[hsz]
    have h1:(i+1)*z.length≤c*z.length:=Nat.mul_le_mul_right _ (by omega)
    rw[Nat.add_mul] at h1
    omega
   have hrl:(spl z.length off (rows.getD i z) (ys.map (·.2))).length=z.length:=spl_len (hl i hi)
   simp only[setR]
   refine .own cur' (by simp) hc hm (h00.2 b ht).1 (h00.1.trans hh) hb' (hs'.trans hsz) (fun i' h'=>rows_setr_len hrl hl i' (by simpa using h')) (fun i' j' hi' hj'=> ?_)
   rw[hk (i'*z.length+j')]
   by_cases hij:i'=i∧off≤j'∧j'<off+ys.length
   ·obtain ⟨rfl,h1,h2⟩:=hij
    rw[if_pos (by omega)]
    have hy:ys[j'-off]? =some ys[j'-off]:=List.getElem?_eq_getElem (by omega)
    have hu':=hu (j'-off) _ hy
    simp only[List.append_nil] at hu'
    rw[show off+(j'-off)=j' by omega] at hu'
    rw[show i'*z.length+j'- (i'*z.length+off)=j'-off by omega]
    have hlf:lf z (rows.set i' (spl z.length off (rows.getD i' z) (ys.map (·.2)))) i' j'=(ys[j'-off]).2:=by
     simp only[lf]
     rw[List.getD_eq_getElem?_getD (l:=rows.set _ _),List.getElem?_set_self hi,Option.getD_some,List.getD_eq_getElem?_getD,spl_in' (by simpa using ⟨h1,h2⟩) (hl _ hi) (by simpa using hoff)]
     rw[List.getElem?_map,hy]
     rfl
    rw[hlf]
    have hmd:md (fun k=>if k=i' then spl z.length off (cols i') (ys.map (·.1)) else cols k) i' j'=(ys[j'-off]).1∨md (fun k=>if k=i' then spl z.length off (cols i') (ys.map (·.1)) else cols k) i' j'= .x:=by
     simp only[md,if_true]
     rw[List.getD_eq_getElem?_getD]
     cases hx:(spl z.length off (cols i') (ys.map (·.1)))[j']? with
     |none=>exact .inr rfl
     |some x1=>
      have:=spl_in (by simpa using ⟨h1,h2⟩) hx
      rw[List.getElem?_map,hy] at this
      cases this
      exact .inl rfl
    rcases hmd with h3|h3
    ·rw[h3];exact hu'
    ·rw[h3];exact .dead hu'.one
   ·have hne: ¬(i*z.length+off≤i'*z.length+j'∧i'*z.length+j'<i*z.length+off+ys.length):=by
     intro h4
     by_cases h5:i'=i
     ·subst h5
      exact hij ⟨rfl,by omega,by omega⟩
     ·exact idx_ne (i:=i) (j:=i'*z.length+j'-i*z.length) (by omega) hj' (fun e=>h5 e.1) (by omega)
    rw[if_neg hne]
    have hlf:lf z (rows.set i (spl z.length off (rows.getD i z) (ys.map (·.2)))) i' j'=lf z rows i' j':=by
     simp only[lf]
     by_cases h5:i'=i
     ·subst h5
      rw[List.getD_eq_getElem?_getD (l:=rows.set _ _),List.getElem?_set_self hi,Option.getD_some,List.getD_eq_getElem?_getD,spl_out (by simpa using fun h=>by have:=hij;simp[h] at this;omega) hj',←List.getD_eq_getElem?_getD]
     ·rw[List.getD_eq_getElem?_getD (l:=rows.set _ _),List.getElem?_set_ne (Ne.symm h5),←List.getD_eq_getElem?_getD]
    have hmd:md (fun k=>if k=i then spl z.length off (cols i) (ys.map (·.1)) else cols k) i' j'=md cols i' j':=by
     simp only[md]
     by_cases h5:i'=i
     ·subst h5
      rw[if_pos rfl,List.getD_eq_getElem?_getD,spl_out (by simpa using fun h=>by have:=hij;simp[h] at this;omega) hj',←List.getD_eq_getElem?_getD]
     ·rw[if_neg h5]
    rw[hlf,hmd]
    refine (hr i' j' hi' hj').move _ hs (fun q hq=> ?_)
    have h1:=ho ([i',j']++q) (.deep hi' hj' hq) (by
     rintro j hj ⟨t,ht⟩
     simp only[List.nil_append,List.cons_append,List.cons.injEq] at ht
     exact hij ⟨ht.1.symm,by omega,by omega⟩)
    simp only[List.append_assoc]
    exact ⟨h1.1,fun b hb=>⟨((h1.2 b hb).1),(h1.2 b hb).2 (by simp)⟩⟩
 | [_],p,m,l,v,h,hv0,hg,hs,ho,hb,hu=>by cases m<;>cases l<;>simp[vldL] at hv0
 |i0::j0::rest,p,m,l,v,h,hv0,hg,hs,ho,hb,hu=>by
  cases m with
  |s=>cases l<;>simp[vldL] at hv0
  |x=>cases l<;>simp[vldL] at hv0
  |o e0 cols0=>
   cases l with
   |sc u=>simp[vldL] at hv0
   |ls z0 rows0=>
    simp only[vldL] at hv0
    simp only[getL] at hg
    obtain ⟨hh,h0|⟨b,c,cur,rfl,hc,hm,ht,hbl,hsz,hl,hr⟩⟩:=h.open_own
    ·rw[h0.2] at hv0
     simp at hv0
    ·have h00:=ho [] .here (by simp)
     simp only[List.append_nil] at h00
     have hsame:=((h00.2 b ht).2 (by simp)).trans hbl
     simp only[setR]
     refine .own cur (by simp) hc hm (h00.2 b ht).1 (h00.1.trans hh) hsame hsz (fun i' h'=>rows_set_len hv0.1 hl i' (by simpa using h')) (fun i' j' hi' hj'=> ?_)
     by_cases hij:i'=i0∧j'=j0
     ·obtain ⟨rfl,rfl⟩:=hij
      have ih:=VR.updR hi hoff rest (p++ [i',j']) _ _ _ (hr i' j' hi' hj') hv0.2.2 hg hs (fun q hq hn=>by
        have h1:=ho ([i',j']++q) (.deep hi' hj' hq) (by
         rintro j hj ⟨t,ht⟩
         simp only[List.cons_append,List.nil_append,List.cons.injEq,true_and] at ht
         exact hn j hj ⟨t,ht⟩)
        simp only[List.append_assoc]
        refine ⟨h1.1,fun b hb=>⟨(h1.2 b hb).1,fun hne=>(h1.2 b hb).2 (fun e=> ?_)⟩⟩
        simp only[List.cons_append,List.nil_append,List.cons.injEq,true_and] at e
        exact hne e)
       (fun b' cur' ht' hb'=>hb b' cur' (by simpa using ht') hb') (fun j y hy=>by simpa using hu j y hy)
      rw[lf_set_same hv0.1 hv0.2.1 (hl _ hv0.1)]
      rcases md_set_same (cols:=cols0) (i:=i') (j:=j') (y:=(setR rest i off ys (md cols0 i' j',lf z0 rows0 i' j')).1) with h1|h1
      ·rw[h1];exact ih
      ·rw[h1];exact .dead ih.one
     ·rw[lf_set_other hv0.1 hij,md_set_other hij]
      refine (hr i' j' hi' hj').move _ hs (fun q hq=> ?_)
      have h1:=ho ([i',j']++q) (.deep hi' hj' hq) (by
       rintro j hj ⟨t,ht⟩
       simp only[List.cons_append,List.nil_append,List.cons.injEq] at ht
       exact hij ⟨ht.1.symm,ht.2.1.symm⟩)
      simp only[List.append_assoc]
      refine ⟨h1.1,fun b hb=>⟨(h1.2 b hb).1,(h1.2 b hb).2 (fun e=> ?_)⟩⟩
      simp only[List.cons_append,List.nil_append,List.cons.injEq] at e
      exact hij ⟨e.1,e.2.1⟩
end Go.Sm
namespace Go.Sm
open Go.RowKit
variable {P : Program} {ti : TT} {E : Env} {tag tag' tag0 : Nat → Tag} {hv hv' : Hv} {a : Act} {w w' w0 : World} {t d : Nat}
abbrev MvL:=List (Nat×List Nat)
def Lt (L:MvL):List Nat→Option (List Nat)
 |k::q=>(lkp L k).map (· ++q)
 | []=>none
def Lh:MvL→List Nat→Option (List Nat)
 | [],_=>none
 |(k,p)::r,q=>if p.isPrefixOf q=true then some (k::q.drop p.length) else Lh r q
def mvT (T H:List Nat→Option (List Nat)) (tag:Nat→Tag):Nat→Tag:=fun b=>match tag b with
 | .own q=>match T q with
  |some q'=> .own q'
  |none=>if (H q).isSome=true then .off else .own q
 |s=>s
def mvH (H:List Nat→Option (List Nat)) (hv:Hv):Hv:=fun q=>match H q with
 |some q0=>hv q0
 |none=>hv q
theorem lkp_of_mem {α:Type} {k:Nat} {x:α}: ∀ {L:List (Nat×α)},(L.map (·.1)).Nodup→(k,x)∈L→lkp L k=some x
 | [],_,h=>by cases h
 |(k',y)::r,hn,h=>by
  simp only[List.map_cons,List.nodup_cons] at hn
  simp only[lkp]
  rcases List.mem_cons.1 h with e|h
  ·cases e
   simp
  ·have:k'≠k:=fun e=>hn.1 (e▸List.mem_map.2 ⟨_,h,rfl⟩)
   rw[if_neg this]
   exact lkp_of_mem hn.2 h
theorem prefix_same {p q rest:List Nat} (hl:p.length=q.length) (h:p<+:q++rest):p=q:=by
 obtain ⟨t,ht⟩:=h
 exact (List.append_inj ht hl).1
theorem Lh_of {rest:List Nat} {k:Nat} {p:List Nat}: ∀ {L:MvL},(∀x∈L,x.2.length=p.length)→(∀x∈L,x.2=p→x=(k,p))→(k,p)∈L→Lh L (p++rest)=some (k::rest)
 | [],_,_,h=>by cases h
 |(k',p')::r,hl,hu,h=>by
  simp only[Lh]
  split
  ·rename_i hp
   have hp':=prefix_same (hl (k',p') (by simp)) (List.isPrefixOf_iff_prefix.1 hp)
   have:=hu (k',p') (by simp) hp'
   cases this
   simp
  ·rename_i hp
   rcases List.mem_cons.1 h with e|h
   ·cases e
    exact absurd (List.isPrefixOf_iff_prefix.2 (List.prefix_append p rest)) hp
   ·exact Lh_of (fun x hx=>hl x (by simp[hx])) (fun x hx=>hu x (by simp[hx])) h
theorem Lh_none {q:List Nat}: ∀ {L:MvL},(∀x∈L,x.2.isPrefixOf q=false)→Lh L q=none
 | [],_=>rfl
 |(k',p')::r,h=>by
  simp only[Lh]
  rw[if_neg (by simp[h (k',p') (by simp)])]
  exact Lh_none fun x hx=>h x (by simp[hx])
theorem lkp_none_keys {α:Type} {k:Nat}: ∀ {L:List (Nat×α)},(L.map (·.1)).contains k=false→lkp L k=none
 | [],_=>rfl
 |(k',x)::r,h=>by
  simp only[List.map_cons,List.contains_cons,Bool.or_eq_false_iff,beq_eq_false_iff_ne,ne_eq] at h
  simp only[lkp]
  rw[if_neg (fun e=>h.1 e.symm)]
  exact lkp_none_keys h.2
def mvs (p:List Nat) (i:Nat):Nat→List LV→MvL
 |_,[]=> []
 |j,.r [k]::r=>(k,p++ [i,j])::mvs p i (j+1) r
 |j,_::r=>mvs p i (j+1) r
theorem mvs_mem {p:List Nat} {i:Nat} {x:Nat×List Nat}: ∀ {ls:List LV} {j:Nat},x∈mvs p i j ls→ ∃t,ls[t]? =some (.r [x.1])∧x.2=p++ [i,j+t]
 | [],j,h=>by simp[mvs] at h
 |y::r,j,h=>by
  have hr:x∈mvs p i (j+1) r→ ∃t,(y::r)[t]? =some (.r [x.1])∧x.2=p++ [i,j+t]:=fun h=>by
   obtain ⟨t,h1,h2⟩:=mvs_mem h
   exact ⟨t+1,by simpa using h1,by rw[h2,show j+1+t=j+(t+1) by omega]⟩
  unfold mvs at h
  split at h
  ·cases ‹_::_= []›
  ·rename_i heq
   injection heq with h1 h2
   subst h1
   subst h2
   rcases List.mem_cons.1 h with rfl|h
   ·exact ⟨0,rfl,rfl⟩
   ·exact hr h
  ·rename_i heq
   injection heq with h1 h2
   subst h1
   subst h2
   exact hr h
theorem mvs_of {p:List Nat} {i k:Nat}: ∀ {ls:List LV} {j t:Nat},ls[t]? =some (.r [k])→(k,p++ [i,j+t])∈mvs p i j ls
 | [],j,t,h=>by simp at h
 |y::r,j,0,h=>by
  simp only[List.getElem?_cons_zero,Option.some.injEq] at h
  subst h
  simp[mvs]
 |y::r,j,t+1,h=>by
  simp only[List.getElem?_cons_succ] at h
  have:=mvs_of (p:=p) (i:=i) (j:=j+1) h
  rw[show j+1+t=j+(t+1) by omega] at this
  unfold mvs
  split
  ·cases ‹_::_= []›
  ·rename_i heq
   injection heq with h1 h2
   subst h2
   exact List.mem_cons_of_mem _ this
  ·rename_i heq
   injection heq with h1 h2
   subst h2
   exact this
def Env.yv (E:Env):LV→Option (Md×Lf)
 | .s l=>some (.s,l)
 | .n z=>some (.s,.ls z [])
 | .u=>some (.x,default)
 | .r [k]=>lkp E.rt k
 | .r _=>none
def Env.yvs (E:Env):List LV→Option (List (Md×Lf))
 | []=>some []
 |y::r=>match E.yv y,E.yvs r with
  |some x,some xs=>some (x::xs)
  |_,_=>none
theorem yvs_len: ∀ {ls:List LV} {ys:List (Md×Lf)},E.yvs ls=some ys→ys.length=ls.length
 | [],ys,h=>by simp only[Env.yvs,Option.some.injEq] at h;subst h;rfl
 |y::r,ys,h=>by
  simp only[Env.yvs] at h
  split at h
  ·rename_i x xs h1 h2
   cases h
   simp[yvs_len h2]
  ·cases h
theorem yvs_get: ∀ {ls:List LV} {ys:List (Md×Lf)} {j:Nat} {y:Md×Lf},E.yvs ls=some ys→ys[j]? =some y→ ∃x,ls[j]? =some x∧E.yv x=some y
 | [],ys,j,y,h,hj=>by simp only[Env.yvs,Option.some.injEq] at h;subst h;simp at hj
 |x::r,ys,j,y,h,hj=>by
  simp only[Env.yvs] at h
  split at h
  ·rename_i x1 xs h1 h2
   cases h
   cases j with
   |zero=>
    simp only[List.getElem?_cons_zero,Option.some.injEq] at hj
    subst hj
    exact ⟨x,rfl,h1⟩
   |succ j=>
    simp only[List.getElem?_cons_succ] at hj
    obtain ⟨u1,h3,h4⟩:=yvs_get h2 hj
    exact ⟨u1,by simpa using h3,h4⟩
  ·cases h
theorem mvT_sh {T H:List Nat→Option (List Nat)} {b:Nat} (h:tag b= .sh):mvT T H tag b= .sh:=by simp[mvT,h]
theorem mvT_off {T H:List Nat→Option (List Nat)} {b:Nat} (h:tag b= .off):mvT T H tag b= .off:=by simp[mvT,h]
theorem mvT_own {T H:List Nat→Option (List Nat)} {b:Nat} {q:List Nat} (h:tag b= .own q) (h1:T q=none) (h2:H q=none):mvT T H tag b= .own q:=by simp[mvT,h,h1,h2]
theorem mvT_mv {T H:List Nat→Option (List Nat)} {b:Nat} {q q':List Nat} (h:tag b= .own q) (h1:T q=some q'):mvT T H tag b= .own q':=by simp[mvT,h,h1]
theorem mvH_none {H:List Nat→Option (List Nat)} {q:List Nat} (h:H q=none):mvH H hv q=hv q:=by simp[mvH,h]
theorem mvH_some {H:List Nat→Option (List Nat)} {q q0:List Nat} (h:H q=some q0):mvH H hv q=hv q0:=by simp[mvH,h]
theorem yv_ok {R:Nat→Bool} {Ps Ws:List (List Nat)} (hs:St w0 tag0 E tag hv a w) (hh:Hp R Ps Ws tag tag' hv hv' w w') {x:LV} {y:Md×Lf} {c:Value} {p':List Nat} (hy:E.yv x=some y) (hc:LR tag hv w x c)
  (hmv: ∀k,x= .r [k]→ ∀rest,hv' (p'++rest)=hv (k::rest)∧ ∀b,tag b= .own (k::rest)→tag' b= .own (p'++rest)∧w'.heap[b]? =w.heap[b]?):VR tag' hv' w' p' y.1 y.2 c:=by
 cases x with
 |s l=>
  simp only[Env.yv,Option.some.injEq] at hy
  subst hy
  exact VR.hp_s hc hh hs.hi
 |n z=>
  simp only[Env.yv,Option.some.injEq] at hy
  subst hy
  rw[show c= .slice none 0 0 from hc]
  exact .sh0
 |u=>
  simp only[Env.yv,Option.some.injEq] at hy
  subst hy
  exact .dead hc
 |r q=>
  match q,hy,hc,hmv with
  | [],hy,_,_=>simp[Env.yv] at hy
  |_::_::_,hy,_,_=>simp[Env.yv] at hy
  | [k],hy,hc,hmv=>
   simp only[Env.yv] at hy
   have h1:=hs.rt k y hy
   rw[hc.1]
   refine h1.move _ (fun b hb=> ?_) (fun rest _=>hmv k rfl rest)
   rcases Nat.lt_or_ge b w.heap.size with hlt|hge
   ·exact hh.sh b hlt hb
   ·rw[hs.hi b hge] at hb;cases hb
def Env.stPt (E:Env) (p:List Nat) (i off:Nat) (new:List LV):Option (Prop×Env):=
 match p with
 |r::rest=>match lkp E.rt r,E.yvs new with
  |some x,some ys=>match getL rest x with
   |some (.o _ _,.ls z rows)=>some (vldL rest x∧i<rows.length∧off+ys.length≤z.length∧((mvs p i off new).map (·.1)).contains r=false∧((mvs p i off new).map (·.1)).Nodup,
     E.re (fun k=>((mvs p i off new).map (·.1)).contains k) ((mvs p i off new).map (·.2)) [p] [(r,setR rest i off ys x)])
   |_=>none
  |_,_=>none
 | []=>none
theorem getL_len: ∀ {rest:List Nat} {x y:Md×Lf},getL rest x=some y→rest.length%2=0
 | [],_,_,_=>rfl
 | [_],x,_,h=>by simp[getL] at h
 |i::j::rest,(m,l),y,h=>by
  cases m with
  |o e cols=>cases l with
   |ls z rows=>
    simp only[getL] at h
    have:=getL_len h
    simp only[List.length_cons]
    omega
   |sc v=>simp[getL] at h
  |_=>simp[getL] at h
theorem St.storePt (hT:TGood P ti) (hs:St w0 tag0 E tag hv a w) {p:List Nat} {sz i off:Nat} {new:List LV} {ag:Bool} {X V:Value} {C:Prop} {E':Env} (hok:(ti t).ok=true)
  (hp:SR tag hv w (.p (.pt p sz i off)) X) (hv1:VV tag hv w ag new V) (hlen:new.length=(ti t).sz) (hst:E.stPt p i off new=some (C,E')) (hC:C)
  (hsz: ∀z,(∃r rest x e cols rows,p=r::rest∧lkp E.rt r=some x∧getL rest x=some (.o e cols,.ls z rows))→z.length=sz):
  ∃w' tag' hv',(Instr.storeAt t X V).run P w= .ok () w'∧St w0 tag0 E' tag' hv' a w':=by
 have hs0:=hs
 replace hs:=hs.norm
 replace hv1:=hv1.norm
 have hone: ∀ {b b':Nat} {p:List Nat},normT tag hv b= .own p→normT tag hv b'= .own p→b=b':=normT_one
 have hp:PR (normT tag hv) hv w (.pt p sz i off) X:=PR.norm hp
 generalize normT tag hv=tag at hs hv1 hone hp
 cases p with
 |nil=>simp[Env.stPt] at hst
 |cons r rest=>
  simp only[Env.stPt] at hst
  split at hst
  ·rename_i x ys hx hys
   split at hst
   ·rename_i e cols z rows hg
    cases hst
    obtain ⟨hvl,hi,hoff,hrk,hnd⟩:=hC
    have hzs:z.length=sz:=hsz z ⟨r,rest,x,e,cols,rows,rfl,hx,hg⟩
    have hroot:=hs.rt r x hx
    obtain ⟨v',h1,_⟩:=VR.get rest [r] _ _ _ _ _ hroot hvl hg
    obtain ⟨hh1,h0|⟨b,c,cur,rfl,hc,hm,ht,hbl,hcs,hl,hr⟩⟩:=h1.open_own
    ·rw[h0.2] at hi;simp at hi
    obtain ⟨b',n',c',hp1,rfl⟩:=hp
    rw[show ([r]++rest)=r::rest from rfl] at hh1 ht
    rw[hh1] at hp1
    cases hp1
    obtain ⟨cs,rfl,hcs2,hag⟩:=hv1
    have hcells:=cells_mkV hcs2 hag
    have hcl:cs.length=new.length:=hcs2.len.symm
    have hyl:=yvs_len hys
    have hlt:i*z.length+z.length≤cur.size:=by
     rw[hcs]
     have h1:(i+1)*z.length≤c*z.length:=Nat.mul_le_mul_right _ (by omega)
     rw[Nat.add_mul] at h1
     omega
    obtain ⟨w',q1,q2,q3,q4,q5,q6,cur',q7,q8,q9⟩:=run_storeCells_blk (P:=P) b e cs cur (i*sz+off) 0 w hbl (by rw[←hzs];omega) (fun v hv=>by
     obtain ⟨j,hj⟩:=List.getElem?_of_mem hv
     have hj2:j<new.length:=by rw[←hcl];exact (List.getElem?_eq_some_iff.1 hj).1
     exact (hcs2.get j _ _ (List.getElem?_eq_getElem hj2) hj).one)
    have g:=hT t hok
    have hrun:(Instr.storeAt t (.pointer (some ⟨b,i*sz+off,none⟩)) (mkV ag cs)).run P w= .ok () w':=by
     have hsz2:=g.size w
     have h10:(mkV ag cs).cells.size=(ti t).sz:=by rw[←Array.length_toList,hcells,hcl,hlen]
     simp only[Instr.storeAt,Instr.sureAddr,Sem.run_bind,Sem.run_pure,Result.andThen_ok,storeVar,hsz2,h10,ne_eq,not_true_eq_false,if_false,hcells]
     exact q1
    have hneb: ∀b',tag b'≠ .own (r::rest)→w'.heap[b']? =w.heap[b']? :=fun b' hne=>q6 b' (fun e=>hne (e▸ht))
    generalize hL:mvs (r::rest) i off new=L at*
    have hpre: ∀x∈L,∃t,new[t]? =some (.r [x.1])∧x.2=(r::rest)++ [i,off+t]:=fun x hx=>mvs_mem (by rw[hL];exact hx)
    have hdl: ∀q,dth (fun k=>(L.map (·.1)).contains k) (L.map (·.2)) q=false→Lt L q=none∧Lh L q=none:=fun q hq=>by
     simp only[dth,Bool.or_eq_false_iff,List.any_eq_false] at hq
     refine ⟨?_,Lh_none fun x hx=> ?_⟩
     ·cases q with
      |nil=>rfl
      |cons k q=>simp only[Lt,lkp_none_keys hq.1,Option.map_none]
     ·exact Bool.eq_false_iff.2 (hq.2 x.2 (List.mem_map.2 ⟨x,hx,rfl⟩))
    have hHp:Hp (fun k=>(L.map (·.1)).contains k) (L.map (·.2)) [r::rest] tag (mvT (Lt L) (Lh L) tag) hv (mvH (Lh L) hv) w w':=by
     refine ⟨fun b' _ hb'=>⟨mvT_sh hb',hneb b' (by rw[hb'];intro e;cases e)⟩,fun b' q _ hb' hq=> ?_,fun b' _ hb'=>⟨mvT_off hb',hneb b' (by rw[hb'];intro e;cases e)⟩,fun q hq=>mvH_none (hdl q hq).2,q2,q3,q4,by omega,fun b' hb'=>mvT_off (hs.hi b' (by omega))⟩
     refine ⟨mvT_own hb' (hdl q hq).1 (hdl q hq).2,fun hm=>hneb b' ?_⟩
     rw[hb']
     intro e
     injection e with e
     exact hm (by simp[e])
    have hLh: ∀q,(∀j,j<ys.length→ ¬(rest++ [i,off+j])<+:q)→Lh L (r::q)=none:=fun q hq=>Lh_none fun x hx=>by
     obtain ⟨t,h1,h2⟩:=hpre x hx
     cases hz:x.2.isPrefixOf (r::q) with
     |false=>rfl
     |true=>
      exfalso
      have h3:=List.isPrefixOf_iff_prefix.1 hz
      rw[h2] at h3
      obtain ⟨u,hu⟩:=h3
      simp only[List.cons_append,List.cons.injEq,true_and] at hu
      exact hq t (by rw[hyl];exact (List.getElem?_eq_some_iff.1 h1).1) ⟨u,by simpa using hu⟩
    have hLt: ∀q,Lt L (r::q)=none:=fun q=>by simp only[Lt,lkp_none_keys hrk,Option.map_none]
    refine ⟨w',mvT (Lt L) (Lh L) tag,mvH (Lh L) hv,hrun,hs.re hHp (fun q hq=> ?_) (fun r' y hl'=> ?_)⟩
    ·simp only[List.mem_singleton] at hq
     subst hq
     have:=getL_len hg
     simp only[List.length_cons]
     omega
    ·simp only[lkp] at hl'
     split at hl'
     ·rename_i he
      subst he
      cases hl'
      have hhr:mvH (Lh L) hv [r]=hv [r]:=mvH_none (hLh [] (fun j _ hp=>by
       obtain ⟨u,hu⟩:=hp
       simp at hu))
      rw[hhr]
      refine VR.updR (us:=cs) hi hoff rest [r] x.1 x.2 _ hroot hvl hg (fun b' hb'=>⟨mvT_sh hb',hneb b' (by rw[hb'];intro e;cases e)⟩) (fun q hq hnp=> ?_) (fun b' cur1 ht' hb'=> ?_) (fun j y hy=> ?_)
      ·refine ⟨mvH_none (hLh q hnp),fun b' hb'=>⟨mvT_own hb' (hLt q) (hLh q hnp),fun hne=>hneb b' ?_⟩⟩
       rw[hb']
       intro e
       injection e with e
       exact hne (by simpa using e)
      ·have hbb:=hone ht' ht
       subst hbb
       rw[hbl] at hb'
       cases hb'
       refine ⟨cur',q7,q8,fun k=> ?_⟩
       rw[q9 k,hzs,Nat.add_zero,hyl,hcl]
      ·obtain ⟨x1,hx1,hx2⟩:=yvs_get hys hy
       have hj:j<cs.length:=by rw[hcl];exact (List.getElem?_eq_some_iff.1 hx1).1
       have hcj:cs[j]? =some cs[j]:=List.getElem?_eq_getElem hj
       have:cs.getD j default=cs[j]:=by rw[List.getD_eq_getElem?_getD,hcj];rfl
       rw[this]
       refine yv_ok hs hHp hx2 (hcs2.get j x1 _ hx1 hcj) (fun k hk rest'=> ?_)
       subst hk
       have hmem:(k,(r::rest)++ [i,off+j])∈L:=by rw[←hL];exact mvs_of hx1
       have hlk:=lkp_of_mem hnd hmem
       have hkr:k≠r:=fun e=>by
        rw[e] at hlk
        rw[lkp_none_keys hrk] at hlk
        cases hlk
       refine ⟨?_,fun b' hb'=>⟨?_,hneb b' ?_⟩⟩
       ·have:=Lh_of (rest:=rest') (fun x hx=>by
         obtain ⟨t,_,h2⟩:=hpre x hx
         rw[h2];simp) (fun x hx he=>by
         obtain ⟨t,h1,h2⟩:=hpre x hx
         have h3:off+t=off+j:=by
          have:=h2.symm.trans he
          simpa using this
         have h4:t=j:=by omega
         subst h4
         rw[hx1] at h1
         cases h1
         exact Prod.ext rfl he) hmem
        have e2: [r]++rest++ [i,off+j]=(r::rest)++ [i,off+j]:=rfl
        rw[e2,mvH_some this]
       ·refine mvT_mv hb' ?_
        simp only[Lt,hlk,Option.map_some]
        rfl
       ·rw[hb']
        intro e
        injection e with e
        injection e with e
        exact hkr e
     ·cases hl'
   ·cases hst
  ·cases hst
end Go.Sm
