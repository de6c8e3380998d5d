import Derived.Test.YteeolohhmfjafaaGreatG3
import Derived.ProofKit
import Derived.Laws.StructEq
import Derived.OpenShut
import Derived.ShutString
import Derived.ChangeOld
import Derived.Below
import Derived.Carry
import Derived.WideShapes
import Derived.JoinedOf
import Derived.KernelRfl
set_option maxHeartbeats 8000000
set_option maxRecDepth 8000
namespace Go.Sm
open Go.RowKit
abbrev fld (n:String) (t off bo:Nat) (p:String):Field:= {name:=n,type:=t,offset:=off,byteOffset:=bo,embedded:=false,tag:= "",pkgPath:=p}
def zOk:List Lf→Bool
 | []=>true
 | .sc v::r=>scal v&&zOk r
 | .ls _ []::r=>zOk r
 |_=>false
theorem zOk_ok: ∀ {z:List Lf},zOk z=true→ ∀l∈z,(∃v,l= .sc v∧scal v=true)∨ ∃zz,l= .ls zz []
 | [],_,l,hl=>by cases hl
 | .sc v::r,h,l,hl=>by
  simp only[zOk,Bool.and_eq_true] at h
  rcases List.mem_cons.1 hl with rfl|hl
  ·exact .inl ⟨v,rfl,h.1⟩
  ·exact zOk_ok h.2 l hl
 | .ls z []::r,h,l,hl=>by
  simp only[zOk] at h
  rcases List.mem_cons.1 hl with rfl|hl
  ·exact .inr ⟨z,rfl⟩
  ·exact zOk_ok h l hl
 | .ls _ (_::_)::_,h,_,_=>by simp[zOk] at h
inductive CK where
 |int (k:IntKind)
 |bool
 |str
 |sl (e:Nat)
instance:Inhabited CK:=⟨.bool⟩
def CK.elt:CK→Option Nat
 | .sl e=>some e
 |_=>none
abbrev CT:=Nat→List CK
def contig (ti:TT) (ck:CT):List Field→Nat→List CK→Prop
 | [],_,l=>l= []
 |f::r,off,l=>f.offset=off∧(ti f.type).ok=true∧l.take (ti f.type).sz=ck f.type∧contig ti ck r (off+(ti f.type).sz) (l.drop (ti f.type).sz)
def ckOk (ti:TT) (ck:CT) (t:Nat):Prop:=(ck t).length=(ti t).sz∧match (ti t).desc with
 | .int k=>ck t= [.int k]
 | .bool=>ck t= [.bool]
 | .string=>ck t= [.str]
 | .slice e=>ck t= [.sl e]∧(ti e).ok=true
 | .struct fs=>contig ti ck fs.toList 0 (ck t)
 |_=>False
def CGood (ti:TT) (ck:CT):Prop:= ∀t,(ti t).ok=true→ckOk ti ck t
inductive FitK (ti:TT) (ck:CT):CK→Lf→Prop
 |int {k n} (h:(Lit.int k n).wf=true):FitK ti ck (.int k) (.sc (.int k n))
 |bool {b}:FitK ti ck .bool (.sc (.bool b))
 |str {s:ByteArray} (h:s.size≤maxLen):FitK ti ck .str (.sc (.string s))
 |sl {e rows} (hn:rows.length≤maxLen) (hl: ∀i,i<rows.length→(rows.getD i (ti e).z).length=(ck e).length)
   (h: ∀i j,i<rows.length→j< (ck e).length→FitK ti ck ((ck e).getD j default) (lf (ti e).z rows i j)):FitK ti ck (.sl e) (.ls (ti e).z rows)
def Fit (ti:TT) (ck:CT) (t:Nat) (ls:List Lf):Prop:=All2 (FitK ti ck) (ck t) ls
variable {P : Program} {ti : TT} {ck : CT}
def shT (n:Nat):Nat→Tag:=fun b=>if b<n then .sh else .off
theorem cellsOf_ok {t:Nat} (g:(ti t).good P t):P.cellsOf t=(ti t).sz:=by
 obtain ⟨x,h1,h2,_⟩:=g.inf
 simp[Program.cellsOf,h1,h2]
theorem cellsVR {H:Type} {enc:TypeId×Value→H} {w:World} {spare:Nat→Bool} {held:Bool} {hv:Hv} {n:Nat} {cs:List Value} (hT:TGood P ti) (hC:CGood ti ck)
  (IH: ∀ (t:Nat) (cs:List Value) (x:DataW H×List MemPlace),(ti t).ok=true→DataW.trod enc P w 0 spare held n t cs=some x→ ∃ls,Fit ti ck t ls∧All2 (VR (shT w.heap.size) hv w [] .s) ls cs):
  ∀ (l:List Field) (off:Nat) (ckl:List CK),contig ti ck l off ckl→(∀f∈l,∃y,DataW.trod enc P w 0 spare held n f.type ((cs.drop f.offset).take (P.cellsOf f.type))=some y)→off+ckl.length=cs.length→
   ∃ls,All2 (FitK ti ck) ckl ls∧All2 (VR (shT w.heap.size) hv w [] .s) ls (cs.drop off)
 | [],off,ckl,h,_,hl=>by
  simp only[contig] at h
  subst h
  refine ⟨[],.nil, ?_⟩
  rw[List.drop_of_length_le (by simp at hl;omega)]
  exact .nil
 |f::r,off,ckl,h,hf,hl=>by
  obtain ⟨h1,h2,h3,h4⟩:=h
  have g:=hT _ h2
  have c:=hC _ h2
  obtain ⟨y,hy⟩:=hf f (by simp)
  rw[h1,cellsOf_ok g] at hy
  obtain ⟨ls1,h5,h6⟩:=IH f.type _ y h2 hy
  have hlen:(ckl.take (ti f.type).sz).length=(ti f.type).sz:=by rw[h3];exact c.1
  rw[List.length_take] at hlen
  obtain ⟨ls2,h7,h8⟩:=cellsVR hT hC IH r (off+(ti f.type).sz) (ckl.drop (ti f.type).sz) h4 (fun f hf'=>hf f (by simp[hf'])) (by rw[List.length_drop];omega)
  refine ⟨ls1++ls2, ?_, ?_⟩
  ·rw[←List.take_append_drop (ti f.type).sz ckl,h3]
   exact All2.append h5 h7
  ·have h9:=All2.append h6 h8
   rw[←List.drop_drop,List.take_append_drop] at h9
   exact h9
theorem fit_of_trod {H:Type} {enc:TypeId×Value→H} {w:World} {spare:Nat→Bool} {held:Bool} {hv:Hv} (hT:TGood P ti) (hC:CGood ti ck): ∀ (fuel:Nat) (t:Nat) (cs:List Value) (x:DataW H×List MemPlace),(ti t).ok=true→
  DataW.trod enc P w 0 spare held fuel t cs=some x→ ∃ls,Fit ti ck t ls∧All2 (VR (shT w.heap.size) hv w [] .s) ls cs
 |0,t,cs,x,_,h=>by simp[DataW.trod] at h
 |fuel+1,t,cs,x,ht,h=>by
  have g:=hT t ht
  have c:=hC t ht
  have hu:=g.und
  obtain ⟨hlen,hc⟩:=c
  unfold Fit
  split at hc
  ·rename_i k hd
   rw[hd] at hu
   obtain ⟨n,rfl,_,hwf⟩:=DataW.trod_int hu h
   rw[hc]
   exact ⟨[.sc (.int k n)],.cons (.int hwf) .nil,.cons (.sc rfl) .nil⟩
  ·rename_i hd
   rw[hd] at hu
   obtain ⟨b,rfl,_⟩:=DataW.trod_bool hu h
   rw[hc]
   exact ⟨[.sc (.bool b)],.cons .bool .nil,.cons (.sc rfl) .nil⟩
  ·rename_i hd
   rw[hd] at hu
   obtain ⟨s,rfl,_,hs⟩:=DataW.trod_string hu h
   rw[hc]
   exact ⟨[.sc (.string s)],.cons (.str hs) .nil,.cons (.sc rfl) .nil⟩
  ·rename_i e hd
   rw[hd] at hu
   obtain ⟨hck,hek⟩:=hc
   have ge:=hT e hek
   have ce:=(hC e hek).1
   rw[hck]
   rcases DataW.trod_slice hu h with ⟨rfl,_⟩|⟨a,len,cap,elems,rest,n,hn,rfl,_,_,hl,hm,hel,helem,_,_⟩
   ·exact ⟨[.ls (ti e).z []],.cons (.sl (by simp) (fun i hi=>by simp at hi) (fun i j hi=>by simp at hi)) .nil,.cons .sh0 .nil⟩
   ·have hnf:n=fuel:=by omega
    subst hnf
    have key: ∀i,∃ls,i<len→Fit ti ck e ls∧ ∃cs',All2 (VR (shT w.heap.size) hv w [] .s) ls cs'∧ ∀j,j< (ti e).sz→w.cell? ((a.add (i* (ti e).sz)).add j)=cs'[j]? :=fun i=>by
     by_cases hi:i<len
     ·have h1:=helem i hi
      rw[List.getElem?_eq_getElem (by omega)] at h1
      obtain ⟨cs',h2,h3⟩:=Option.bind_eq_some_iff.1 h1
      rw[cellsOf_ok ge] at h2
      obtain ⟨_,h4,h5⟩:=World.cells?_some h2
      obtain ⟨ls,h6,h7⟩:=fit_of_trod hT hC n e cs' _ hek h3
      exact ⟨ls,fun _=>⟨h6,cs',h7,h5⟩⟩
     ·exact ⟨[],fun h=>absurd h hi⟩
    obtain ⟨f,hf⟩:=Classical.axiomOfChoice key
    have hrl:((List.range len).map f).length=len:=by simp
    have hrow: ∀i,i<len→((List.range len).map f).getD i (ti e).z=f i:=fun i hi=>by
     rw[List.getD_eq_getElem?_getD,List.getElem?_map,List.getElem?_eq_getElem (by simpa using hi)]
     simp
    have hzl:=ge.zl
    refine ⟨[.ls (ti e).z ((List.range len).map f)],.cons (.sl (by rw[hrl];omega) (fun i hi=> ?_) (fun i j hi hj=> ?_)) .nil,.cons ?_ .nil⟩
    ·rw[hrl] at hi
     rw[hrow i hi]
     exact ((hf i hi).1).len.symm
    ·rw[hrl] at hi
     have h1:=(hf i hi).1
     have hj2:j< (f i).length:=by rw[←All2.len h1];exact hj
     have h2:=h1.get j _ _ (List.getElem?_eq_getElem hj) (List.getElem?_eq_getElem hj2)
     simp only[lf,hrow i hi]
     rw[List.getD_eq_getElem?_getD,List.getElem?_eq_getElem hj,List.getD_eq_getElem?_getD (l:=f i),List.getElem?_eq_getElem hj2]
     exact h2
    ·by_cases h0:len=0
     ·subst h0
      exact .sh0
     ·have hpos:=ge.pos
      have hcell: ∀i j,i<len→j< (ti e).z.length→ ∃v,w.cell? ((a.add (i* (ti e).sz)).add j)=some v∧VR (shT w.heap.size) hv w [] .s (lf (ti e).z ((List.range len).map f) i j) v:=fun i j hi hj=>by
       obtain ⟨h1,cs',h2,h3⟩:=hf i hi
       have hj2:j< (f i).length:=by rw[←All2.len h1,ce,←hzl];exact hj
       have hj3:j<cs'.length:=by rw[←h2.len];exact hj2
       refine ⟨cs'[j],by rw[h3 j (by rw[←hzl];exact hj),List.getElem?_eq_getElem hj3], ?_⟩
       have h4:=h2.get j _ _ (List.getElem?_eq_getElem hj2) (List.getElem?_eq_getElem hj3)
       simp only[lf,hrow i hi]
       rw[List.getD_eq_getElem?_getD (l:=f i),List.getElem?_eq_getElem hj2]
       exact h4
      obtain ⟨v00,hv00,_⟩:=hcell 0 0 (by omega) (by omega)
      obtain ⟨b,off,spot⟩:=a
      have hspot:spot=none:=by simpa [Addr.add] using World.cell?_spot hv00
      subst hspot
      have hb:b<w.heap.size:=by
       rw[add_lit,add_lit] at hv00
       exact World.block_lt_of_cell? _ _ hv00
      refine .sh (fun i j=>(w.cell? ⟨b,off+(i* (ti e).z.length+j),none⟩).getD default) hrl hl (by simp[shT,hb]) (fun i hi=> ?_) (fun i j hi hj=> ?_) (fun i j hi hj=> ?_)
      ·rw[hrow i hi,←All2.len (hf i hi).1,ce,hzl]
      ·obtain ⟨v,h1,_⟩:=hcell i j hi hj
       rw[add_lit,add_lit,Nat.add_assoc,←hzl] at h1
       rw[h1]
       rfl
      ·obtain ⟨v,h1,h2⟩:=hcell i j hi hj
       rw[add_lit,add_lit,Nat.add_assoc,←hzl] at h1
       rw[h1]
       exact h2
  ·rename_i fs hd
   rw[hd] at hu
   obtain ⟨xs,n,hn,_,hcl,hxl,hfield⟩:=DataW.trod_struct hu h
   have hnf:n=fuel:=by omega
   subst hnf
   rw[cellsOf_ok g] at hcl
   have:=cellsVR (cs:=cs) (enc:=enc) (w:=w) (spare:=spare) (held:=held) (hv:=hv) hT hC (fun t cs x ht h=>fit_of_trod hT hC n t cs x ht h) fs.toList 0 (ck t) hc (fun f hf=> ?_) (by rw[Nat.zero_add,hlen,hcl])
   ·simpa using this
   ·obtain ⟨i,hi⟩:=List.getElem?_of_mem hf
    have hlt:i<xs.length:=by rw[hxl];simpa using (List.getElem?_eq_some_iff.1 hi).1
    exact ⟨xs[i],by rw[hfield i f (by simpa using hi),List.getElem?_eq_getElem hlt]⟩
  ·exact hc.elim
theorem eqAt_up {i:TI} {t n m:Nat} (h:eqAt P i t n) (hm:n≤m):eqAt P i t m:=fun d w xs ys h1 h2=>by
 have:=h (d+(m-n)) w xs ys h1 h2
 rwa [show d+(m-n)+n=d+m by omega] at this
theorem eqAt_int {i:TI} {t:Nat} {k:IntKind} {n:Int} (hz:i.z= [.sc (.int k n)]) (ha:i.agg=false) (hu:P.underlying t=some (.int k)):eqAt P i t 1:=fun d w xs ys h1 h2=>by
 rw[hz] at h1 h2
 match xs,ys,h1,h2 with
 | [.int _ a],[.int _ b],h1,h2=>
  obtain ⟨rfl,_⟩:=h1
  obtain ⟨rfl,_⟩:=h2
  rw[ha]
  simp only[mkV,eqV,Bool.and_true]
  exact run_equalIn_int w d t _ _ a b hu
 | .int _ _::_::_,_,h1,_=>exact h1.2.elim
 |_,.int _ _::_::_,_,h2=>exact h2.2.elim
theorem eqAt_str {i:TI} {t:Nat} {s:ByteArray} (hz:i.z= [.sc (.string s)]) (ha:i.agg=false) (hu:P.underlying t=some .string):eqAt P i t 1:=fun d w xs ys h1 h2=>by
 rw[hz] at h1 h2
 match xs,ys,h1,h2 with
 | [.string a],[.string b],h1,h2=>
  rw[ha]
  simp only[mkV,eqV,Bool.and_true]
  exact run_equalIn_string w d t a b hu
 | .string _::_::_,_,h1,_=>exact h1.elim
 |_,.string _::_::_,_,h2=>exact h2.elim
theorem eqAt_bool {i:TI} {t:Nat} {s:Bool} (hz:i.z= [.sc (.bool s)]) (ha:i.agg=false) (hu:P.underlying t=some .bool):eqAt P i t 1:=fun d w xs ys h1 h2=>by
 rw[hz] at h1 h2
 match xs,ys,h1,h2 with
 | [.bool a],[.bool b],h1,h2=>
  rw[ha]
  simp only[mkV,eqV,Bool.and_true]
  exact run_equalIn_bool' w d t a b hu
 | .bool _::_::_,_,h1,_=>exact h1.elim
 |_,.bool _::_::_,_,h2=>exact h2.elim
theorem sameK_len: ∀ {z:List Lf} {xs:List Value},sameK z xs→xs.length=z.length
 | [],[],_=>rfl
 | .sc (.int _ _)::z,.int _ _::xs,h=>by simp[sameK_len h.2]
 | .sc (.string _)::z,.string _::xs,h=>by simp[sameK_len (z:=z) (xs:=xs) h]
 | .sc (.bool _)::z,.bool _::xs,h=>by simp[sameK_len (z:=z) (xs:=xs) h]
theorem sameK_cons {z0:Lf} {z:List Lf} {x:Value} {xs:List Value} (h:sameK (z0::z) (x::xs)):sameK [z0] [x]∧sameK z xs:=by
 unfold sameK at h
 split at h
 ·rename_i h1 h2;cases h1
 ·rename_i h1 h2;cases h1;cases h2;exact ⟨⟨h.1,trivial⟩,h.2⟩
 ·rename_i h1 h2;cases h1;cases h2;exact ⟨trivial,h⟩
 ·rename_i h1 h2;cases h1;cases h2;exact ⟨trivial,h⟩
 ·exact h.elim
theorem sameK_cons' {z0:Lf} {z:List Lf} {x:Value} {xs:List Value} (h1:sameK [z0] [x]) (h2:sameK z xs):sameK (z0::z) (x::xs):=by
 unfold sameK at h1
 split at h1
 ·rename_i q1 q2;cases q1
 ·rename_i q1 q2;cases q1;cases q2;exact ⟨h1.1,h2⟩
 ·rename_i q1 q2;cases q1;cases q2;exact h2
 ·rename_i q1 q2;cases q1;cases q2;exact h2
 ·exact h1.elim
theorem sameK_split: ∀ {n:Nat} {z:List Lf} {xs:List Value},sameK z xs→sameK (z.take n) (xs.take n)∧sameK (z.drop n) (xs.drop n)
 |0,z,xs,h=>⟨by simp[sameK],by simpa using h⟩
 |n+1,[],[],h=>by simp[sameK]
 |n+1,[],_::_,h=>by simp[sameK] at h
 |n+1,z0::z,[],h=>by have:=sameK_len h;simp at this
 |n+1,z0::z,x::xs,h=>by
  obtain ⟨h1,h2⟩:=sameK_cons h
  obtain ⟨h3,h4⟩:=sameK_split (n:=n) h2
  exact ⟨sameK_cons' h1 h3,h4⟩
theorem eqV_app: ∀ {z:List Lf} {a c b d:List Value},sameK z a→sameK z c→eqV (a++b) (c++d)=(eqV a c&&eqV b d)
 | [],[],[],b,d,_,_=>by simp[eqV]
 | .sc (.int _ _)::z,.int _ _::a,.int _ _::c,b,d,h1,h2=>by simp[eqV,eqV_app h1.2 h2.2,Bool.and_assoc]
 | .sc (.string _)::z,.string _::a,.string _::c,b,d,h1,h2=>by simp[eqV,eqV_app (z:=z) (a:=a) (c:=c) h1 h2,Bool.and_assoc]
 | .sc (.bool _)::z,.bool _::a,.bool _::c,b,d,h1,h2=>by simp[eqV,eqV_app (z:=z) (a:=a) (c:=c) h1 h2,Bool.and_assoc]
def fieldsEq (P:Program) (ti:TT) (n:Nat):List Field→Nat→List Lf→Prop
 | [],_,z=>z= []
 |f::r,off,z=>f.name≠ "_" ∧f.offset=off∧(ti f.type).good P f.type∧(ti f.type).sz=(ti f.type).z.length∧z.take (ti f.type).sz=(ti f.type).z∧eqAt P (ti f.type) f.type n∧fieldsEq P ti n r (off+(ti f.type).sz) (z.drop (ti f.type).sz)
theorem eqFields_ok {n:Nat}: ∀ (fs:List Field) (off:Nat) (z:List Lf) (d:Nat) (w:World) (xs ys:List Value),fieldsEq P ti n fs off z→sameK z (xs.drop off)→sameK z (ys.drop off)→
  (Op.eqFields (d+n) xs.toArray ys.toArray fs).run P w= .ok (eqV (xs.drop off) (ys.drop off)) w
 | [],off,z,d,w,xs,ys,h,h1,h2=>by
  simp only[fieldsEq] at h
  subst h
  have e1:xs.drop off= []:=List.length_eq_zero_iff.1 (by simpa using sameK_len h1)
  have e2:ys.drop off= []:=List.length_eq_zero_iff.1 (by simpa using sameK_len h2)
  rw[e1,e2]
  rfl
 |f::r,off,z,d,w,xs,ys,h,h1,h2=>by
  obtain ⟨hn,ho,g,hsz,hz,he,hr⟩:=h
  have hlen:(ti f.type).sz≤z.length:=by
   have:=congrArg List.length hz
   rw[List.length_take] at this
   omega
  have hx:=sameK_len h1
  have hy:=sameK_len h2
  rw[List.length_drop] at hx hy
  have hpos:=g.pos
  obtain ⟨a1,a2⟩:=sameK_split (n:=(ti f.type).sz) h1
  obtain ⟨b1,b2⟩:=sameK_split (n:=(ti f.type).sz) h2
  rw[hz] at a1 b1
  have p1:=run_part (P:=P) (w:=w) (cs:=xs) (off:=off) g (by omega)
  have p2:=run_part (P:=P) (w:=w) (cs:=ys) (off:=off) g (by omega)
  have e:=he d w _ _ a1 b1
  have ih:=eqFields_ok r (off+(ti f.type).sz) _ d w xs ys hr (by rw[←List.drop_drop];exact a2) (by rw[←List.drop_drop];exact b2)
  have hsplit:eqV (xs.drop off) (ys.drop off)=(eqV ((xs.drop off).take (ti f.type).sz) ((ys.drop off).take (ti f.type).sz)&&eqV (xs.drop (off+(ti f.type).sz)) (ys.drop (off+(ti f.type).sz))):=by
   rw[←List.drop_drop,←List.drop_drop,←eqV_app a1 b1,List.take_append_drop,List.take_append_drop]
  subst ho
  simp only[Op.eqFields,if_pos hn,Sem.run_bind,p1,p2,e,Result.andThen_ok]
  rw[hsplit]
  cases eqV ((xs.drop f.offset).take (ti f.type).sz) ((ys.drop f.offset).take (ti f.type).sz) with
  |true=>simpa using ih
  |false=>rfl
theorem eqAt_st {t n:Nat} {fs:List Field} (hf:(P.fieldsOf t).toList=fs) (hu:P.underlying t=some (.struct (P.fieldsOf t))) (hp:P.stoodInHeld t=false) (ha:(ti t).agg=true) (h:fieldsEq P ti n fs 0 (ti t).z):eqAt P (ti t) t (n+1):=fun d w xs ys h1 h2=>by
 rw[ha]
 simp only[mkV]
 rw[←Nat.add_assoc,run_equalIn_struct w (d+n) t _ _ hu hp,hf]
 have:=eqFields_ok fs 0 _ d w xs ys h (by simpa using h1) (by simpa using h2)
 simpa using this
end Go.Sm
namespace Go.Sm
open Go.RowKit Go.WideShapes
variable {P : Program} {ti : TT} {ck : CT}
theorem FitK.list {α:Type} {e:Nat} {l:Lf} (enc:α→List Lf) (p:α→Prop) (hd: ∀row,Fit ti ck e row→ ∃a,row=enc a∧p a) (h:FitK ti ck (.sl e) l):
  ∃xs:List α,l= .ls (ti e).z (xs.map enc)∧xs.length≤9223372036854775807∧ ∀x∈xs,p x:=by
 cases h with
 | @sl _ rows hn hl h=>
 have hm:maxLen=9223372036854775807:=by decide
 rw[hm] at hn
 have key: ∀rows':List (List Lf),(∀r∈rows',Fit ti ck e r)→ ∃xs:List α,rows'=xs.map enc∧ ∀x∈xs,p x:=by
  intro rows'
  induction rows' with
  |nil=>exact fun _=>⟨[],rfl,fun x hx=>by cases hx⟩
  |cons r rs ih=>
   intro hr
   obtain ⟨a,rfl,ha⟩:=hd r (hr r (by simp))
   obtain ⟨xs,rfl,hx⟩:=ih (fun r hr'=>hr r (by simp[hr']))
   refine ⟨a::xs,rfl,fun x hx'=> ?_⟩
   rcases List.mem_cons.1 hx' with rfl|h1
   ·exact ha
   ·exact hx x h1
 have hfit: ∀r∈rows,Fit ti ck e r:=by
  intro r hr
  obtain ⟨i,hi⟩:=List.getElem?_of_mem hr
  have hlt:=(List.getElem?_eq_some_iff.1 hi).1
  have hrow:rows.getD i (ti e).z=r:=by rw[List.getD_eq_getElem?_getD,hi];rfl
  refine All2.of_get (by rw[←hl i hlt,hrow]) (fun j a b ha hb=> ?_)
  have hj:=(List.getElem?_eq_some_iff.1 ha).1
  have h1:=h i j hlt hj
  simp only[lf,hrow] at h1
  rwa [List.getD_eq_getElem?_getD,ha,List.getD_eq_getElem?_getD,hb] at h1
 obtain ⟨xs,rfl,hx⟩:=key rows hfit
 exact ⟨xs,rfl,by simpa using hn,hx⟩
theorem FitK.str_inv {l:Lf} (h:FitK ti ck .str l): ∃s:ByteArray,l= .sc (.string s)∧s.size≤9223372036854775807:=by
 cases h with
 |str h=>exact ⟨_,rfl,h⟩
theorem FitK.int_inv {k:IntKind} {l:Lf} (h:FitK ti ck (.int k) l): ∃n:Int,l= .sc (.int k n)∧(Lit.int k n).wf=true:=by
 cases h with
 |int h=>exact ⟨_,rfl,h⟩
theorem FitK.bool_inv {l:Lf} (h:FitK ti ck .bool l): ∃b:Bool,l= .sc (.bool b):=by
 cases h with
 |bool=>exact ⟨_,rfl⟩
theorem All2.nil_inv {α β:Type} {R:α→β→Prop} {l:List β} (h:All2 R [] l):l= []:=by cases h;rfl
theorem All2.cons_inv {α β:Type} {R:α→β→Prop} {a:α} {as:List α} {l:List β} (h:All2 R (a::as) l): ∃b bs,l=b::bs∧R a b∧All2 R as bs:=by
 cases h with
 |cons h hs=>exact ⟨_,_,rfl,h,hs⟩
theorem arg_of_trod {H:Type} {enc:TypeId×Value→H} {W:World} {base:Nat} {spare:Nat→Bool} {held:Bool} {t:Nat} {v:Value} {d:DataW H} {p:List MemPlace} {r:Reach} (hT:TGood P ti) (hC:CGood ti ck) (ht:(ti t).ok=true)
  (hval:Value.okWide P W r base t v) (h:DataW.Trod enc P W 0 spare held t v d p): ∃ls,Fit ti ck t ls∧ ∀hv,SR (shT W.heap.size) hv W (.v (ti t).agg (ls.map .s)) v:=by
 obtain ⟨n,hn⟩:=h
 have key: ∃ls,Fit ti ck t ls∧All2 (VR (shT W.heap.size) (fun _=> .tuple #[]) W [] .s) ls v.cells.toList:=fit_of_trod hT hC n t _ _ ht hn
 obtain ⟨ls,hf,hall⟩:=key
 refine ⟨ls,hf,fun hv=> ?_⟩
 have hmv:All2 (VR (shT W.heap.size) hv W [] .s) ls v.cells.toList:=by
  refine hall.imp fun a b hab=> ?_
  exact hab.move [] (fun b hb=>⟨hb,rfl⟩) (fun rest hr=>by cases hr)
 have hu:=(hT t ht).und
 have hc:=(hC t ht).2
 have hlen:(ti t).agg=false→v=mkV false v.cells.toList∧ls.length=1:=fun ha=>by
  have hl:(ck t).length=1:=by rw[(hC t ht).1];exact ((hT t ht).na ha).1
  refine ⟨?_,by rw[←All2.len hf,hl]⟩
  split at hc
  ·rename_i k hd
   rw[hd] at hu
   obtain ⟨n,rfl⟩:=okWide_int hu hval
   rfl
  ·rename_i hd
   rw[hd] at hu
   obtain ⟨n,rfl⟩:=okWide_bool hu hval
   rfl
  ·rename_i hd
   rw[hd] at hu
   obtain ⟨n,rfl⟩:=okWide_string hu hval
   rfl
  ·rename_i e hd
   rw[hd] at hu
   obtain ⟨a,b,c,rfl⟩:=okWide_slice hu hval
   rfl
  ·rename_i fs hd
   simp[TI.agg,hd] at ha
  ·exact hc.elim
 refine ⟨v.cells.toList, ?_,All2.map_left (hmv.imp fun a b hab=>hab),fun ha=>by rw[List.length_map];exact (hlen ha).2⟩
 cases ha:(ti t).agg with
 |false=>exact (hlen ha).1
 |true=>
  unfold TI.agg at ha
  split at ha
  ·rename_i fs hd
   rw[hd] at hu
   obtain ⟨cs,rfl,_⟩:=okWide_struct hu hval
   simp[Value.cells,mkV]
  ·cases ha
theorem calls_of_vc {f:FuncId} {as:List SV} {vs:Array Value} {W:World} {b:Bool} (hvc:VC P f as [(false,[(.s,.sc (.bool b))])]) (ha: ∀hv,All2 (SR (shT W.heap.size) hv W) as vs.toList):
  Calls P f vs W fun e W'=>e= .returned (.bool b)∧Below W.heap.size W W':=by
 have h:=hvc.2 W (shT W.heap.size) (fun _=> .tuple #[]) vs.toList (fun b=>by unfold shT;split<;>simp) (fun b hb=>by simp[shT];omega) (ha _)
 simp only[Array.toArray_toList] at h
 refine h.mono fun e W' ⟨tag',hv',rv,he,hfr,_,hrv⟩=>⟨?_,hfr.os,hfr.tape,hfr.output,hfr.size,fun k hk=>(hfr.heap k hk (by simp[shT,hk])).1⟩
 subst he
 obtain ⟨⟨cs,h1,h2,_⟩,_⟩:=hrv
 cases cs with
 |nil=>exact h2.elim
 |cons c cs=>
  obtain ⟨h3,h4⟩:=h2
  cases cs with
  |cons _ _=>exact h4.elim
  |nil=>
   cases h3 with
   |sc h5=>rw[h1];rfl
end Go.Sm
namespace Go.Sm
def szL:List Nat→Int→Int
 | [],left=>left
 |s::r,left=>if left-s<0 then-1 else szL r (left-s)
theorem szL_app: ∀ (a b:List Nat) (left:Int),0≤left→szL (a++b) left=if szL a left<0 then-1 else szL b (szL a left)
 | [],b,left,h=>by simp[szL];omega
 |s::r,b,left,h=>by
  simp only[List.cons_append,szL]
  split
  ·rfl
  ·exact szL_app r b _ (by omega)
theorem szL_neg: ∀ (l:List Nat) (left:Int),0≤left→szL l left<0→szL l left= -1
 | [],left,h0,h=>by simp[szL] at h;omega
 |s::r,left,h0,h=>by
  simp only[szL] at h⊢
  split at h
  ·rename_i h1;rw[if_pos h1]
  ·rename_i h1;rw[if_neg h1];exact szL_neg r _ (by omega) h
theorem szL_le: ∀ (l:List Nat) (left:Int),0≤szL l left→0≤left→szL l left+(l.sum:Nat)≤left∧ ∀n∈l,(n:Int)≤left
 | [],left,h,_=>⟨by simp[szL],fun n h=>by cases h⟩
 |s::r,left,h,h0=>by
  simp only[szL] at h⊢
  split at h
  ·omega
  ·rename_i h1
   rw[if_neg h1]
   obtain ⟨q1,q2⟩:=szL_le r _ h (by omega)
   refine ⟨by simp only[List.sum_cons];omega,fun n hn=> ?_⟩
   rcases List.mem_cons.1 hn with rfl|hn
   ·omega
   ·have:=q2 n hn;omega
theorem szL_le' {l:List Nat} {left:Int} (h0:0≤left):szL l left≤left:=by
 by_cases h:0≤szL l left
 ·have:=(szL_le l left h h0).1;omega
 ·omega
theorem szF_step {α:Type} (wt:α→List Nat) {l:List α} {i:Nat} {L:Int} (d:α) (h:i<l.length) (hL:0≤L) (h0:0≤szL ((l.take i).flatMap wt) L):
  (szL (wt (l[i]?.getD d)) (szL ((l.take i).flatMap wt) L)<0→szL (l.flatMap wt) L= -1)∧
  szL ((l.take (i+1)).flatMap wt) L=szL (wt (l[i]?.getD d)) (szL ((l.take i).flatMap wt) L):=by
 have e1:l=l.take i++(l[i]::l.drop (i+1)):=by simp
 have e2:l.take (i+1)=l.take i++ [l[i]]:=by rw[List.take_succ_eq_append_getElem h]
 rw[List.getElem?_eq_getElem h,Option.getD_some]
 have e3:szL ((l.take (i+1)).flatMap wt) L=szL (wt l[i]) (szL ((l.take i).flatMap wt) L):=by
  rw[e2,List.flatMap_append,szL_app _ _ _ hL,if_neg (by omega)]
  simp
 refine ⟨fun hn=> ?_,e3⟩
 conv=>lhs;rw[e1]
 rw[List.flatMap_append,szL_app _ _ _ hL,if_neg (by omega),List.flatMap_cons,szL_app _ _ _ h0,if_pos hn]
theorem mem_flat {α β:Type} {wt:α→List β} {l:List α} {i:Nat} {d:α} {n:β} (h:i<l.length) (hn:n∈wt (l[i]?.getD d)):n∈l.flatMap wt:=by
 rw[List.getElem?_eq_getElem h] at hn
 exact List.mem_flatMap.2 ⟨_,List.getElem_mem h,hn⟩
theorem getD_mem {α:Type} {l:List α} {i:Nat} (d:α) (h:i<l.length):l[i]?.getD d∈l:=by
 rw[List.getElem?_eq_getElem h]
 exact List.getElem_mem h
abbrev zStr:List Lf:= [.sc (.string ⟨#[]⟩)]
abbrev zByte:List Lf:= [.sc (.int .u8 0)]
abbrev zInt:List Lf:= [.sc (.int .i64 0)]
def eStr (s:ByteArray):List Lf:= [.sc (.string s)]
@[simp] theorem rowByte_e (b:UInt8):rowByte (eByte b)=b:=by simp[rowByte,eByte]
@[simp] theorem rowByte_map (l:List UInt8):(l.map eByte).map rowByte=l:=by
 rw[List.map_map]
 conv=>rhs;rw[←List.map_id l]
 exact List.map_congr_left fun b _=>rowByte_e b
@[simp] theorem rowByte_l (b:UInt8):rowByte [.sc (.int .u8 (b.toNat:Int))]=b:=rowByte_e b
@[simp] theorem isByteRow_l (b:UInt8):isByteRow [.sc (.int .u8 (b.toNat:Int))]:=⟨b,rfl⟩
@[simp] theorem isByteRow_e (b:UInt8):isByteRow (eByte b):=⟨b,rfl⟩
def eInt (n:Int):List Lf:= [.sc (.int .i64 n)]
@[simp] theorem row_Str (l:List ByteArray) (i:Nat):(Option.map eStr l[i]?).getD zStr=eStr (l[i]?.getD ⟨#[]⟩):=by cases l[i]? <;>rfl
@[simp] theorem row_Byte (l:List UInt8) (i:Nat):(Option.map eByte l[i]?).getD zByte=eByte (l[i]?.getD 0):=by cases l[i]? <;>rfl
@[simp] theorem row_Int (l:List Int) (i:Nat):(Option.map eInt l[i]?).getD zInt=eInt (l[i]?.getD 0):=by cases l[i]? <;>rfl
def okM (n:Nat):Prop:=n≤9223372036854775807
def okI (n:Int):Prop:= -9223372036854775808≤n∧n≤9223372036854775807
theorem okI_wf {n:Int} (h:(Lit.int .i64 n).wf=true):okI n:=by
 simp[Lit.wf,IntKind.min,IntKind.max,IntKind.signed,IntKind.bits] at h
 exact h
def dgo:Nat→Nat→ByteArray→ByteArray
 |0,_,out=>out
 |f+1,k,out=>if k=0 then out else dgo f (k/10) (⟨#[UInt8.ofNat (48+k%10)]⟩++out)
def mtext (k:Nat):ByteArray:=if k=0 then ⟨#[109,48]⟩ else ⟨#[109]⟩++dgo k k ⟨#[]⟩
def mkRw {α:Type} (f:Nat→α→α) (ct:α→Nat):Nat→List α→List α
 |_,[]=> []
 |k,x::r=>f k x::mkRw f ct (k+ct x) r
def ctRw {α:Type} (ct:α→Nat):List α→Nat
 | []=>0
 |x::r=>ct x+ctRw ct r
def mixR {α:Type} (f:Nat→α→α) (ct:α→Nat) (k:Nat) (l:List α) (i:Nat):List α:=mkRw f ct k (l.take i)++l.drop i
section
variable {α : Type} (f : Nat → α → α) (ct : α → Nat)
theorem mkRw_len: ∀ (k:Nat) (l:List α),(mkRw f ct k l).length=l.length
 |_,[]=>rfl
 |k,x::r=>by simp[mkRw,mkRw_len]
theorem mixR_zero (k:Nat) (l:List α):mixR f ct k l 0=l:=by simp[mixR,mkRw]
theorem mixR_all (k:Nat) (l:List α):mixR f ct k l l.length=mkRw f ct k l:=by simp[mixR]
theorem mixR_len (k:Nat) (l:List α) (i:Nat):(mixR f ct k l i).length=l.length:=by
 simp[mixR,mkRw_len]
 omega
theorem mixR_get (k:Nat) (l:List α) (i:Nat) (h:i<l.length):(mixR f ct k l i)[i]? =l[i]? :=by
 unfold mixR
 have hl:(mkRw f ct k (l.take i)).length=i:=by rw[mkRw_len,List.length_take];omega
 rw[List.getElem?_append_right (by omega),hl]
 simp
theorem mkRw_app: ∀ (k:Nat) (a b:List α),mkRw f ct k (a++b)=mkRw f ct k a++mkRw f ct (k+ctRw ct a) b
 |k,[],b=>by simp[mkRw,ctRw]
 |k,x::a,b=>by
  simp only[List.cons_append,mkRw,mkRw_app _ a b]
  simp[ctRw,Nat.add_assoc]
theorem mixR_set (k:Nat) (l:List α) (i:Nat) (d:α) (h:i<l.length):(mixR f ct k l i).set i (f (k+ctRw ct (l.take i)) (l[i]?.getD d))=mixR f ct k l (i+1):=by
 unfold mixR
 have hl:(mkRw f ct k (l.take i)).length=i:=by rw[mkRw_len,List.length_take];omega
 rw[List.set_append_right _ _ (by omega),hl,Nat.sub_self]
 rw[List.take_succ_eq_append_getElem h,mkRw_app,List.drop_eq_getElem_cons h,List.set_cons_zero,List.getElem?_eq_getElem h,Option.getD_some]
 simp only[mkRw,List.append_assoc,List.cons_append,List.nil_append]
theorem ctRw_app: ∀ (a b:List α),ctRw ct (a++b)=ctRw ct a+ctRw ct b
 | [],b=>by simp[ctRw]
 |x::a,b=>by simp[ctRw,ctRw_app a b,Nat.add_assoc]
theorem ctRw_succ (d:α) {l:List α} {i:Nat} (h:i<l.length):ctRw ct (l.take (i+1))=ctRw ct (l.take i)+ct (l[i]?.getD d):=by
 rw[List.take_succ_eq_append_getElem h,ctRw_app,List.getElem?_eq_getElem h]
 simp[ctRw]
theorem ctRw_le (l:List α) (i:Nat):ctRw ct (l.take i)≤ctRw ct l:=by
 conv=>rhs;rw[←List.take_append_drop i l,ctRw_app]
 omega
theorem ctRw_lt (d:α) {l:List α} {i:Nat} (h:i<l.length):ctRw ct (l.take i)+ct (l[i]?.getD d)≤ctRw ct l:=by
 rw[←ctRw_succ ct d h]
 exact ctRw_le ct l (i+1)
theorem mkRw_get (d:α): ∀ (k:Nat) (l:List α) (i:Nat),i<l.length→(mkRw f ct k l)[i]? =some (f (k+ctRw ct (l.take i)) (l[i]?.getD d))
 |k,[],i,h=>by simp at h
 |k,x::r,0,h=>by simp[mkRw,ctRw]
 |k,x::r,i+1,h=>by
  have:=mkRw_get d (k+ct x) r i (by simpa using h)
  simp only[mkRw,List.getElem?_cons_succ,this]
  simp[ctRw,Nat.add_assoc]
end
theorem ctRw_le64 {α:Type} (ct:α→Nat) (wt:α→List Nat): ∀ (l:List α),(∀x∈l,ct x≤64+64* (wt x).sum)→ctRw ct l≤64* (l.length+(l.flatMap wt).sum)
 | [],_=>by simp[ctRw]
 |x::r,h=>by
  have h1:=ctRw_le64 ct wt r (fun y hy=>h y (by simp[hy]))
  have h2:=h x (by simp)
  simp only[ctRw,List.length_cons,List.flatMap_cons,List.sum_append]
  omega
theorem ctRw_one {α:Type} (ct:α→Nat): ∀ (l:List α),(∀x∈l,ct x≤64)→ctRw ct l≤64*l.length
 | [],_=>by simp[ctRw]
 |x::r,h=>by
  have h1:=ctRw_one ct r (fun y hy=>h y (by simp[hy]))
  have h2:=h x (by simp)
  simp only[ctRw,List.length_cons]
  omega
def mkStr (k:Nat) (_:ByteArray):ByteArray:=mtext k
def mkInt (k:Nat) (_:Int):Int:=(k:Int)
def mkByte (k:Nat) (_:UInt8):UInt8:=UInt8.ofNat k
def mkBool (k:Nat) (_:Bool):Bool:=(k:Int).tmod 3==0
def ctStr (_:ByteArray):Nat:=1
def ctByte (_:UInt8):Nat:=1
theorem wrapU8 (k:Nat):IntKind.u8.wrap (k:Int)=((UInt8.ofNat k).toNat:Int):=by
 show (if (false&&decide ((k:Int)%256≥128))=true then (k:Int)%256-256 else (k:Int)%256)=_
 rw[UInt8.toNat_ofNat']
 simp
theorem Ow_rows {α:Type} {e:Nat} {ms:List Md} {z:List Lf} {enc:α→List Lf} (h: ∀x j,j<z.length→Ow (ms.getD j .x) ((enc x).getD j default)) (l:List α):Ow (.o e (fun _=>ms)) (.ls z (l.map enc)):=by
 refine .o fun i j hi hj=> ?_
 have hi':i<l.length:=by simpa using hi
 have:lf z (l.map enc) i j=(enc l[i]).getD j default:=by
  simp only[lf]
  rw[List.getD_eq_getElem?_getD (l:=l.map enc),List.getElem?_map,List.getElem?_eq_getElem hi']
  rfl
 rw[this]
 exact h _ _ hj
theorem Full_rows {α:Type} {e:Nat} {ms:List Md} {z:List Lf} {enc:α→List Lf} (h: ∀x j,j<z.length→Full (ms.getD j .x) ((enc x).getD j default)) (l:List α):Full (.o e (fun _=>ms)) (.ls z (l.map enc)):=by
 refine .o fun i j hi hj=> ?_
 have hi':i<l.length:=by simpa using hi
 have:lf z (l.map enc) i j=(enc l[i]).getD j default:=by
  simp only[lf]
  rw[List.getD_eq_getElem?_getD (l:=l.map enc),List.getElem?_map,List.getElem?_eq_getElem hi']
  rfl
 rw[this]
 exact h _ _ hj
end Go.Sm
namespace Go.Sm
open Go.RowKit
set_option linter.unusedVariables false
set_option linter.unusedSimpArgs false
def nlL (k:Nat):List LV→Nat→List LV
 | .n _::r,0=> .r [k]::r
 |x::r,0=>x::r
 |x::r,j+1=>x::nlL k r j
 | [],_=> []
def nlK (b k j:Nat):List (Nat×List LV)→List (Nat×List LV)
 | []=> []
 |(c,ls)::r=>if c=b then (c,nlL k ls j)::r else (c,ls)::nlK b k j r
def nlT (t k j:Nat):List (Nat×SV)→List (Nat×SV)
 | []=> []
 |(c,s)::r=>if c=t then (c,match s with| .v ag ls=> .v ag (nlL k ls j)|s=>s)::r else (c,s)::nlT t k j r
def Env.nlB (E:Env) (b j k:Nat) (x:Md×List Lf):Env:= {E.fresh (fun r=>r==k) with bx:=nlK b k j (E.fresh (fun r=>r==k)).bx,rt:=(k,x.1,.ls x.2 [])::(E.fresh (fun r=>r==k)).rt}
def Env.nlS (E:Env) (t j k:Nat) (x:Md×List Lf):Env:= {E.fresh (fun r=>r==k) with sl:=nlT t k j (E.fresh (fun r=>r==k)).sl,rt:=(k,x.1,.ls x.2 [])::(E.fresh (fun r=>r==k)).rt}
section
variable {E : Env} {tag tag0 : Nat → Tag} {hv : Hv} {a : Act} {w w0 : World} {k : Nat}
theorem nlL_ok (hk:hv [k]= .slice none 0 0): ∀ {ls:List LV} {cs:List Value} (j:Nat),All2 (LR tag hv w) ls cs→All2 (LR tag hv w) (nlL k ls j) cs
 | [],_,j,h=>by cases j<;>exact h
 |x::r,_,0,h=>by
  cases h with
  |cons h1 h2=>
   cases x with
   |n z=>exact .cons ⟨(show _=Value.slice none 0 0 from h1).trans hk.symm,none,0,0,h1⟩ h2
   |_=>exact .cons h1 h2
 |x::r,_,j+1,h=>by
  cases h with
  |cons h1 h2=>
   have:=nlL_ok hk j h2
   cases x<;>exact .cons h1 this
theorem nlL_len: ∀ (ls:List LV) (j:Nat),(nlL k ls j).length=ls.length
 | [],j=>by cases j<;>rfl
 |x::r,0=>by cases x<;>rfl
 |x::r,j+1=>by cases x<;>simp[nlL,nlL_len r j]
theorem lkp_nlK {b k j b':Nat}: ∀ {l:List (Nat×List LV)} {ls:List LV},lkp (nlK b k j l) b'=some ls→ ∃ls0,lkp l b'=some ls0∧(ls=ls0∨ls=nlL k ls0 j)
 | [],_,h=>by simp[nlK,lkp] at h
 |(c,x)::r,ls,h=>by
  simp only[nlK] at h
  split at h
  ·simp only[lkp] at h⊢
   split at h
   ·rename_i e
    cases h
    exact ⟨x,by simp[e],.inr rfl⟩
   ·rename_i e
    exact ⟨ls,by simp[e,h],.inl rfl⟩
  ·simp only[lkp] at h⊢
   split at h
   ·rename_i e
    cases h
    exact ⟨_,by simp[e],.inl rfl⟩
   ·rename_i e
    obtain ⟨ls0,h1,h2⟩:=lkp_nlK h
    exact ⟨ls0,by simp[e,h1],h2⟩
theorem lkp_nlT {t k j t':Nat}: ∀ {l:List (Nat×SV)} {s:SV},lkp (nlT t k j l) t'=some s→ ∃s0,lkp l t'=some s0∧(s=s0∨ ∃ag ls,s0= .v ag ls∧s= .v ag (nlL k ls j))
 | [],_,h=>by simp[nlT,lkp] at h
 |(c,x)::r,s,h=>by
  simp only[nlT] at h
  split at h
  ·simp only[lkp] at h⊢
   split at h
   ·rename_i e
    cases h
    refine ⟨x,by simp[e], ?_⟩
    cases x<;>first|exact .inr ⟨_,_,rfl,rfl⟩|exact .inl rfl
   ·rename_i e
    exact ⟨s,by simp[e,h],.inl rfl⟩
  ·simp only[lkp] at h⊢
   split at h
   ·rename_i e
    cases h
    exact ⟨_,by simp[e],.inl rfl⟩
   ·rename_i e
    obtain ⟨s0,h1,h2⟩:=lkp_nlT h
    exact ⟨s0,by simp[e,h1],h2⟩
theorem St.nil0 (hs:St w0 tag0 E tag hv a w) (k:Nat): ∃hv',hv' [k]= .slice none 0 0∧St w0 tag0 (E.fresh (fun r=>r==k)) tag hv' a w:=by
 refine ⟨fun q=>if q= [k] then .slice none 0 0 else hv q,by simp,hs.hop ⟨fun _ _ h=>⟨h,rfl⟩,fun _ _ _ _ h _=>⟨h,rfl⟩,fun r p hr=> ?_⟩ hs.fr hs.hi⟩
 have:r≠k:=by simpa using hr
 simp[this]
end
theorem Gh.nlB (E:Env) (b j k e:Nat) (cols:Nat→List Md) (z:List Lf):Gh E (E.nlB b j k (.o e cols,z)):=by
 intro w0 tag0 tag hv a w hs
 obtain ⟨hv',hk,h⟩:=hs.nil0 k
 refine ⟨tag,hv',h.nt,h.df,h.sl,fun b' ls hl=> ?_,fun r x hl=> ?_,h.fr,h.hi⟩
 ·obtain ⟨ls0,h1,h2⟩:=lkp_nlK hl
  obtain ⟨q,cur,e',h3,h4,h5,h6⟩:=h.bx b' ls0 h1
  refine ⟨q,cur,e',h3,h4,h5, ?_⟩
  rcases h2 with rfl|rfl
  ·exact h6
  ·exact nlL_ok hk j h6
 ·simp only[Env.nlB,lkp] at hl
  split at hl
  ·rename_i e2
   subst e2
   cases hl
   rw[hk]
   exact .own0 hk
  ·exact h.rt r x hl
theorem Gh.nlS (E:Env) (t j k e:Nat) (cols:Nat→List Md) (z:List Lf):Gh E (E.nlS t j k (.o e cols,z)):=by
 intro w0 tag0 tag hv a w hs
 obtain ⟨hv',hk,h⟩:=hs.nil0 k
 refine ⟨tag,hv',h.nt,h.df,fun t' s hl=> ?_,h.bx,fun r x hl=> ?_,h.fr,h.hi⟩
 ·obtain ⟨s0,h1,h2⟩:=lkp_nlT hl
  have h3:=h.sl t' s0 h1
  rcases h2 with rfl|⟨ag,ls,rfl,rfl⟩
  ·exact h3
  ·obtain ⟨cs,q1,q2,q3⟩:=h3
   exact ⟨cs,q1,nlL_ok hk j q2,fun hf=>by rw[nlL_len];exact q3 hf⟩
 ·simp only[Env.nlS,lkp] at hl
  split at hl
  ·rename_i e2
   subst e2
   cases hl
   rw[hk]
   exact .own0 hk
  ·exact h.rt r x hl
attribute [simp] Env.nlB Env.nlS nlL nlK nlT
end Go.Sm
