import Derived.Test.YteeolohhmfjafaaGreatG1
import Derived.Maps.AppendAt
import Derived.Deep.AppendSrc
import Derived.Deep.Upon
import Derived.Lib.ConvBytes
import Derived.Lib.Strings
import Derived.Orders
set_option maxHeartbeats 8000000
set_option maxRecDepth 8000
namespace Go
section
variable {P : Program} (w : World)
theorem setCells_blk (g:Nat) (e:TypeId): ∀ (vs:List Value) (cur:Array Value) (off:Nat) (w:World),w.heap[g]? =some (.cells cur e (0,0))→off+vs.length≤cur.size→
  (w.setCells g off vs).heap[g]? =some (.cells (cur.toList.take off++(vs++cur.toList.drop (off+vs.length))).toArray e (0,0))∧(∀k,k≠g→(w.setCells g off vs).heap[k]? =w.heap[k]?)∧
   (w.setCells g off vs).heap.size=w.heap.size∧(w.setCells g off vs).os=w.os∧(w.setCells g off vs).tape=w.tape∧(w.setCells g off vs).output=w.output
 | [],cur,off,w,h,hl=>by
  refine ⟨?_,fun _ _=>rfl,rfl,rfl,rfl,rfl⟩
  simp only[World.setCells,h,List.length_nil,Nat.add_zero,List.nil_append,List.take_append_drop]
 |v::r,cur,off,w,h,hl=>by
  simp only[List.length_cons] at hl
  have hb1:(w.setCell ⟨g,off,none⟩ v).heap[g]? =some (.cells (cur.setIfInBounds off v) e (0,0)):=by
   simp[World.setCell,Array.getElem?_modify,h]
  obtain ⟨h1,h2,h3,h4,h5,h6⟩:=setCells_blk g e r (cur.setIfInBounds off v) (off+1) (w.setCell ⟨g,off,none⟩ v) hb1 (by simp;omega)
  refine ⟨?_,fun k hk=> ?_,by rw[World.setCells,h3];simp,h4,h5,h6⟩
  ·rw[World.setCells,h1]
   refine congrArg (fun l=>some (Obj.cells (List.toArray l) e)) ?_
   apply List.ext_getElem?
   intro j
   simp only[List.length_cons,Array.toList_setIfInBounds]
   rcases Nat.lt_trichotomy j off with hj|hj|hj
   ·rw[List.getElem?_append_left (by simp;omega),List.getElem?_append_left (by simp;omega),List.getElem?_take,List.getElem?_take,if_pos (by omega),if_pos hj,List.getElem?_set_ne (by omega)]
   ·have hj':j=off:=hj
    rw[hj',List.getElem?_append_left (by simp;omega),List.getElem?_take,if_pos (by omega),List.getElem?_set_self (by simp;omega)]
    rw[List.getElem?_append_right (by simp;omega)]
    simp only[List.length_take,Array.length_toList]
    rw[show off-min off cur.size=0 by omega]
    rfl
   ·have e1:(List.take (off+1) (cur.toList.set off v)).length=off+1:=by simp;omega
    have e2:(List.take off cur.toList).length=off:=by simp;omega
    rw[List.getElem?_append_right (l₁:=List.take (off+1) _) (by omega),List.getElem?_append_right (l₁:=List.take off _) (by omega),e1,e2]
    rw[show j-off=(j- (off+1))+1 by omega,List.cons_append,List.getElem?_cons_succ]
    by_cases hj2:j- (off+1)<r.length
    ·rw[List.getElem?_append_left hj2,List.getElem?_append_left hj2]
    ·rw[List.getElem?_append_right (by omega),List.getElem?_append_right (by omega),List.getElem?_drop,List.getElem?_drop,List.getElem?_set_ne (by omega)]
     congr 1
     omega
  ·rw[World.setCells,h2 k hk]
   exact RowKit.Below.heap_setCell w ⟨g,off,none⟩ v k hk
theorem run_append_own_src (base:Nat) (t tx ty e:TypeId) (i:TypeInfo) (z:Value) (size bytes:Nat) (ht:P.underlying t=some (.slice e)) (hi:P.info? e=some i) (hz:i.zero=some z)
  (hsize:i.size=size) (hby:i.bytes=bytes) (hzs:z.cells.size=size) (hsz:0<size)
  (v:Value) (n:Nat) (xs:List Value) (hown:w.ownsRow base e size v n xs)
  (x:Value) (m:Nat) (news:List Value) (hs:Src P size tx x m news w)
  (h63:n+m≤maxLen) (hbytes:(n+m)*bytes≤140737488355328) (hbase:base≤w.heap.size):
  ∃v' w',(Builtin.append_ #[t,tx] ty #[v,x]).run P w= .ok v' w'∧w'.ownsRow base e size v' (n+m) (xs++news)∧w.grownBy w' v.ownBlock∧
   (v'= .slice none 0 0↔v= .slice none 0 0∧m=0)∧(v'.ownBlock=v.ownBlock∨v'.ownBlock=some w.heap.size):=by
 subst hsize
 subst hby
 have hsmall:n+m≤9223372036854775807:=by simp only[maxLen] at h63;omega
 have hl:=hs.newsLen
 have hlen:(xs++news).length=(n+m)*i.size:=by rw[List.length_append,hown.1,hl,Nat.add_mul]
 have grown: ∀ (old:Nat),old<n+m→ ∀ (row:Option Nat),
   (w.drew.alloc (.cells ((xs++news).toArray++Builtin.zeroCells z.cells (grownCap w (n+m) old e- (n+m))) e)).ownsRow base e i.size
    (.slice (some ⟨w.heap.size,0,none⟩) (n+m) (grownCap w (n+m) old e)) (n+m) (xs++news)∧
   w.grownBy (w.drew.alloc (.cells ((xs++news).toArray++Builtin.zeroCells z.cells (grownCap w (n+m) old e- (n+m))) e)) row:=by
  intro old ho row
  have hge:=grownCap_ge w (n+m) old e
  have hcm:grownCap w (n+m) old e≤maxLen:=grownCap_le_maxLen w (n+m) old e h63
  refine ⟨⟨hlen,.inr ⟨w.heap.size,_,_,rfl,hbase,heap_alloc_new w.drew _,hge,hcm, ?_, ?_⟩⟩,⟨rfl,rfl,rfl,by simp,fun k hk _=>RowKit.Below.heap_alloc w.drew _ k hk⟩⟩
  ·simp only[Array.size_append,List.size_toArray,size_zeroCells,hzs,hlen,←Nat.add_mul]
   congr 1
   omega
  ·simp only[Array.toList_append]
   rw[←hlen]
   exact List.take_left
 rcases hown.2 with ⟨rfl,rfl⟩|⟨g,cap,cur,rfl,hbg,hg,hnc,hcm,hcs,htake⟩
 ·have hx:xs= []:=List.eq_nil_of_length_eq_zero (by simpa using hown.1)
  subst hx
  by_cases hm:m=0
  ·subst hm
   have hn:news= []:=List.eq_nil_of_length_eq_zero (by simpa using hl)
   subst hn
   exact ⟨.slice none 0 0,w,run_append_nothing w t tx ty e i ht hi none 0 0 (Nat.le_refl _) x hs,World.ownsRow_nil w base e i.size,⟨rfl,rfl,rfl,Nat.le_refl _,fun _ _ _=>rfl⟩,by simp,Or.inl rfl⟩
  ·have hr:=run_append_grow_src (P:=P) w t tx ty e i z ht hi hz none 0 0 [] (by simp[Builtin.firstCells]) x m news hs (by omega) (by omega) (growslice_fits (by omega) hbytes)
   have hgr:=grown 0 (by omega) (Value.ownBlock (.slice none 0 0))
   exact ⟨_,_,hr,hgr.1,hgr.2,by simp[hm],Or.inr rfl⟩
 ·by_cases hroom:n+m≤cap
  ·have hfit:n*i.size+news.length≤cur.size:=by rw[hl,hcs,←Nat.add_mul];exact Nat.mul_le_mul_right _ hroom
   have hcell: ∀j,j<news.length→(w.cell? ⟨g,0+n*i.size+j,none⟩).isSome=true:=fun j hj=>by
    simp only[World.cell?,hg,Option.isSome_none,Bool.false_eq_true,if_false]
    rw[Array.getElem?_eq_getElem (by omega)]
    rfl
   have hr:=run_append_room_src (P:=P) w t tx ty e i ht hi g 0 n cap x m news hs hroom hcell (fun j _=>by simp[World.frozen?,hg])
   have hset:=setCells_blk g e news cur (0+n*i.size) w hg (by omega)
   rw[show cur.toList.take (0+n*i.size)=cur.toList.take (n*i.size) by rw[Nat.zero_add],show 0+n*i.size+news.length=n*i.size+news.length by omega] at hset
   refine ⟨_,_,hr,⟨hlen,.inr ⟨g,cap,_,rfl,hbg,hset.1,hroom,hcm, ?_, ?_⟩⟩,⟨hset.2.2.2.1,hset.2.2.2.2.1,hset.2.2.2.2.2,by rw[hset.2.2.1];exact Nat.le_refl _,fun k _ hk=>hset.2.1 k (fun e=>hk (by simp[Value.ownBlock,e]))⟩,by simp,Or.inl rfl⟩
   ·simp only[List.size_toArray,List.length_append,List.length_take,List.length_drop,Array.length_toList]
    omega
   ·rw[htake,←hlen,←List.append_assoc]
    exact List.take_left
  ·have hcells:=run_firstCells_some (P:=P) w.drew i.size n ⟨g,0,none⟩ n cap xs hown.1 (by simpa using hown.cells (g:=g) rfl)
   have hr:=run_append_grow_src (P:=P) w t tx ty e i z ht hi hz (some ⟨g,0,none⟩) n cap xs hcells x m news hs (by omega) (by omega) (growslice_fits (by omega) hbytes)
   have hgr:=grown cap (by omega) (Value.ownBlock (.slice (some ⟨g,0,none⟩) n cap))
   exact ⟨_,_,hr,hgr.1,hgr.2,by simp,Or.inr rfl⟩
end
end Go
namespace Go.Sm
open Go.RowKit
set_option linter.unusedVariables false
set_option linter.unusedSimpArgs false
variable {P : Program} {ti : TT} {E : Env} {tag tag' tag0 : Nat → Tag} {hv hv' : Hv} {a : Act} {w w' w0 : World} {t d : Nat}
def Env.yvM (E:Env):LV→Md→Option (Md×Lf)
 | .n z,.o e cols=>some (.o e cols,.ls z [])
 |x,_=>E.yv x
def hdM:List Md→Md
 | []=> .s
 |m::_=>m
def Env.yvsM (E:Env):List LV→List Md→Option (List (Md×Lf))
 | [],_=>some []
 |y::r,ms=>match E.yvM y (hdM ms),E.yvsM r ms.tail with
  |some x,some xs=>some (x::xs)
  |_,_=>none
theorem yvsM_len: ∀ {ls:List LV} {ms:List Md} {ys:List (Md×Lf)},E.yvsM ls ms=some ys→ys.length=ls.length
 | [],_,ys,h=>by simp only[Env.yvsM,Option.some.injEq] at h;subst h;rfl
 |y::r,ms,ys,h=>by
  simp only[Env.yvsM] at h
  split at h
  ·rename_i x xs h1 h2
   cases h
   simp[yvsM_len h2]
  ·cases h
theorem yvsM_get: ∀ {ls:List LV} {ms:List Md} {ys:List (Md×Lf)} {j:Nat} {x:LV},E.yvsM ls ms=some ys→ls[j]? =some x→ ∃y m,ys[j]? =some y∧E.yvM x m=some y
 | [],_,ys,j,x,h,hj=>by simp at hj
 |y::r,ms,ys,j,x,h,hj=>by
  simp only[Env.yvsM] at h
  split at h
  ·rename_i x1 xs h1 h2
   cases h
   cases j with
   |zero=>
    simp only[List.getElem?_cons_zero,Option.some.injEq] at hj
    subst hj
    exact ⟨x1,_,rfl,h1⟩
   |succ j=>
    simp only[List.getElem?_cons_succ] at hj
    obtain ⟨u1,m,h3,h4⟩:=yvsM_get h2 hj
    exact ⟨u1,m,by simpa using h3,h4⟩
  ·cases h
def rootT (L:MvL) (d:Nat) (g:Nat) (tag:Nat→Tag):Nat→Tag:=fun b=>if b=g then .own [d] else mvT (Lt L) (Lh L) tag b
def rootH (L:MvL) (d:Nat) (v:Value) (hv:Hv):Hv:=fun q=>if q= [d] then v else match Lh L q with
 |some q0=>hv q0
 |none=>match q with
  |r::_=>if r=d then .slice none 0 0 else hv q
  | []=>hv q
def rootR (L:MvL) (d:Nat):Nat→Bool:=fun r=>fam d r||(L.map (·.1)).contains r
theorem St.newRoot (hs:St w0 tag0 E tag hv a w) (hd:d<1000) {e n c:Nat} {cols:Nat→List Md} {z:List Lf} {rows:List (List Lf)} {cur:Array Value} {L:MvL}
  (hLd: ∀x∈L,∃i j,x.2= [d,i,j]) (hLu: ∀x∈L,∀y∈L,x.2=y.2→x=y) (hLk:(L.map (·.1)).Nodup)
  (hn:rows.length=n) (hc:n≤c) (hm:c≤maxLen) (hsz:cur.size=c*z.length) (hl: ∀i,i<n→(rows.getD i z).length=z.length)
  (hcell: ∀i j,i<n→j<z.length→ ∃x y m,LR tag hv w x (cur.getD (i*z.length+j) default)∧E.yvM x m=some y∧md cols i j=y.1∧lf z rows i j=y.2∧(∀k,x= .r [k]→(k,[d,i,j])∈L)∧(∀z',x= .n z'→ ∀k,(k,[d,i,j])∉L)):
  St w0 tag0 (E.re (rootR L d) [] [] [(d,.o e cols,.ls z rows)]) (rootT L d w.heap.size tag) (rootH L d (.slice (some ⟨w.heap.size,0,none⟩) n c) hv) a (w.alloc (.cells cur e)):=by
 have hdl: ∀q,dth (rootR L d) [] q=false→Lt L q=none∧Lh L q=none∧q≠ [d]∧ ∃r q',q=r::q'∧r≠d:=fun q hq=>by
  cases q with
  |nil=>simp[dth] at hq
  |cons r q=>
   simp only[dth,rootR,List.any_nil,Bool.or_false,Bool.or_eq_false_iff] at hq
   have hrd:r≠d:=fun e=>by
    subst e
    have:=hq.1
    simp[fam] at this
    omega
   refine ⟨by simp only[Lt,lkp_none_keys hq.2,Option.map_none],Lh_none fun x hx=> ?_,fun e=>hrd (by injection e),r,q,rfl,hrd⟩
   obtain ⟨i,j,h1⟩:=hLd x hx
   rw[h1]
   simp[List.isPrefixOf,Ne.symm hrd]
 have hlt: ∀b,b<w.heap.size→b≠w.heap.size:=fun b h=>by omega
 have hHp:Hp (rootR L d) [] [] tag (rootT L d w.heap.size tag) hv (rootH L d (.slice (some ⟨w.heap.size,0,none⟩) n c) hv) w (w.alloc (.cells cur e)):=by
  refine ⟨fun b hb h=>⟨?_,Below.heap_alloc w _ b hb⟩,fun b q hb h hq=>⟨?_,fun _=>Below.heap_alloc w _ b hb⟩,fun b hb h=>⟨?_,Below.heap_alloc w _ b hb⟩,fun q hq=> ?_,rfl,rfl,rfl,by simp,fun b hb=> ?_⟩
  ·simp only[rootT,if_neg (hlt b hb)]
   exact mvT_sh h
  ·simp only[rootT,if_neg (hlt b hb)]
   exact mvT_own h (hdl q hq).1 (hdl q hq).2.1
  ·simp only[rootT,if_neg (hlt b hb)]
   exact mvT_off h
  ·obtain ⟨_,h2,h3,r,q',rfl,h4⟩:=hdl q hq
   simp only[rootH,if_neg h3,h2,if_neg h4]
  ·rw[World.size_alloc] at hb
   simp only[rootT,if_neg (show b≠w.heap.size by omega)]
   exact mvT_off (hs.hi b (by omega))
 refine hs.re hHp (by simp) fun r y hl'=> ?_
 simp only[lkp] at hl'
 split at hl'
 ·rename_i he
  subst he
  cases hl'
  simp only[rootH,if_true]
  have hroot: ∀L d v,rootH L d v hv [d]=v:=fun L d v=>by simp[rootH]
  refine .own cur hn hc hm (by simp[rootT]) (hroot _ _ _) (heap_alloc_new w _) hsz hl (fun i j hi hj=> ?_)
  obtain ⟨x,y,m,h1,h2,h3,h4,h5,h6⟩:=hcell i j hi hj
  rw[h3,h4]
  have key:E.yv x=some y→VR (rootT L d w.heap.size tag) (rootH L d (.slice (some ⟨w.heap.size,0,none⟩) n c) hv) (w.alloc (.cells cur e)) ([d]++ [i,j]) y.1 y.2 (cur.getD (i*z.length+j) default):=fun hy=>by
   refine yv_ok hs hHp hy h1 (fun k hk rest=> ?_)
   have hmem:=h5 k hk
   have hLh:=Lh_of (rest:=rest) (L:=L) (k:=k) (p:= [d,i,j]) (fun x hx=>by
    obtain ⟨i,j,h⟩:=hLd x hx
    rw[h];rfl) (fun x hx he=>hLu x hx _ hmem he) hmem
   refine ⟨?_,fun b hb=> ?_⟩
   ·simp only[List.cons_append,List.nil_append] at hLh⊢
    simp[rootH,hLh]
   ·have hblt:b<w.heap.size:=by
     rcases Nat.lt_or_ge b w.heap.size with h|h
     ·exact h
     ·rw[hs.hi b h] at hb;cases hb
    refine ⟨?_,Below.heap_alloc w _ b hblt⟩
    simp only[rootT,if_neg (hlt b hblt)]
    refine mvT_mv hb ?_
    simp only[Lt,lkp_of_mem hLk hmem,Option.map_some]
    rfl
  unfold Env.yvM at h2
  split at h2
  ·rename_i z' e' cols'
   cases h2
   rw[show cur.getD (i*z.length+j) default= .slice none 0 0 from h1]
   refine .own0 ?_
   have hLh:Lh L [d,i,j]=none:=Lh_none fun x hx=>by
    obtain ⟨i',j',h⟩:=hLd x hx
    cases hz:x.2.isPrefixOf [d,i,j] with
    |false=>rfl
    |true=>
     exfalso
     have h7:=List.isPrefixOf_iff_prefix.1 hz
     rw[h] at h7
     have h8: [d,i',j']= [d,i,j]:=prefix_same (rest:= []) rfl (by simpa using h7)
     refine h6 z' rfl x.1 ?_
     rw[←h8,←h]
     exact hx
   simp[rootH,hLh]
  ·exact key h2
 ·cases hl'
def msK (ms:List Md):List Lf→Bool
 | []=>true
 | .ls _ []::z=>msK ms.tail z
 | .sc _::z=>(match hdM ms with| .s=>true|_=>false)&&msK ms.tail z
 |_=>false
theorem zyvs (E:Env): ∀ {z:List Lf} {ms:List Md},msK ms z=true→ ∃ys,E.yvsM (z.map zLV) ms=some ys∧ys.map (·.2)=z
 | [],ms,_=>⟨[],rfl,rfl⟩
 | .sc v::z,ms,h=>by
  simp only[msK,Bool.and_eq_true] at h
  obtain ⟨ys,h1,h2⟩:=zyvs E (z:=z) h.2
  refine ⟨(.s,.sc v)::ys, ?_,by simp[h2]⟩
  simp[Env.yvsM,zLV,Env.yvM,Env.yv,h1]
 | .ls zz []::z,ms,h=>by
  simp only[msK] at h
  obtain ⟨ys,h1,h2⟩:=zyvs E (z:=z) h
  cases hm:hdM ms with
  |o e cols=>exact ⟨(.o e cols,.ls zz [])::ys,by simp[Env.yvsM,zLV,Env.yvM,h1,hm],by simp[h2]⟩
  |s=>exact ⟨(.s,.ls zz [])::ys,by simp[Env.yvsM,zLV,Env.yvM,Env.yv,h1,hm],by simp[h2]⟩
  |x=>exact ⟨(.s,.ls zz [])::ys,by simp[Env.yvsM,zLV,Env.yvM,Env.yv,h1,hm],by simp[h2]⟩
 | .ls zz (_::_)::z,ms,h=>by simp[msK] at h
def msF (ms:List Md):List Lf→List Md
 | []=> []
 | .ls _ _::z=>(match hdM ms with| .o e cols=> .o e cols|_=> .s)::msF ms.tail z
 | .sc _::z=> .s::msF ms.tail z
theorem zyvs': ∀ {z:List Lf} {ms:List Md} {ys:List (Md×Lf)},E.yvsM (z.map zLV) ms=some ys→ys.map (·.1)=msF ms z
 | [],ms,ys,h=>by simp only[List.map_nil,Env.yvsM,Option.some.injEq] at h;subst h;rfl
 |x::z,ms,ys,h=>by
  simp only[List.map_cons,Env.yvsM] at h
  split at h
  ·rename_i y ys' h1 h2
   cases h
   have:=zyvs' h2
   cases x with
   |sc v=>
    simp only[zLV,Env.yvM,Env.yv,Option.some.injEq] at h1
    subst h1
    simp[msF,this]
   |ls zz rows=>
    simp only[zLV] at h1
    cases hm:hdM ms with
    |o e cols=>
     simp only[hm,Env.yvM,Option.some.injEq] at h1
     subst h1
     simp[msF,this,hm]
    |s=>
     simp only[hm,Env.yvM,Env.yv,Option.some.injEq] at h1
     subst h1
     simp[msF,this,hm]
    |x=>
     simp only[hm,Env.yvM,Env.yv,Option.some.injEq] at h1
     subst h1
     simp[msF,this,hm]
  ·cases h
def Env.mkS (E:Env) (d e n:Nat) (ms:List Md) (z:List Lf):Env:=E.re (fam d) [] [] [(d,.o e (fun _=>msF ms z),.ls z (List.replicate n z))]
theorem run_mk {e:Nat} {z:List Lf} {ms:List Md} {n:Nat} {kl kc:IntKind} (hT:TGood P ti) (hs:St w0 tag0 E tag hv a w) (hd:d<1000) (ht:(ti t).ok=true) (he:(ti t).elt=some e) (hek:(ti e).ok=true) (hz:(ti e).z=z) (hms:msK ms z=true)
  (hn:n* (ti e).by_≤281474976710656):
  ∃w' v tg hh,(Instr.makeSlice t (.int kl n) (.int kc n)).run P w= .ok v w'∧St w0 tag0 (E.mkS d e n ms z) tg hh a w'∧SR tg hh w' (.v false [.r [d]]) v:=by
 have g:=hT t ht
 have ge:=hT e hek
 have hdesc:(ti t).desc= .slice e:=by
  unfold TI.elt at he
  split at he
  ·rename_i h
   cases he
   exact h
  ·cases he
 obtain ⟨x,h1,h2,h3,h4⟩:=ge.inf
 have hn63:n≤281474976710656:=by
  have:=ge.posb
  have h5:n*1≤n* (ti e).by_:=Nat.mul_le_mul_left _ this
  omega
 have hbb:(x.bytes:Int)* (n:Int)≤281474976710656:=by
  have h:((x.bytes*n:Nat):Int)≤281474976710656:=by rw[h3,Nat.mul_comm];omega
  rwa [Int.natCast_mul] at h
 have hr:=run_make (P:=P) w t e x (ti e).zv (by rw[g.und,hdesc]) h1 h4 kl kc n n (by omega) (Int.le_refl _) hbb (by omega)
 simp only[Int.toNat_natCast] at hr
 subst hz
 obtain ⟨ys,hy1,hy2⟩:=zyvs E (z:=(ti e).z) hms
 have hy3:=zyvs' hy1
 have hzl:=ge.zl
 have hall:=zLV_ok (tag:=tag) (hv:=hv) (w:=w) ge
 have hzc:(ti e).zv.cells.size=(ti e).sz:=by
  rw[←Array.length_toList,←hall.len]
  simpa using hzl
 have hst:=hs.newRoot hd (e:=e) (n:=n) (c:=n) (cols:=fun _=>msF ms (ti e).z) (z:=(ti e).z) (rows:=List.replicate n (ti e).z) (cur:=madeCells (ti e).zv.cells (n*x.size)) (L:= []) (by simp) (by simp) (by simp) (by simp) (Nat.le_refl _) (by simp[maxLen];omega)
  (by rw[size_madeCells,h2,hzl]) (fun i hi=>by simp[List.getD_eq_getElem?_getD,List.getElem?_replicate,hi]) (fun i j hi hj=>by
   have hjl:j< ((ti e).z.map zLV).length:=by simpa using hj
   obtain ⟨y,m,h5,h6⟩:=yvsM_get hy1 (List.getElem?_eq_getElem hjl)
   have hcl:j< (ti e).zv.cells.toList.length:=by rw[Array.length_toList,hzc,←hzl];exact hj
   refine ⟨_,y,m,hall.get j _ _ (List.getElem?_eq_getElem hjl) (?_),h6, ?_, ?_,fun k hk=> ?_,by simp⟩
   ·rw[List.getElem?_eq_getElem hcl]
    congr 1
    have hlt:i* (ti e).z.length+j<n*x.size:=by
     rw[h2,←hzl]
     have h1:(i+1)* (ti e).z.length≤n* (ti e).z.length:=Nat.mul_le_mul_right _ (by omega)
     rw[Nat.add_mul] at h1
     omega
    rw[Array.getD_eq_getD_getElem?,Array.getElem?_eq_getElem (by rw[size_madeCells];exact hlt)]
    simp only[madeCells,Array.getElem_map,Array.getElem_range,Option.getD_some]
    have hmod:(i* (ti e).z.length+j)% (ti e).zv.cells.size=j:=by
     rw[hzc,←hzl,Nat.mul_comm,Nat.mul_add_mod]
     exact Nat.mod_eq_of_lt hj
    rw[hmod,getElem!_pos _ _ (by rw[hzc,←hzl];exact hj)]
    simp
   ·simp only[md]
    rw[←hy3,List.getD_eq_getElem?_getD,List.getElem?_map,h5]
    rfl
   ·simp only[lf]
    rw[List.getD_eq_getElem?_getD (l:=List.replicate _ _),List.getElem?_replicate,if_pos hi]
    simp only[Option.getD_some]
    conv=>lhs;rw[←hy2]
    rw[List.getD_eq_getElem?_getD,List.getElem?_map,h5]
    rfl
   ·rw[List.getElem_map] at hk
    cases hz:(ti e).z[j]<;>rw[hz] at hk<;>cases hk)
 have hR:rootR [] d=fam d:=by funext r;simp[rootR]
 rw[hR] at hst
 exact ⟨_,_,_,_,hr,hst,VV_one ⟨by simp[rootH],_,_,_,rfl⟩⟩
theorem run_al {o:Oper} (hT:TGood P ti) (hs:St w0 tag0 E tag hv a w) (hd:d<1000) (hek:(ti t).ok=true) (hms:msK (ti t).ms (ti t).z=true) (ho:o.op= .alloc t):
  ∃w' v tg hh,(execOp a.eval o).run P w= .ok (.value v) w'∧St w0 tag0 (E.mkS d t 1 (ti t).ms (ti t).z) tg hh a w'∧SR tg hh w' (.p (.pt [d] (ti t).z.length 0 0)) v:=by
 have ge:=hT t hek
 have hr:=run_alloc (P:=P) (a:=a) (w:=w) ge ho
 obtain ⟨ys,hy1,hy2⟩:=zyvs E (z:=(ti t).z) hms
 have hy3:=zyvs' hy1
 have hzl:=ge.zl
 have hall:=zLV_ok (tag:=tag) (hv:=hv) (w:=w) ge
 have hzc:(ti t).zv.cells.size=(ti t).sz:=by
  rw[←Array.length_toList,←hall.len]
  simpa using hzl
 have hst:=hs.newRoot hd (e:=t) (n:=1) (c:=1) (cols:=fun _=>msF (ti t).ms (ti t).z) (z:=(ti t).z) (rows:=List.replicate 1 (ti t).z) (cur:=(ti t).zv.cells) (L:= []) (by simp) (by simp) (by simp) (by simp) (Nat.le_refl _) (by simp[maxLen])
  (by rw[hzc,hzl];simp) (fun i hi=>by simp[List.getD_eq_getElem?_getD,List.getElem?_replicate,hi]) (fun i j hi hj=>by
   have hi0:i=0:=by omega
   subst hi0
   have hjl:j< ((ti t).z.map zLV).length:=by simpa using hj
   obtain ⟨y,m,h5,h6⟩:=yvsM_get hy1 (List.getElem?_eq_getElem hjl)
   have hcl:j< (ti t).zv.cells.toList.length:=by rw[Array.length_toList,hzc,←hzl];exact hj
   refine ⟨_,y,m,hall.get j _ _ (List.getElem?_eq_getElem hjl) (?_),h6, ?_, ?_,fun k hk=> ?_,by simp⟩
   ·rw[List.getElem?_eq_getElem hcl,Nat.zero_mul,Nat.zero_add,Array.getD_eq_getD_getElem?,←Array.getElem?_toList,List.getElem?_eq_getElem hcl]
    rfl
   ·simp only[md]
    rw[←hy3,List.getD_eq_getElem?_getD,List.getElem?_map,h5]
    rfl
   ·simp only[lf]
    rw[List.getD_eq_getElem?_getD (l:=List.replicate _ _),List.getElem?_replicate,if_pos hi]
    simp only[Option.getD_some]
    conv=>lhs;rw[←hy2]
    rw[List.getD_eq_getElem?_getD,List.getElem?_map,h5]
    rfl
   ·rw[List.getElem_map] at hk
    cases hz:(ti t).z[j]<;>rw[hz] at hk<;>cases hk)
 have hR:rootR [] d=fam d:=by funext r;simp[rootR]
 rw[hR] at hst
 exact ⟨_,_,_,_,hr,hst,w.heap.size,1,1,by simp[rootH],by simp⟩
end Go.Sm
namespace Go.Sm
open Go.RowKit
variable {P : Program} {ti : TT} {E : Env} {tag tag' tag0 : Nat → Tag} {hv hv' : Hv} {a : Act} {w w' w0 : World} {t d : Nat}
def chunks {α:Type} (sz:Nat):Nat→List α→List (List α)
 |0,_=> []
 |n+1,F=>F.take sz::chunks sz n (F.drop sz)
theorem chunks_len {α:Type} {sz:Nat}: ∀ {n:Nat} {F:List α},(chunks sz n F).length=n
 |0,_=>rfl
 |n+1,F=>by simp[chunks,chunks_len]
theorem chunks_get {α:Type} {sz:Nat}: ∀ {n i:Nat} {F:List α},i<n→(chunks sz n F)[i]? =some ((F.drop (i*sz)).take sz)
 |0,_,_,h=>by omega
 |n+1,0,F,_=>by simp[chunks]
 |n+1,i+1,F,h=>by
  simp only[chunks,List.getElem?_cons_succ]
  rw[chunks_get (by omega),List.drop_drop,Nat.add_mul,Nat.one_mul,Nat.add_comm]
def Env.yvsR (E:Env) (ms:List Md):List (List LV)→Option (List (List (Md×Lf)))
 | []=>some []
 |r::rs=>match E.yvsM r ms,E.yvsR ms rs with
  |some y,some ys=>some (y::ys)
  |_,_=>none
theorem yvsR_get {ms:List Md}: ∀ {rs:List (List LV)} {ys:List (List (Md×Lf))} {i:Nat} {r:List LV},E.yvsR ms rs=some ys→rs[i]? =some r→ ∃y,ys[i]? =some y∧E.yvsM r ms=some y
 | [],ys,i,r,h,hi=>by simp at hi
 |x::rs,ys,i,r,h,hi=>by
  simp only[Env.yvsR] at h
  split at h
  ·rename_i y ys' h1 h2
   cases h
   cases i with
   |zero=>
    simp only[List.getElem?_cons_zero,Option.some.injEq] at hi
    subst hi
    exact ⟨y,rfl,h1⟩
   |succ i=>
    simp only[List.getElem?_cons_succ] at hi
    obtain ⟨y',h3,h4⟩:=yvsR_get h2 hi
    exact ⟨y',by simpa using h3,h4⟩
  ·cases h
theorem yvsR_len {ms:List Md}: ∀ {rs:List (List LV)} {ys:List (List (Md×Lf))},E.yvsR ms rs=some ys→ys.length=rs.length
 | [],ys,h=>by simp only[Env.yvsR,Option.some.injEq] at h;subst h;rfl
 |x::rs,ys,h=>by
  simp only[Env.yvsR] at h
  split at h
  ·rename_i y ys' h1 h2
   cases h
   simp[yvsR_len h2]
  ·cases h
def colsOf:List (List Md)→Nat→List Md
 | [],_=> []
 | [m],_=>m
 |m::r,k=>if k=0 then m else colsOf r (k-1)
theorem colsOf_get: ∀ {ms:List (List Md)} {k:Nat} {m:List Md},ms[k]? =some m→colsOf ms k=m
 | [],k,m,h=>by simp at h
 | [m],k,m',h=>by
  cases k with
  |zero=>simpa [colsOf] using h
  |succ k=>simp at h
 |m::m2::r,k,m',h=>by
  cases k with
  |zero=>simpa [colsOf] using h
  |succ k=>
   simp only[List.getElem?_cons_succ] at h
   simp only[colsOf,Nat.add_sub_cancel,Nat.add_one_ne_zero,if_false]
   exact colsOf_get h
def padM:List Md→List Lf→List Md
 |_,[]=> []
 |ms,_::z=>hdM ms::padM ms.tail z
def colsE (ms:List Md) (z:List Lf) (l:List (List Md)):Nat→List Md:=match l with
 | []=>fun _=>padM ms z
 |m::r=>colsOf (m::r)
theorem colsE_get {ms0:List Md} {z:List Lf} {ms:List (List Md)} {k:Nat} {m:List Md} (h:ms[k]? =some m):colsE ms0 z ms k=m:=by
 cases ms with
 |nil=>simp at h
 |cons x r=>exact colsOf_get h
def mvsR (d:Nat):Nat→List (List LV)→MvL
 |_,[]=> []
 |i,r::rs=>mvs [d] i 0 r++mvsR d (i+1) rs
theorem mvsR_mem {d:Nat} {x:Nat×List Nat}: ∀ {rs:List (List LV)} {i:Nat},x∈mvsR d i rs→ ∃m j r,rs[m]? =some r∧r[j]? =some (.r [x.1])∧x.2= [d,i+m,j]
 | [],i,h=>by simp[mvsR] at h
 |r::rs,i,h=>by
  simp only[mvsR,List.mem_append] at h
  rcases h with h|h
  ·obtain ⟨j,h1,h2⟩:=mvs_mem h
   exact ⟨0,j,r,rfl,h1,by rw[h2];simp⟩
  ·obtain ⟨m,j,r',h1,h2,h3⟩:=mvsR_mem h
   exact ⟨m+1,j,r',by simpa using h1,h2,by rw[h3,show i+1+m=i+(m+1) by omega]⟩
theorem mvsR_of {d k:Nat}: ∀ {rs:List (List LV)} {i m j:Nat} {r:List LV},rs[m]? =some r→r[j]? =some (.r [k])→(k,[d,i+m,j])∈mvsR d i rs
 | [],i,m,j,r,h,_=>by simp at h
 |x::rs,i,0,j,r,h,hj=>by
  simp only[List.getElem?_cons_zero,Option.some.injEq] at h
  subst h
  have:=mvs_of (p:= [d]) (i:=i) (j:=0) hj
  simp only[mvsR,List.mem_append]
  left
  simpa using this
 |x::rs,i,m+1,j,r,h,hj=>by
  simp only[List.getElem?_cons_succ] at h
  have:=mvsR_of (d:=d) (i:=i+1) h hj
  rw[show i+1+m=i+(m+1) by omega] at this
  simp only[mvsR,List.mem_append]
  exact .inr this
def Env.bs (E:Env) (d e n:Nat) (ms:List Md) (z:List Lf) (F:List LV):Option (Prop×Env):=
 match E.yvsR ms (chunks z.length n F) with
 |some ys=>some (((mvsR d 0 (chunks z.length n F)).map (·.1)).Nodup∧F.length=n*z.length,E.re (rootR (mvsR d 0 (chunks z.length n F)) d) [] [] [(d,.o e (colsE ms z (ys.map fun r=>r.map (·.1))),.ls z (ys.map fun r=>r.map (·.2)))])
 |none=>none
theorem St.bs (hs:St w0 tag0 E tag hv a w) (hd:d<1000) {e n:Nat} {ms:List Md} {z:List Lf} {F:List LV} {C:Prop} {E':Env} {cur:Array Value} (hn:n≤maxLen) (h:E.bs d e n ms z F=some (C,E')) (hC:C) (hall:All2 (LR tag hv w) F cur.toList):
  ∃tg hh,St w0 tag0 E' tg hh a (w.alloc (.cells cur e))∧SR tg hh (w.alloc (.cells cur e)) (.v false [.r [d]]) (.slice (some ⟨w.heap.size,0,none⟩) n n):=by
 unfold Env.bs at h
 split at h
 ·rename_i ys hys
  cases h
  obtain ⟨hnd,hF⟩:=hC
  have hlen:=yvsR_len hys
  rw[chunks_len] at hlen
  have hsz:cur.size=n*z.length:=by rw[←hF,hall.len];simp
  have hrow: ∀i j,i<n→j<z.length→ ∃r,(chunks z.length n F)[i]? =some r∧r[j]? =F[i*z.length+j]? ∧i*z.length+j<F.length:=fun i j hi hj=>by
   refine ⟨_,chunks_get hi, ?_, ?_⟩
   ·rw[List.getElem?_take,if_pos hj,List.getElem?_drop]
   ·rw[hF]
    have h1:(i+1)*z.length≤n*z.length:=Nat.mul_le_mul_right _ (by omega)
    rw[Nat.add_mul] at h1
    omega
  refine ⟨_,_,hs.newRoot hd (L:=mvsR d 0 (chunks z.length n F)) (fun x hx=> ?_) (fun x hx y hy he=> ?_) hnd (by simpa using hlen) (Nat.le_refl n) hn hsz (fun i hi=> ?_) (fun i j hi hj=> ?_),VV_one ⟨by simp[rootH],_,_,_,rfl⟩⟩
  ·obtain ⟨m,j,r,_,_,h3⟩:=mvsR_mem hx
   exact ⟨_,_,h3⟩
  ·obtain ⟨m,j,r,h1,h2,h3⟩:=mvsR_mem hx
   obtain ⟨m',j',r',h1',h2',h3'⟩:=mvsR_mem hy
   rw[h3,h3'] at he
   simp only[List.cons.injEq,Nat.zero_add,and_true,true_and] at he
   obtain ⟨rfl,rfl⟩:=he
   rw[h1] at h1'
   cases h1'
   rw[h2] at h2'
   simp only[Option.some.injEq,LV.r.injEq,List.cons.injEq,and_true] at h2'
   exact Prod.ext h2' (by rw[h3,h3'])
  ·obtain ⟨y,h1,h2⟩:=yvsR_get hys (chunks_get hi)
   have h3:=yvsM_len h2
   rw[List.getD_eq_getElem?_getD,List.getElem?_map,h1]
   simp only[Option.map_some,Option.getD_some,List.length_map,h3,List.length_take,List.length_drop,hF]
   have h1:(i+1)*z.length≤n*z.length:=Nat.mul_le_mul_right _ (by omega)
   rw[Nat.add_mul] at h1
   omega
  ·obtain ⟨r,h1,h2,h3⟩:=hrow i j hi hj
   obtain ⟨yr,h4,h5⟩:=yvsR_get hys h1
   rw[List.getElem?_eq_getElem h3] at h2
   obtain ⟨y,m,h6,h7⟩:=yvsM_get h5 h2
   refine ⟨_,y,m,hall.get _ _ _ (List.getElem?_eq_getElem h3) ?_,h7, ?_, ?_,fun k hk=> ?_,fun z' hz' k hk=> ?_⟩
   ·have:i*z.length+j<cur.size:=by rw[hsz,←hF];exact h3
    rw[Array.getElem?_toList,Array.getD_eq_getD_getElem?,Array.getElem?_eq_getElem this]
    rfl
   ·simp only[md]
    rw[colsE_get (m:=yr.map (·.1)) (by rw[List.getElem?_map,h4];rfl),List.getD_eq_getElem?_getD,List.getElem?_map,h6]
    rfl
   ·simp only[lf]
    rw[List.getD_eq_getElem?_getD (l:=ys.map _),List.getElem?_map,h4]
    simp only[Option.map_some,Option.getD_some]
    rw[List.getD_eq_getElem?_getD,List.getElem?_map,h6]
    rfl
   ·rw[hk] at h2
    have:=mvsR_of (d:=d) (i:=0) h1 h2
    simpa using this
   ·obtain ⟨m',j',r',q1,q2,q3⟩:=mvsR_mem hk
    simp only[List.cons.injEq,Nat.zero_add,and_true,true_and] at q3
    obtain ⟨rfl,rfl⟩:=q3
    rw[h1] at q1
    cases q1
    rw[h2,hz'] at q2
    cases q2
 ·cases h
end Go.Sm
namespace Go.Sm
open Go.RowKit
set_option linter.unusedVariables false
set_option linter.unusedSimpArgs false
variable {P : Program} {ti : TT} {E : Env} {tag tag' tag0 : Nat → Tag} {hv hv' : Hv} {a : Act} {w w' w0 : World} {t d : Nat}
def bsO (ti:TT) (E:Env) (d t n:Nat) (parts:List (Nat×Operand)):Option (Prop×Env):=
 match (ti t).elt with
 |some e=>match bparts ti E (fun i=>some (i* (ti e).sz,e)) parts (List.replicate n ((ti e).z.map zLV)).flatten with
  |some (C,F)=>match E.bs d e n (ti e).ms (ti e).z F with
   |some (D,E')=>some ((ti t).ok=true∧(ti e).ok=true∧n* (ti e).sz≤16777216∧d<1000∧C∧D,E')
   |none=>none
  |none=>none
 |none=>none
theorem flat_get {α:Type} {l:List α}: ∀ {n j:Nat},j<n*l.length→((List.replicate n l).flatten)[j]? =l[j%l.length]?
 |0,j,h=>by simp at h
 |n+1,j,h=>by
  rw[List.replicate_succ,List.flatten_cons]
  by_cases hj:j<l.length
  ·rw[List.getElem?_append_left hj,Nat.mod_eq_of_lt hj]
  ·have h2:n*l.length+l.length=(n+1)*l.length:=by rw[Nat.add_mul,Nat.one_mul]
   rw[List.getElem?_append_right (by omega),flat_get (by omega),Nat.mod_eq_sub_mod (a:=j) (b:=l.length) (by omega)]
theorem bsO_ok {o:Oper} {n:Nat} {parts:Array (Nat×Operand)} {C:Prop} {E':Env} (hT:TGood P ti) (hs:St w0 tag0 E tag hv a w) (ho:o.op= .buildSlice t n parts) (h:bsO ti E d t n parts.toList=some (C,E')) (hC:C):
  ∃v w' tg hh,(execOp a.eval o).run P w= .ok (.value v) w'∧St w0 tag0 E' tg hh a w'∧SR tg hh w' (.v false [.r [d]]) v:=by
 unfold bsO at h
 split at h
 ·rename_i e he
  split at h
  ·rename_i C1 F hF
   split at h
   ·rename_i D E1 hE
    cases h
    obtain ⟨ht,hek,hn,hd,hC1,hD⟩:=hC
    have g:=hT t ht
    have ge:=hT e hek
    have hund:=elt_und g he
    obtain ⟨x,h1,h2,h3,h4⟩:=ge.inf
    have hzc:(ti e).zv.cells.size=(ti e).sz:=by
     rw[←Array.length_toList,←(zLV_ok (tag:=tag) (hv:=hv) (w:=w) ge).len]
     simpa using ge.zl
    have hall0:All2 (LR tag hv w) (List.replicate n ((ti e).z.map zLV)).flatten (((Array.range (n* (ti e).sz)).map ((if n* (ti e).sz=0 then #[] else (ti e).zv.cells)[· % (if n* (ti e).sz=0 then #[] else (ti e).zv.cells).size]!)).toList):=by
     refine .of_get ?_ fun j u1 v hu hv0=> ?_
     ·simp[ge.zl]
     ·have hj:j<n* (ti e).sz:=by simpa using (List.getElem?_eq_some_iff.1 hv0).1
      have hne: ¬n* (ti e).sz=0:=by omega
      have hz:=zLV_ok (tag:=tag) (hv:=hv) (w:=w) ge
      rw[flat_get (by simpa [ge.zl] using hj)] at hu
      simp only[hne,if_false] at hv0
      have hpos:=ge.pos
      have hmod:j% (ti e).sz< (ti e).sz:=Nat.mod_lt _ hpos
      refine hz.get (j% (ti e).sz) u1 v (by simpa [ge.zl] using hu) ?_
      rw[Array.getElem?_toList] at hv0⊢
      rw[Array.getElem?_map,Array.getElem?_eq_getElem (by simpa using hj)] at hv0
      simp only[Array.getElem_range,Option.map_some,Option.some.injEq] at hv0
      rw[hzc,getElem!_pos _ _ (by rw[hzc];exact hmod)] at hv0
      rw[Array.getElem?_eq_getElem (by rw[hzc];exact hmod),hv0]
    obtain ⟨cs',h5,h6⟩:=bparts_ok hs (pl:=fun i=>some (i* (ti e).sz,(ti e).sz)) (fun i off u hi _=>by
     simp only[Option.some.injEq,Prod.mk.injEq] at hi
     obtain ⟨rfl,rfl⟩:=hi
     rfl) hF hC1 hall0
    have hn2:n≤maxLen:=by
     have:=ge.pos
     have h7:n*1≤n* (ti e).sz:=Nat.mul_le_mul_left _ this
     simp[maxLen]
     omega
    obtain ⟨tg,hh,h7,h8⟩:=hs.bs hd hn2 hE hD h6
    refine ⟨_,_,tg,hh, ?_,h7,h8⟩
    have h9:(parts.map fun (x:Nat×Operand)=>(x.1,a.eval x.2)).toList=parts.toList.map fun q=>(q.1,a.eval q.2):=by simp
    have hle: ¬n* (ti e).sz>2^24:=by simpa using hn
    simp only[execOp,ho,Instr.buildSlice,Sem.run_bind,run_underlying hund,Result.andThen_ok,ge.size w,hle,if_false,Sem.run_pure]
    by_cases hz0:n* (ti e).sz=0
    ·simp only[hz0,if_true,Sem.run_pure,Result.andThen_ok] at h5⊢
     simp only[Sem.run_bind,Sem.run_pure,Result.andThen_ok]
     rw[h9,h5]
     simp[newRow]
    ·simp only[hz0,if_false,zeroValue,typeInfo,Sem.run_bind,run_program,h1,h4,Sem.run_pure,Result.andThen_ok] at h5⊢
     rw[h9,h5]
     simp[newRow]
   ·cases h
  ·cases h
 ·cases h
def scAll:List Lf→Bool
 | []=>true
 | .sc _::r=>scAll r
 |_=>false
def allS:Nat→List Md→Prop
 |0,_=>True
 |n+1,.s::r=>allS n r
 |_,_=>False
theorem allS_get: ∀ {n:Nat} {ms:List Md} {j:Nat},allS n ms→j<n→ms.getD j .x= .s
 |0,_,_,_,h=>by omega
 |n+1,.s::r,0,_,_=>rfl
 |n+1,.s::r,j+1,h,hj=>by
  simp only[allS] at h
  have:=allS_get (j:=j) h (by omega)
  simpa using this
 |n+1,[],_,h,_=>by simp[allS] at h
 |n+1,.x::_,_,h,_=>by simp[allS] at h
 |n+1,.o _ _::_,_,h,_=>by simp[allS] at h
def Env.appS (ti:TT) (E:Env) (z:List Lf) (t2:Nat):SV→Option (Prop×List (List Lf)×(Nat→List Md)×Option Nat)
 | .v false [.s (.sc (.string s))]=>some ((ti t2).isStr=true∧z.length=1,s.data.toList.map (fun b=> [.sc (.int .u8 b.toNat)]),fun _=> [.s],none)
 | .v false [.s (.ls z' rows)]=>some ((ti t2).elt.isSome=true∧z'.length=z.length,rows,fun _=>z.map (fun _=> .s),none)
 | .v false [.n _]=>some ((ti t2).elt.isSome=true,[],fun _=>z.map (fun _=> .s),none)
 | .v false [.r q]=>match E.at_ q with
  |some (.o _ cols,.ls z' rows)=>if scAll z=true then some ((ti t2).elt.isSome=true∧z'.length=z.length∧E.vld q∧ ∀i,allS z.length (cols i),rows,fun _=>z.map (fun _=> .s),none)
   else match q with
    | [r]=>some ((ti t2).elt.isSome=true∧z'.length=z.length∧E.vld q,rows,cols,some r)
    |_=>none
  |_=>none
 |_=>none
structure SrcOk (P:Program) (tag:Nat→Tag) (hv:Hv) (w:World) (t2 sz:Nat) (X:Value) (rows:List (List Lf)) (z:List Lf) (cols:Nat→List Md) (kill:Option Nat):Prop where
 src: ∃news,Src P sz t2 X rows.length news w∧ ∀i j,i<rows.length→j<sz→ ∃q,VR tag hv w q (md cols i j) (lf z rows i j) (news.getD (i*sz+j) default)∧(md cols i j= .s∨ ∃r,kill=some r∧q= [r,i,j])
 len: ∀i,i<rows.length→(rows.getD i z).length=z.length
theorem md_map_s {z:List Lf} {i j:Nat} (hj:j<z.length):md (fun _=>z.map fun _=>Md.s) i j= .s:=by
 simp only[md]
 rw[List.getD_eq_getElem?_getD,List.getElem?_map,List.getElem?_eq_getElem hj]
 rfl
theorem isSome_elt (g:(ti t).good P t) (h:(ti t).elt.isSome=true): ∃e,P.underlying t=some (.slice e):=by
 obtain ⟨e,he⟩:=Option.isSome_iff_exists.1 h
 exact ⟨e,elt_und g he⟩
theorem lf_z {z z':List Lf} {rows:List (List Lf)} {i:Nat} (j:Nat) (hi:i<rows.length):lf z rows i j=lf z' rows i j:=by
 simp only[lf,List.getD_eq_getElem?_getD (l:=rows),List.getElem?_eq_getElem hi,Option.getD_some]
theorem getD_z {z z':List Lf} {rows:List (List Lf)} {i:Nat} (hi:i<rows.length):rows.getD i z=rows.getD i z':=by
 simp only[List.getD_eq_getElem?_getD,List.getElem?_eq_getElem hi,Option.getD_some]
theorem appS_ok {t2:Nat} {z:List Lf} {sv:SV} {C:Prop} {rows:List (List Lf)} {cols:Nat→List Md} {kill:Option Nat} {X:Value} (hT:TGood P ti) (hs:St w0 tag0 E tag hv a w) (ht:(ti t2).ok=true) (hpos:0<z.length)
  (h:E.appS ti z t2 sv=some (C,rows,cols,kill)) (hC:C) (hX:SR tag hv w sv X):SrcOk P tag hv w t2 z.length X rows z cols kill:=by
 have g:=hT t2 ht
 unfold Env.appS at h
 split at h
 ·
  rename_i s
  cases h
  have hu:=isStr_und g hC.1
  have hxs:=SR_str hX
  subst hxs
  refine ⟨⟨byteCells s, ?_,fun i j hi hj=>⟨[], ?_,.inl ?_⟩⟩,fun i hi=> ?_⟩
  ·rw[hC.2,List.length_map,Array.length_toList]
   exact Src.ofString w hu s
  ·rw[hC.2] at hj⊢
   have hj0:j=0:=by omega
   subst hj0
   have hi':i<s.data.toList.length:=by simpa using hi
   simp only[lf,md,byteCells,Nat.mul_one,Nat.add_zero]
   rw[List.getD_eq_getElem?_getD (l:=s.data.toList.map _),List.getElem?_map,List.getElem?_eq_getElem hi']
   rw[List.getD_eq_getElem?_getD (l:=s.data.toList.map _),List.getElem?_map,List.getElem?_eq_getElem hi']
   exact .sc rfl
  ·have hj0:j=0:=by rw[hC.2] at hj;omega
   subst hj0
   rfl
  ·have hi':i<s.data.toList.length:=by simpa using hi
   rw[List.getD_eq_getElem?_getD,List.getElem?_map,List.getElem?_eq_getElem hi',hC.2]
   rfl
 ·
  rename_i z' rows'
  cases h
  obtain ⟨e,hu⟩:=isSome_elt g hC.1
  have hv1:VR tag hv w [] .s (.ls z' rows) X:=by
   obtain ⟨cs,rfl,h1,_⟩:=hX
   cases h1 with
   |cons h hs=>cases hs;exact h
  cases hv1 with
  | @sh0 _ _ A c=>
   refine ⟨⟨[], ?_,fun i j hi=>by simp at hi⟩,fun i hi=>by simp at hi⟩
   cases A with
   |none=>exact Src.ofNil w hu c
   |some A=>exact Src.ofSlice w hu A 0 c [] (by simp) (fun j u hj=>by simp at hj) (fun u hu=>by cases hu)
  | @sh _ _ _ b off n c cell hn hc htb hl hcell hr=>
   subst hn
   rw[hC.2] at hl hcell hr
   have hlen:((List.range (rows.length*z.length)).map fun k=>cell (k/z.length) (k%z.length)).length=rows.length*z.length:=by simp
   have hget: ∀i j,i<rows.length→j<z.length→i*z.length+j<rows.length*z.length∧(i*z.length+j)/z.length=i∧(i*z.length+j)%z.length=j:=fun i j hi hj=>by
    refine ⟨?_, ?_, ?_⟩
    ·have h1:(i+1)*z.length≤rows.length*z.length:=Nat.mul_le_mul_right _ (by omega)
     rw[Nat.add_mul] at h1
     omega
    ·rw[Nat.mul_comm,Nat.mul_add_div hpos,Nat.div_eq_of_lt hj,Nat.add_zero]
    ·rw[Nat.mul_comm,Nat.mul_add_mod,Nat.mod_eq_of_lt hj]
   refine ⟨⟨(List.range (rows.length*z.length)).map fun k=>cell (k/z.length) (k%z.length), ?_,fun i j hi hj=>⟨[], ?_,.inl (md_map_s hj)⟩⟩,fun i hi=> ?_⟩
   ·refine Src.ofSlice w hu ⟨b,off,none⟩ rows.length c _ hlen (fun k u hk=> ?_) (fun u hu=> ?_)
    ·have hk2:k<rows.length*z.length:=by simpa using (List.getElem?_eq_some_iff.1 hk).1
     rw[List.getElem?_map,List.getElem?_eq_getElem (by simpa using hk2)] at hk
     simp only[List.getElem_range,Option.map_some,Option.some.injEq] at hk
     subst hk
     have hq:k/z.length<rows.length:=Nat.div_lt_of_lt_mul (by rw[Nat.mul_comm];exact hk2)
     have hr2:=hcell (k/z.length) (k%z.length) hq (Nat.mod_lt _ hpos)
     rw[add_lit]
     rw[Nat.div_add_mod'] at hr2
     exact hr2
    ·obtain ⟨k,hk,rfl⟩:=List.mem_map.1 hu
     have hk2:k<rows.length*z.length:=by simpa using hk
     have hq:k/z.length<rows.length:=Nat.div_lt_of_lt_mul (by rw[Nat.mul_comm];exact hk2)
     exact (hr _ _ hq (Nat.mod_lt _ hpos)).one
   ·obtain ⟨h1,h2,h3⟩:=hget i j hi hj
    rw[md_map_s hj,List.getD_eq_getElem?_getD,List.getElem?_map,List.getElem?_eq_getElem (by simpa using h1)]
    simp only[List.getElem_range,Option.map_some,Option.getD_some,h2,h3]
    rw[lf_z (z':=z') j hi]
    exact hr i j hi hj
   ·rw[getD_z (z':=z') hi]
    exact hl i hi
 ·
  cases h
  obtain ⟨e,hu⟩:=isSome_elt g hC
  have hX:X= .slice none 0 0:=by
   obtain ⟨cs,rfl,h1,_⟩:=hX
   cases h1 with
   |cons h hs=>cases hs;exact h
  subst hX
  exact ⟨⟨[],Src.ofNil w hu 0,fun i j hi=>by simp at hi⟩,fun i hi=>by simp at hi⟩
 ·
  rename_i q
  have hX:X=hv q:=by
   obtain ⟨cs,rfl,h1,_⟩:=hX
   cases h1 with
   |cons h hs=>cases hs;exact h.1
  have own: ∀ {e':Nat} {cols':Nat→List Md} {z':List Lf} {rows':List (List Lf)},E.at_ q=some (.o e' cols',.ls z' rows')→E.vld q→(ti t2).elt.isSome=true→z'.length=z.length→
    (∃news,Src P z.length t2 X rows'.length news w∧ ∀i j,i<rows'.length→j<z.length→VR tag hv w (q++ [i,j]) (md cols' i j) (lf z rows' i j) (news.getD (i*z.length+j) default))∧ ∀i,i<rows'.length→(rows'.getD i z).length=z.length:=by
   intro e' cols' z' rows' hat hvl hel hzl
   obtain ⟨e,hu⟩:=isSome_elt g hel
   have h1:=at_own hs hat hvl
   rw[←hX] at h1
   obtain ⟨_,⟨rfl,rfl⟩|⟨b,c,cur,rfl,hc,hm,htb,hbl,hcs,hl,hr⟩⟩:=h1.open_own
   ·exact ⟨⟨[],Src.ofNil w hu 0,fun i j hi=>by simp at hi⟩,fun i hi=>by simp at hi⟩
   ·rw[hzl] at hcs hl hr
    have hle:rows'.length*z.length≤cur.size:=by rw[hcs];exact Nat.mul_le_mul_right _ hc
    have hget: ∀i j,i<rows'.length→j<z.length→i*z.length+j<rows'.length*z.length:=fun i j hi hj=>by
     have h1:(i+1)*z.length≤rows'.length*z.length:=Nat.mul_le_mul_right _ (by omega)
     rw[Nat.add_mul] at h1
     omega
    refine ⟨⟨cur.toList.take (rows'.length*z.length), ?_,fun i j hi hj=> ?_⟩,fun i hi=> ?_⟩
    ·refine Src.ofSlice w hu ⟨b,0,none⟩ rows'.length c _ (by simp;omega) (fun k u hk=> ?_) (fun u hu=> ?_)
     ·rw[List.getElem?_take] at hk
      split at hk
      ·rw[add_lit]
       simp only[World.cell?,hbl,Option.isSome_none,Bool.false_eq_true,if_false,Nat.zero_add]
       simpa using hk
      ·cases hk
     ·obtain ⟨k,hk⟩:=List.getElem?_of_mem hu
      rw[List.getElem?_take] at hk
      split at hk
      ·rename_i hlt
       have hq:k/z.length<rows'.length:=Nat.div_lt_of_lt_mul (by rw[Nat.mul_comm];exact hlt)
       have h3:=(hr (k/z.length) (k%z.length) hq (Nat.mod_lt _ hpos)).one
       rw[Nat.div_add_mod'] at h3
       rw[Array.getElem?_toList] at hk
       rw[Array.getD_eq_getD_getElem?,hk] at h3
       exact h3
      ·cases hk
    ·have h2:=hget i j hi hj
     have h3:=hr i j hi hj
     rw[lf_z (z':=z') j hi]
     rw[List.getD_eq_getElem?_getD,List.getElem?_take,if_pos h2,Array.getElem?_toList,←Array.getD_eq_getD_getElem?]
     exact h3
    ·rw[getD_z (z':=z') hi]
     exact hl i hi
  split at h
  ·rename_i e' cols' z' rows' hat
   split at h
   ·cases h
    obtain ⟨h1,h2,h3,h4⟩:=hC
    obtain ⟨⟨news,q1,q2⟩,q3⟩:=own hat h3 h1 h2
    refine ⟨⟨news,q1,fun i j hi hj=>⟨q++ [i,j], ?_,.inl (md_map_s hj)⟩⟩,q3⟩
    have:=q2 i j hi hj
    rw[show md cols' i j= .s from allS_get (h4 i) hj] at this
    rw[md_map_s hj]
    exact this
   ·split at h
    ·rename_i r _
     cases h
     obtain ⟨h1,h2,h3⟩:=hC
     obtain ⟨⟨news,q1,q2⟩,q3⟩:=own hat h3 h1 h2
     exact ⟨⟨news,q1,fun i j hi hj=>⟨_,q2 i j hi hj,.inr ⟨r,rfl,rfl⟩⟩⟩,q3⟩
    ·cases h
  ·cases h
 ·cases h
end Go.Sm
namespace Go.Sm
open Go.RowKit
variable {P : Program} {ti : TT} {E : Env} {tag tag' tag0 : Nat → Tag} {hv hv' : Hv} {a : Act} {w w' w0 : World} {t d : Nat}
def Env.appB (E:Env) (e:Nat):LV→Option (Prop×List (List Lf)×(Nat→List Md)×Option Nat)
 | .n _=>some (True,[],fun _=> [],none)
 | .r [k]=>match lkp E.rt k with
  |some (.o e' cols,.ls _ rows)=>some (e'=e,rows,cols,some k)
  |_=>none
 |_=>none
def appC (n:Nat) (k:Option Nat) (c1 c2:Nat→List Md):Nat→List Md:=match k with
 |none=>c2
 |some _=>fun i=>if i<n then c1 i else c2 (i-n)
def appZ (ti:TT) (E:Env) (e:Nat):LV→Option (List Lf)
 | .n _=>some (ti e).z
 | .r [k]=>match lkp E.rt k with
  |some (.o _ _,.ls z _)=>some z
  |_=>none
 |_=>none
def appR (d:Nat) (k kill:Option Nat):Nat→Bool:=fun r=>fam d r||(k==some r||kill==some r)
def appO (ti:TT) (E:Env) (d t1 t2:Nat) (s x:Operand):Option (Prop×Env):=
 match opd ti E t1 s,opd ti E t2 x,(ti t1).elt with
 |some (.v false [b]),some sv,some e=>match E.appB e b,appZ ti E e b with
  |some (C1,rows,cols,k),some z=>match E.appS ti z t2 sv with
   |some (C2,rows',cols',kill)=>some ((ti t1).ok=true∧(ti t2).ok=true∧(ti e).ok=true∧(ti e).sz=z.length∧d<1000∧C1∧C2∧(rows.length+rows'.length)* (ti e).by_≤140737488355328∧(∀r,kill=some r→k≠some r),
     E.re (appR d k kill) [] [] [(d,.o e (appC rows.length k cols cols'),.ls z (rows++rows'))])
   |none=>none
  |_,_=>none
 |_,_,_=>none
def appT (d n:Nat) (k kill:Option Nat):List Nat→Option (List Nat)
 | []=>none
 |x::rest=>if k=some x then some (d::rest) else if kill=some x then (match rest with
  |i::j::r=>some (d::(n+i)::j::r)
  |_=>none) else none
def appH (d n:Nat) (k kill:Option Nat):List Nat→Option (List Nat)
 |x::i::j::r=>if x=d then (if i<n then k.map (fun k=>k::i::j::r) else kill.map (fun t=>t::(i-n)::j::r)) else none
 |_=>none
theorem lf_app {z:List Lf} {rows rows':List (List Lf)} {i j:Nat} (hi:i<rows.length):lf z (rows++rows') i j=lf z rows i j:=by
 simp only[lf]
 rw[List.getD_eq_getElem?_getD (l:=rows++rows'),List.getElem?_append_left hi,←List.getD_eq_getElem?_getD]
theorem lf_app' {z:List Lf} {rows rows':List (List Lf)} {i j:Nat} (hi: ¬i<rows.length):lf z (rows++rows') i j=lf z rows' (i-rows.length) j:=by
 simp only[lf]
 rw[List.getD_eq_getElem?_getD (l:=rows++rows'),List.getElem?_append_right (by omega),←List.getD_eq_getElem?_getD]
theorem appO_ok2 {o:Oper} {c:Call} {s x:Operand} {t1 t2:Nat} {C:Prop} {E':Env} (hT:TGood P ti) (hs:St w0 tag0 E tag hv a w) (ho:o.op= .call c) (hc:c= {callee:= .builtin .append,args:= #[s,x],argTypes:= #[t1,t2]})
  (h:appO ti E d t1 t2 s x=some (C,E')) (hC:C): ∃v w' tg hh,(execOp a.eval o).run P w= .ok (.value v) w'∧St w0 tag0 E' tg hh a w'∧SR tg hh w' (.v false [.r [d]]) v∧ ∀b q,tag b= .own q→q.length≠1→w'.heap[b]? =w.heap[b]? :=by
 unfold appO at h
 split at h
 ·rename_i b sv e hb hx he
  split at h
  ·rename_i C1 rows cols k z hB hZ
   split at h
   ·rename_i C2 rows' cols' kill hS
    cases h
    obtain ⟨ht1,ht2,hek,hz,hd,hC1,hC2,hby,hkk⟩:=hC
    have g1:=hT t1 ht1
    have ge:=hT e hek
    have hund:=elt_und g1 he
    obtain ⟨y,h1,h2,h3,h4⟩:=ge.inf
    have hpos:0<z.length:=by rw[←hz];exact ge.pos
    have hsrc:=appS_ok hT hs ht2 hpos hS hC2 (opd_ok hs hx)
    obtain ⟨⟨news,hnews,hncell⟩,hnlen⟩:=hsrc
    have hbase: ∃v xs,a.eval s=v∧w.ownsRow 0 e z.length v rows.length xs∧(∀i,i<rows.length→(rows.getD i z).length=z.length)∧(∀g,v.ownBlock=some g→ ∃kk,k=some kk∧tag g= .own [kk])∧
      (∀kk,k=some kk→ ∀i j,i<rows.length→j<z.length→VR tag hv w [kk,i,j] (md cols i j) (lf z rows i j) (xs.getD (i*z.length+j) default))∧(k=none→rows= []):=by
     have hbv:=VV_open (opd_ok hs hb)
     unfold Env.appB at hB
     split at hB
     ·cases hB
      refine ⟨_,[],rfl, ?_,fun i hi=>by simp at hi,fun g hg=> ?_,(fun kk hk i j hi _=>by simp at hi),fun _=>rfl⟩
      ·rw[show a.eval s= .slice none 0 0 from hbv]
       exact World.ownsRow_nil w 0 e z.length
      ·rw[show a.eval s= .slice none 0 0 from hbv] at hg
       cases hg
     ·rename_i kk
      split at hB
      ·rename_i e' cols1 z1 rows1 hk
       cases hB
       have hz1:z1=z:=by
        simp only[appZ,hk,Option.some.injEq] at hZ
        exact hZ
       subst hz1
       have hC1':e'=e:=hC1
       subst hC1'
       have h5:=hs.rt kk _ hk
       have hev:a.eval s=hv [kk]:=hbv.1
       obtain ⟨_,⟨h6,rfl⟩|⟨b1,c1,cur,h6,hc1,hm,htb,hbl,hcs,hl,hr⟩⟩:=h5.open_own
       ·refine ⟨_,[],rfl, ?_,fun i hi=>by simp at hi,fun g hg=> ?_,fun kk' hk' i j hi=>by simp at hi,fun _=>rfl⟩
        ·rw[hev,h6]
         exact World.ownsRow_nil w 0 e' z1.length
        ·rw[hev,h6] at hg
         cases hg
       ·have hle:rows.length*z1.length≤cur.size:=by rw[hcs];exact Nat.mul_le_mul_right _ hc1
        refine ⟨_,cur.toList.take (rows.length*z1.length),rfl,⟨by simp;omega,.inr ⟨b1,c1,cur,by rw[hev,h6],Nat.zero_le _,hbl,hc1,hm,hcs,rfl⟩⟩,hl,fun g hg=> ?_,fun kk' hk' i j hi hj=> ?_,fun hk'=>by cases hk'⟩
        ·rw[hev,h6] at hg
         cases hg
         exact ⟨kk,rfl,htb⟩
        ·cases hk'
         have h7:=hr i j hi hj
         have hlt:i*z1.length+j<rows.length*z1.length:=by
          have h1:(i+1)*z1.length≤rows.length*z1.length:=Nat.mul_le_mul_right _ (by omega)
          rw[Nat.add_mul] at h1
          omega
         rw[List.getD_eq_getElem?_getD,List.getElem?_take,if_pos hlt,Array.getElem?_toList,←Array.getD_eq_getD_getElem?]
         exact h7
      ·cases hB
     ·cases hB
    obtain ⟨v,xs,hev,hown,hrl,hblk,hbc,hkn⟩:=hbase
    have hzc:(ti e).zv.cells.size=z.length:=by
     rw[←Array.length_toList,←(zLV_ok (tag:=tag) (hv:=hv) (w:=w) ge).len,←hz]
     simpa using ge.zl
    have h63:rows.length+rows'.length≤maxLen:=by
     have:=ge.posb
     have h5:(rows.length+rows'.length)*1≤(rows.length+rows'.length)* (ti e).by_:=Nat.mul_le_mul_left _ this
     simp[maxLen]
     omega
    obtain ⟨v',w',hrun,hown',hgrow,hnil,hat⟩:=run_append_own_src (P:=P) w 0 t1 t2 o.type e y (ti e).zv z.length (ti e).by_ hund h1 h4 (by rw[h2,hz]) h3 hzc hpos v rows.length xs hown (a.eval x) rows'.length news hnews h63 hby (Nat.zero_le _)
    have hex:(execOp a.eval o).run P w= .ok (.value v') w':=by
     subst hc
     simp only[execOp,ho,resolve,invoke,builtin,Sem.run_bind,Sem.run_pure,Result.andThen_ok,List.map_toArray,List.map_cons,List.map_nil,hev,hrun]
    have hgo: ∀b q,b<w.heap.size→tag b= .own q→dth (appR d k kill) [] q=false→v'.ownBlock≠some b∧w'.heap[b]? =w.heap[b]? :=fun b q hb hq hdq=>by
     have hne:v.ownBlock≠some b:=fun e=>by
      obtain ⟨kk,hk,htk⟩:=hblk b e
      rw[hq] at htk
      cases htk
      simp[dth,appR,hk] at hdq
     refine ⟨fun e=> ?_,hgrow.block b hb (fun e=>hne e.symm)⟩
     rcases hat with h|h
     ·exact hne (h▸e)
     ·rw[h] at e
      cases e
      omega
    have hgs: ∀b,b<w.heap.size→(tag b= .sh∨tag b= .off)→v'.ownBlock≠some b∧w'.heap[b]? =w.heap[b]? :=fun b hb hq=>by
     have hne:v.ownBlock≠some b:=fun e=>by
      obtain ⟨kk,hk,htk⟩:=hblk b e
      rcases hq with hq|hq<;>rw[hq] at htk<;>cases htk
     refine ⟨fun e=> ?_,hgrow.block b hb (fun e=>hne e.symm)⟩
     rcases hat with h|h
     ·exact hne (h▸e)
     ·rw[h] at e
      cases e
      omega
    have hsub: ∀b q,tag b= .own q→q.length≠1→b<w.heap.size∧v'.ownBlock≠some b∧w'.heap[b]? =w.heap[b]? :=fun b q hq hl=>by
     have hb:b<w.heap.size:=by
      rcases Nat.lt_or_ge b w.heap.size with h|h
      ·exact h
      ·rw[hs.hi b h] at hq;cases hq
     have hne:v.ownBlock≠some b:=fun e=>by
      obtain ⟨kk,hk,htk⟩:=hblk b e
      rw[hq] at htk
      cases htk
      exact hl rfl
     refine ⟨hb,fun e=> ?_,hgrow.block b hb (fun e=>hne e.symm)⟩
     rcases hat with h|h
     ·exact hne (h▸e)
     ·rw[h] at e
      cases e
      omega
    have hdl: ∀q,dth (appR d k kill) [] q=false→appT d rows.length k kill q=none∧appH d rows.length k kill q=none∧q≠ [d]:=fun q hq=>by
     cases q with
     |nil=>simp[dth] at hq
     |cons r q=>
      simp only[dth,appR,List.any_nil,Bool.or_false,Bool.or_eq_false_iff,beq_eq_false_iff_ne,ne_eq] at hq
      have hrd:r≠d:=fun e=>by
       subst e
       have:=hq.1
       simp[fam] at this
       omega
      refine ⟨by simp[appT,hq.2.1,hq.2.2], ?_,fun e=>hrd (by injection e)⟩
      unfold appH
      split
      ·rename_i heq
       injection heq with e1 e2
       rw[if_neg (by rw[←e1];exact hrd)]
      ·rfl
    have hg': ∀g,v'.ownBlock=some g→g<w'.heap.size:=fun g hg=>by
     rcases hown'.2 with ⟨h5,_⟩|⟨g',cap',cur',h5,_,h6,_⟩
     ·rw[h5] at hg;cases hg
     ·rw[h5] at hg
      cases hg
      exact (Array.getElem?_eq_some_iff.1 h6).1
    let tg:Nat→Tag:=fun b=>if v'.ownBlock=some b then .own [d] else mvT (appT d rows.length k kill) (appH d rows.length k kill) tag b
    let hh:Hv:=fun q=>if q= [d] then v' else mvH (appH d rows.length k kill) hv q
    have hHp:Hp (appR d k kill) [] [] tag tg hv hh w w':=by
     refine ⟨fun b hb h=>⟨?_,(hgs b hb (.inl h)).2⟩,fun b q hb h hq=>⟨?_,fun _=>(hgo b q hb h hq).2⟩,fun b hb h=>⟨?_,(hgs b hb (.inr h)).2⟩,fun q hq=> ?_,hgrow.os,hgrow.tape,hgrow.output,hgrow.size,fun b hb=> ?_⟩
     ·simp only[tg,if_neg (hgs b hb (.inl h)).1]
      exact mvT_sh h
     ·simp only[tg,if_neg (hgo b q hb h hq).1]
      exact mvT_own h (hdl q hq).1 (hdl q hq).2.1
     ·simp only[tg,if_neg (hgs b hb (.inr h)).1]
      exact mvT_off h
     ·simp only[hh,if_neg (hdl q hq).2.2]
      exact mvH_none (hdl q hq).2.1
     ·have hne:v'.ownBlock≠some b:=fun e=>by
       have:=hg' b e
       omega
      have:=hgrow.size
      simp only[tg,if_neg hne]
      exact mvT_off (hs.hi b (by omega))
    have hv'd:hh [d]=v':=by simp[hh]
    refine ⟨v',w',tg,hh,hex,hs.re hHp (by simp) (fun r yy hl'=> ?_), ?_,fun b q hb hq=>(hsub b q hb hq).2.2⟩
    ·simp only[lkp] at hl'
     split at hl'
     ·rename_i hrd
      subst hrd
      cases hl'
      rw[hv'd]
      rcases hown'.2 with ⟨rfl,h0⟩|⟨g',cap',cur',rfl,_,h6,h7,h8,h9,h10⟩
      ·have hr0:rows= []:=List.eq_nil_of_length_eq_zero (by omega)
       have hr0':rows'= []:=List.eq_nil_of_length_eq_zero (by omega)
       simp only[hr0,hr0',List.append_nil]
       exact .own0 hv'd
      ·have hxl:=hown.1
       have hnl:=hnews.newsLen
       have hcur: ∀p,p< (rows.length+rows'.length)*z.length→cur'.getD p default=(xs++news).getD p default:=fun p hp=>by
        rw[←h10,List.getD_eq_getElem?_getD,List.getElem?_take,if_pos hp,Array.getElem?_toList,←Array.getD_eq_getD_getElem?]
       refine .own cur' (by simp) h7 h8 (by simp[tg,Value.ownBlock]) hv'd h6 h9 (fun i hi=> ?_) (fun i j hi hj=> ?_)
       ·by_cases hin:i<rows.length
        ·have:=hrl i hin
         rw[List.getD_eq_getElem?_getD] at this⊢
         rw[List.getElem?_append_left hin]
         exact this
        ·have:=hnlen (i-rows.length) (by omega)
         rw[List.getD_eq_getElem?_getD] at this⊢
         rw[List.getElem?_append_right (by omega)]
         exact this
       ·have hlt:i*z.length+j< (rows.length+rows'.length)*z.length:=by
         have h1:(i+1)*z.length≤(rows.length+rows'.length)*z.length:=Nat.mul_le_mul_right _ (by omega)
         rw[Nat.add_mul] at h1
         omega
        rw[hcur _ hlt]
        by_cases hin:i<rows.length
        ·have hlx:i*z.length+j<xs.length:=by
          rw[hxl]
          have h1:(i+1)*z.length≤rows.length*z.length:=Nat.mul_le_mul_right _ (by omega)
          rw[Nat.add_mul] at h1
          omega
         obtain ⟨kk,hkk'⟩: ∃kk,k=some kk:=by
          cases k with
          |none=>have:=hkn rfl;rw[this] at hin;simp at hin
          |some kk=>exact ⟨kk,rfl⟩
         subst hkk'
         have h11:=hbc kk rfl i j hin hj
         rw[lf_app hin,show md (appC rows.length (some kk) cols cols') i j=md cols i j by simp[md,appC,hin]]
         rw[List.getD_eq_getElem?_getD (l:=xs++news),List.getElem?_append_left hlx,←List.getD_eq_getElem?_getD]
         refine h11.move _ (fun b hb=> ?_) (fun rest _=>⟨?_,fun b hb=> ?_⟩)
         ·have hbl:b<w.heap.size:=by
           rcases Nat.lt_or_ge b w.heap.size with h|h
           ·exact h
           ·rw[hs.hi b h] at hb;cases hb
          exact hHp.sh b hbl hb
         ·simp[hh,mvH,appH,hin]
         ·obtain ⟨q1,q2,q3⟩:=hsub b _ hb (by simp)
          refine ⟨?_,q3⟩
          simp only[tg,if_neg q2]
          exact mvT_mv hb (by simp[appT])
        ·have hlx:xs.length≤i*z.length+j:=by
          rw[hxl]
          have h1:rows.length*z.length≤i*z.length:=Nat.mul_le_mul_right _ (by omega)
          omega
         have hin':i-rows.length<rows'.length:=by omega
         obtain ⟨q,h11,h12⟩:=hncell (i-rows.length) j hin' hj
         have hcols:md (appC rows.length k cols cols') i j=md cols' (i-rows.length) j:=by
          cases k with
          |none=>
           have:=hkn rfl
           simp[md,appC,this]
          |some kk=>simp[md,appC,hin]
         rw[lf_app' hin,hcols]
         rw[List.getD_eq_getElem?_getD (l:=xs++news),List.getElem?_append_right hlx,←List.getD_eq_getElem?_getD,hxl,
          show i*z.length+j-rows.length*z.length=(i-rows.length)*z.length+j by
           rw[Nat.sub_mul]
           have h1:rows.length*z.length≤i*z.length:=Nat.mul_le_mul_right _ (by omega)
           omega]
         rcases h12 with h12|⟨r,rfl,rfl⟩
         ·rw[h12] at h11⊢
          exact VR.hp_s h11 hHp hs.hi
         ·refine h11.move _ (fun b hb=> ?_) (fun rest _=>⟨?_,fun b hb=> ?_⟩)
          ·have hbl:b<w.heap.size:=by
            rcases Nat.lt_or_ge b w.heap.size with h|h
            ·exact h
            ·rw[hs.hi b h] at hb;cases hb
           exact hHp.sh b hbl hb
          ·simp[hh,mvH,appH,hin]
          ·obtain ⟨q1,q2,q3⟩:=hsub b _ hb (by simp)
           refine ⟨?_,q3⟩
           simp only[tg,if_neg q2]
           refine mvT_mv hb ?_
           simp only[appT,List.cons_append,List.nil_append]
           rw[if_neg (hkk r rfl)]
           simp only[if_true,show rows.length+(i-rows.length)=i by omega]
     ·cases hl'
    ·refine VV_one ⟨hv'd.symm, ?_⟩
     rcases hown'.2 with ⟨rfl,h0⟩|⟨g',cap',cur',rfl,_⟩<;>exact ⟨_,_,_,rfl⟩
   ·cases h
  ·cases h
 ·cases h
theorem appO_ok {o:Oper} {c:Call} {s x:Operand} {t1 t2:Nat} {C:Prop} {E':Env} (hT:TGood P ti) (hs:St w0 tag0 E tag hv a w) (ho:o.op= .call c) (hc:c= {callee:= .builtin .append,args:= #[s,x],argTypes:= #[t1,t2]})
  (h:appO ti E d t1 t2 s x=some (C,E')) (hC:C): ∃v w' tg hh,(execOp a.eval o).run P w= .ok (.value v) w'∧St w0 tag0 E' tg hh a w'∧SR tg hh w' (.v false [.r [d]]) v:=by
 obtain ⟨v,w',tg,hh,h1,h2,h3,_⟩:=appO_ok2 hT hs ho hc h hC
 exact ⟨v,w',tg,hh,h1,h2,h3⟩
end Go.Sm
namespace Go.Sm
open Go.RowKit
variable {P : Program} {ti : TT} {E : Env} {tag tag' tag0 : Nat → Tag} {hv hv' : Hv} {a : Act} {w w' w0 : World} {t d : Nat} {T : List (List Nat)}
def stripP:List Nat→List Nat→Option (List Nat)
 | [],q=>some q
 |a::p,b::q=>if a=b then stripP p q else none
 |_::_,[]=>none
theorem stripP_eq: ∀ {p q rest:List Nat},stripP p q=some rest→q=p++rest
 | [],q,rest,h=>by cases h;rfl
 |a::p,[],rest,h=>by cases h
 |a::p,b::q,rest,h=>by
  simp only[stripP] at h
  split at h
  ·rename_i e
   subst e
   rw[stripP_eq h]
   rfl
  ·cases h
theorem stripP_app: ∀ (p rest:List Nat),stripP p (p++rest)=some rest
 | [],_=>rfl
 |a::p,rest=>by simp[stripP,stripP_app p rest]
def wh:List (List Nat)→Nat→List Nat→Option (Nat×List Nat)
 | [],_,_=>none
 |p::T,n,q=>match stripP p q with
  |some rest=>some (n,rest)
  |none=>wh T (n+1) q
theorem wh_eq: ∀ {T:List (List Nat)} {n:Nat} {q:List Nat} {k:Nat} {rest:List Nat},wh T n q=some (k,rest)→ ∃i p,T[i]? =some p∧k=n+i∧q=p++rest
 | [],_,_,_,_,h=>by cases h
 |p::T,n,q,k,rest,h=>by
  simp only[wh] at h
  split at h
  ·rename_i r hr
   cases h
   exact ⟨0,p,rfl,rfl,stripP_eq hr⟩
  ·obtain ⟨i,p',h1,h2,h3⟩:=wh_eq h
   exact ⟨i+1,p',by simpa using h1,by omega,h3⟩
def hd0:List Nat→Nat
 |r::_=>r
 | []=>0
def plOk:List Nat→Prop
 | [_]=>True
 | [_,_,_]=>True
 |_=>False
def hdsOk (T:List (List Nat)):Prop:=(T.map hd0).Nodup∧ ∀p∈T,plOk p
theorem plOk_cons {p:List Nat} (h:plOk p): ∃r q,p=r::q:=by
 cases p with
 |nil=>exact h.elim
 |cons r q=>exact ⟨r,q,rfl⟩
theorem wh_none: ∀ {T:List (List Nat)} {n r:Nat} {rest:List Nat},(∀p∈T,plOk p)→(∀p∈T,hd0 p≠r)→wh T n (r::rest)=none
 | [],_,_,_,_,_=>rfl
 |p::T,n,r,rest,h,hn=>by
  obtain ⟨r',q,rfl⟩:=plOk_cons (h p (by simp))
  have h1:=hn (r'::q) (by simp)
  simp only[hd0] at h1
  simp only[wh,stripP,if_neg h1]
  exact wh_none (fun p hp=>h p (by simp[hp])) (fun p hp=>hn p (by simp[hp]))
theorem wh_app: ∀ {T:List (List Nat)} {n i:Nat} {p rest:List Nat},hdsOk T→T[i]? =some p→wh T n (p++rest)=some (n+i,rest)
 | [],_,_,_,_,_,h=>by simp at h
 |p0::T,n,0,p,rest,_,h=>by
  simp only[List.getElem?_cons_zero,Option.some.injEq] at h
  subst h
  simp[wh,stripP_app]
 |p0::T,n,i+1,p,rest,hT,h=>by
  simp only[List.getElem?_cons_succ] at h
  have hm:=List.mem_of_getElem? h
  obtain ⟨r0,q0,rfl⟩:=plOk_cons (hT.2 p0 (by simp))
  obtain ⟨r,q,rfl⟩:=plOk_cons (hT.2 p (by simp[hm]))
  have h1:=hT.1
  simp only[List.map_cons,List.nodup_cons,hd0] at h1
  have hne:r0≠r:=fun e=>h1.1 (List.mem_map.2 ⟨_,hm,by simp[hd0,e]⟩)
  have ih:=wh_app (n:=n+1) (rest:=rest) (T:=T) ⟨h1.2,fun p hp=>hT.2 p (by simp[hp])⟩ h
  simp only[List.cons_append] at ih⊢
  simp only[wh,stripP,if_neg hne]
  rw[ih]
  congr 2
  omega
theorem hd_inj (hT:hdsOk T) {i j:Nat} {p q:List Nat} (hp:T[i]? =some p) (hq:T[j]? =some q) (h:hd0 p=hd0 q):i=j∧p=q:=by
 have h1:=hT.1
 have hi:(T.map hd0)[i]? =some (hd0 p):=by rw[List.getElem?_map,hp];rfl
 have hj:(T.map hd0)[j]? =some (hd0 p):=by rw[List.getElem?_map,hq,h];rfl
 have hi':=(List.getElem?_eq_some_iff.1 hi)
 have hj':=(List.getElem?_eq_some_iff.1 hj)
 have e:i=j:=(List.getElem_inj h1).1 (hi'.2.trans hj'.2.symm)
 subst e
 rw[hp] at hq
 cases hq
 exact ⟨rfl,rfl⟩
def udr (T:List (List Nat)) (q:List Nat):Bool:=match wh T 900 q with
 |some (_,_::_)=>true
 |_=>false
def tagC (T:List (List Nat)) (tag:Nat→Tag):Nat→Tag:=fun b=>match tag b with
 | .own q=>match wh T 900 q with
  |some (k,rest)=> .own (k::rest)
  |none=> .off
 |s=>s
def plN (T:List (List Nat)) (k:Nat):Option (List Nat):=if 900≤k then T[k-900]? else none
def hvC (T:List (List Nat)) (hv:Hv):Hv:=fun q=>match q with
 |k::rest=>match plN T k with
  |some p=>hv (p++rest)
  |none=>hv (k::rest)
 | []=>hv []
def nmB (T:List (List Nat)):Tag→Bool
 | .own q=>(wh T 900 q).isNone
 |_=>true
def tagM (T:List (List Nat)) (sz:Nat) (tag tag':Nat→Tag):Nat→Tag:=fun b=>
 if b<sz∧nmB T (tag b)=true then tag b else match tag' b with
  | .own (k::rest)=>match plN T k with
   |some p=> .own (p++rest)
   |none=> .off
  | .own []=> .off
  |s=>s
def hvM (T:List (List Nat)) (hv hv':Hv):Hv:=fun q=>match wh T 900 q with
 |some (k,rest)=>hv' (k::rest)
 |none=>hv q
theorem plN_at {i:Nat} {p:List Nat} (h:T[i]? =some p):plN T (900+i)=some p:=by
 simp[plN,h]
theorem tagC_cases (b:Nat):tagC T tag b= .sh∨tagC T tag b= .off∨ ∃k rest,tagC T tag b= .own (k::rest)∧900≤k∧k<900+T.length:=by
 unfold tagC
 split
 ·split
  ·rename_i k rest hw
   obtain ⟨i,p,h1,h2,_⟩:=wh_eq hw
   have:=(List.getElem?_eq_some_iff.1 h1).1
   exact .inr (.inr ⟨k,rest,rfl,by omega,by omega⟩)
  ·exact .inr (.inl rfl)
 ·rename_i h
  cases ht:tag b with
  |sh=>exact .inl rfl
  |off=>exact .inr (.inl rfl)
  |own q=>exact absurd ht (h q)
theorem tagC_nm {b:Nat} (h:nmB T (tag b)=true):(tag b= .sh∧tagC T tag b= .sh)∨(tag b≠ .sh∧tagC T tag b= .off):=by
 unfold tagC
 cases ht:tag b with
 |sh=>exact .inl ⟨rfl,rfl⟩
 |off=>exact .inr ⟨by simp,rfl⟩
 |own q=>
  rw[ht] at h
  simp only[nmB,Option.isNone_iff_eq_none] at h
  exact .inr ⟨by simp,by simp[h]⟩
section
variable (hfr : Fr w (tagC T tag) tag' w') (hT : hdsOk T)
include hfr
theorem keepB {b:Nat} (hb:b<w.heap.size) (hn:nmB T (tag b)=true):w'.heap[b]? =w.heap[b]? ∧tagM T w.heap.size tag tag' b=tag b∧((tag b= .sh∧tag' b= .sh)∨tag' b= .off):=by
 rcases tagC_nm hn with ⟨h1,h2⟩|⟨h1,h2⟩
 ·have:=hfr.heap b hb (.inl h2)
  exact ⟨this.1,by simp[tagM,hb,hn],.inl ⟨h1,this.2.trans h2⟩⟩
 ·have:=hfr.heap b hb (.inr h2)
  exact ⟨this.1,by simp[tagM,hb,hn],.inr (this.2.trans h2)⟩
theorem tagM_sh {b:Nat} (h:tag' b= .sh):tagM T w.heap.size tag tag' b= .sh:=by
 unfold tagM
 split
 ·rename_i hc
  obtain ⟨_,_,h3|h3⟩:=keepB hfr hc.1 hc.2
  ·exact h3.1
  ·rw[h] at h3;cases h3
 ·rw[h]
theorem tagM_own {b i:Nat} {p rest:List Nat} (hp:T[i]? =some p) (h:tag' b= .own ((900+i)::rest)):tagM T w.heap.size tag tag' b= .own (p++rest):=by
 unfold tagM
 split
 ·rename_i hc
  obtain ⟨_,_,h3|h3⟩:=keepB hfr hc.1 hc.2
  ·rw[h] at h3;cases h3.2
  ·rw[h] at h3;cases h3
 ·rw[h]
  simp[plN_at hp]
include hT
theorem back {i:Nat} {p:List Nat} {m:Md} {l:Lf} {v:Value} (hp:T[i]? =some p) (h:VR tag' hv' w' [900+i] m l v):VR (tagM T w.heap.size tag tag') (hvM T hv hv') w' p m l v:=by
 refine h.move p (fun b hb=>⟨tagM_sh hfr hb,rfl⟩) (fun rest _=>⟨?_,fun b hb=>⟨?_,rfl⟩⟩)
 ·simp[hvM,wh_app hT hp]
 ·exact tagM_own hfr hp (by simpa using hb)
end
theorem fwd (hT:hdsOk T) {i:Nat} {p:List Nat} {m:Md} {l:Lf} {v:Value} (hp:T[i]? =some p) (h:VR tag hv w p m l v):VR (tagC T tag) (hvC T hv) w [900+i] m l v:=by
 refine h.move [900+i] (fun b hb=>⟨by simp[tagC,hb],rfl⟩) (fun rest _=>⟨?_,fun b hb=>⟨?_,rfl⟩⟩)
 ·simp[hvC,plN_at hp]
 ·simp[tagC,hb,wh_app hT hp]
structure Hm (T:List (List Nat)) (tag tag':Nat→Tag) (hv hv':Hv) (w w':World):Prop where
 sh: ∀b,b<w.heap.size→tag b= .sh→tag' b= .sh∧w'.heap[b]? =w.heap[b]?
 own: ∀b q,b<w.heap.size→tag b= .own q→wh T 900 q=none→tag' b= .own q∧w'.heap[b]? =w.heap[b]?
 hv: ∀q,udr T q=false→hv' q=hv q
def LV.mk (T:List (List Nat)):LV→LV
 | .r q=>if udr T q=true then .u else .r q
 |l=>l
def PV.mk (T:List (List Nat)):PV→Bool
 | .pt q _ _ _=>udr T q
 | .vw q _ _ _=>udr T q
 | .bx b _=>(wh T 900 [b,0]).isSome
 | .ps _=>false
def SV.mk (T:List (List Nat)):SV→SV
 | .v ag ls=> .v ag (ls.map (LV.mk T))
 | .tu parts=> .tu (parts.map fun q=>(q.1,q.2.map (LV.mk T)))
 | .p q=>if q.mk T then .dead else .p q
 | .fn k caps=>if caps.any (PV.mk T) then .dead else .fn k caps
 | .g c s=> .g c (s.mk T)
 | .pin r q x=>if udr T (r::q) then .dead else .pin r q x
 | .dead=> .dead
theorem VR.hm_s {p p':List Nat} {l:Lf} {v:Value} (h:VR tag hv w p .s l v) (hh:Hm T tag tag' hv hv' w w') (hi: ∀b,w.heap.size≤b→tag b= .off):VR tag' hv' w' p' .s l v:=by
 refine h.move _ (fun b hb=> ?_) (fun rest hr=>by cases hr)
 rcases Nat.lt_or_ge b w.heap.size with hlt|hge
 ·exact hh.sh b hlt hb
 ·rw[hi b hge] at hb;cases hb
theorem VR.hm {p:List Nat} {m:Md} {l:Lf} {v:Value} (h:VR tag hv w p m l v) (hh:Hm T tag tag' hv hv' w w') (hi: ∀b,w.heap.size≤b→tag b= .off) (hd: ∀rest,wh T 900 (p++rest)=none):VR tag' hv' w' p m l v:=by
 refine h.move _ (fun b hb=> ?_) (fun rest hr=>⟨hh.hv _ (by simp[udr,hd rest]),fun b hb=> ?_⟩)
 ·rcases Nat.lt_or_ge b w.heap.size with hlt|hge
  ·exact hh.sh b hlt hb
  ·rw[hi b hge] at hb;cases hb
 ·rcases Nat.lt_or_ge b w.heap.size with hlt|hge
  ·exact hh.own b _ hlt hb (hd rest)
  ·rw[hi b hge] at hb;cases hb
theorem LR.hm {l:LV} {v:Value} (h:LR tag hv w l v) (hh:Hm T tag tag' hv hv' w w') (hi: ∀b,w.heap.size≤b→tag b= .off):LR tag' hv' w' (l.mk T) v:=by
 cases l with
 |s l=>exact VR.hm_s h hh hi
 |n z=>exact h
 |u=>exact h
 |r p=>
  obtain ⟨h1,A,n,c,h2⟩:=h
  simp only[LV.mk]
  split
  ·rw[h2];rfl
  ·rename_i hne
   exact ⟨by rw[hh.hv p (by simpa using hne)];exact h1,A,n,c,h2⟩
theorem VV.hm {ag:Bool} {ls:List LV} {v:Value} (h:VV tag hv w ag ls v) (hh:Hm T tag tag' hv hv' w w') (hi: ∀b,w.heap.size≤b→tag b= .off):VV tag' hv' w' ag (ls.map (LV.mk T)) v:=by
 obtain ⟨cs,h1,h2,h3⟩:=h
 exact ⟨cs,h1,(h2.imp fun _ _ h=>h.hm hh hi).map_left,by simpa using h3⟩
theorem PR.hm {q:PV} {v:Value} (h:PR tag hv w q v) (hq:q.mk T=false) (hh:Hm T tag tag' hv hv' w w') (hi: ∀b,w.heap.size≤b→tag b= .off):PR tag' hv' w' q v:=by
 cases q with
 |pt p sz i off=>
  obtain ⟨b,n,c,h1,h2⟩:=h
  refine ⟨b,n,c, ?_,h2⟩
  rw[hh.hv p hq]
  exact h1
 |vw p sz lo n=>
  simp only[PR]
  rw[hh.hv p hq]
  exact h
 |bx b off=>
  obtain ⟨k,h1,h2⟩:=h
  refine ⟨k, ?_,h2⟩
  simp only[PV.mk,Option.isSome_eq_false_iff,Option.isNone_iff_eq_none] at hq
  rw[hh.hv [b,0] (by simp[udr,hq])]
  exact h1
 |ps ds=>
  obtain ⟨b,off,h1,h2,h3⟩:=h
  have hb: ∀j,j<ds.length→b<w.heap.size:=fun j hj=>by
   obtain ⟨u,hu,_⟩:=h3 j hj
   exact World.block_lt_of_cell? _ _ hu
  have hsh:tag' b= .sh:=by
   rcases Nat.lt_or_ge b w.heap.size with hlt|hge
   ·exact (hh.sh b hlt h2).1
   ·rw[hi b hge] at h2;cases h2
  refine ⟨b,off,h1,hsh,fun j hj=> ?_⟩
  obtain ⟨u,hu,hr⟩:=h3 j hj
  refine ⟨u, ?_,hr.hm_s hh hi⟩
  rw[World.cell?_of_block (w:=w) ((hh.sh b (hb j hj) h2).2)]
  exact hu
theorem SR.hm: ∀ {sv:SV} {v:Value},SR tag hv w sv v→Hm T tag tag' hv hv' w w'→(∀b,w.heap.size≤b→tag b= .off)→SR tag' hv' w' (sv.mk T) v
 | .dead,_,_,_,_=>trivial
 | .v ag ls,v,h,hh,hi=>VV.hm h hh hi
 | .tu parts,v,h,hh,hi=>by
  obtain ⟨vs,h1,h2⟩:=h
  exact ⟨vs,h1,All2.map_left (h2.imp fun q u h=>VV.hm h hh hi)⟩
 | .p q,v,h,hh,hi=>by
  simp only[SV.mk]
  split
  ·trivial
  ·rename_i hq
   exact PR.hm h (by simpa using hq) hh hi
 | .fn k caps,v,h,hh,hi=>by
  simp only[SV.mk]
  split
  ·trivial
  ·rename_i hq
   obtain ⟨vs,h1,h2⟩:=h
   refine ⟨vs,h1, ?_⟩
   simp only[List.any_eq_true,not_exists,not_and,Bool.not_eq_true] at hq
   clear h1
   induction h2 with
   |nil=>exact .nil
   |cons h hs ih=>exact .cons (PR.hm h (hq _ (by simp)) hh hi) (ih fun x hx=>hq x (by simp[hx]))
 | .g c s,v,h,hh,hi=>⟨fun hc=>SR.hm (h.1 hc) hh hi,h.2⟩
 | .pin r q x,v,h,hh,hi=>by
  simp only[SV.mk]
  split
  ·trivial
  ·rename_i hr
   exact (hh.hv (r::q) (by simpa using hr)).trans h
def put1:List Nat→Lf→Md×Lf→Md×Lf
 | [_,i,j],l',(.o e cols,.ls z rows)=>(.o e cols,.ls z (rows.set i ((rows.getD i z).set j l')))
 |_,l',x=>(x.1,l')
def mutR:List (List Nat)→List Lf→Nat→Md×Lf→Md×Lf
 |p::T,l'::ls,r,x=>if hd0 p=r then put1 p l' x else mutR T ls r x
 |_,_,_,x=>x
def Env.mutE (E:Env) (T:List (List Nat)) (ls:List Lf):Env:=
 {E with sl:=E.sl.map (fun x=>(x.1,x.2.mk T)),bx:=(delD E.bx fun b=>(wh T 900 [b,0]).isSome).map (fun x=>(x.1,x.2.map (LV.mk T))),rt:=E.rt.map fun x=>(x.1,mutR T ls x.1 x.2)}
theorem mutR_none: ∀ {T:List (List Nat)} {ls:List Lf} {r:Nat} {x:Md×Lf},(∀p∈T,hd0 p≠r)→mutR T ls r x=x
 | [],_,_,_,_=>by simp[mutR]
 |_::_,[],_,_,_=>by simp[mutR]
 |p::T,l::ls,r,x,h=>by
  simp only[mutR,if_neg (h p (by simp))]
  exact mutR_none fun p hp=>h p (by simp[hp])
theorem mutR_at: ∀ {T:List (List Nat)} {ls:List Lf} {r i:Nat} {p:List Nat} {l':Lf} {x:Md×Lf},(T.map hd0).Nodup→T[i]? =some p→ls[i]? =some l'→hd0 p=r→mutR T ls r x=put1 p l' x
 | [],_,_,_,_,_,_,_,h,_,_=>by simp at h
 |_::_,[],_,_,_,_,_,_,_,h,_=>by simp at h
 |p0::T,l0::ls,r,0,p,l',x,_,h1,h2,h3=>by
  simp only[List.getElem?_cons_zero,Option.some.injEq] at h1 h2
  subst h1 h2
  simp[mutR,h3]
 |p0::T,l0::ls,r,i+1,p,l',x,hn,h1,h2,h3=>by
  simp only[List.getElem?_cons_succ] at h1 h2
  simp only[List.map_cons,List.nodup_cons] at hn
  have hne:hd0 p0≠r:=fun e=>hn.1 (List.mem_map.2 ⟨p,List.mem_of_getElem? h1,by rw[h3,e]⟩)
  simp only[mutR,if_neg hne]
  exact mutR_at hn.2 h1 h2 h3
theorem St.mut (hs:St w0 tag0 E tag hv a w) (hT:hdsOk T) {ls:List Lf} (hfr:Fr w (tagC T tag) tag' w') (hi': ∀b,w'.heap.size≤b→tag' b= .off)
  (hpost: ∀i p,T[i]? =some p→ ∃l' m l,ls[i]? =some l'∧E.at_ p=some (m,l)∧E.vld p∧(∃e cols,m= .o e cols)∧hv' [900+i]=hv p∧VR tag' hv' w' [900+i] m l' (hv p)):
  St w0 tag0 (E.mutE T ls) (tagM T w.heap.size tag tag') (hvM T hv hv') a w':=by
 have hi:=hs.hi
 have hh:Hm T tag (tagM T w.heap.size tag tag') hv (hvM T hv hv') w w':=by
  refine ⟨fun b hb h=> ?_,fun b q hb h hq=> ?_,fun q hq=> ?_⟩
  ·have:=keepB hfr hb (by simp[nmB,h])
   exact ⟨this.2.1.trans h,this.1⟩
  ·have:=keepB hfr hb (by simp[nmB,h,hq])
   exact ⟨this.2.1.trans h,this.1⟩
  ·simp only[hvM]
   unfold udr at hq
   cases hw:wh T 900 q with
   |none=>rfl
   |some x=>
    obtain ⟨k,rest⟩:=x
    rw[hw] at hq
    cases rest with
    |cons _ _=>simp at hq
    |nil=>
     obtain ⟨i,p,h1,rfl,h3⟩:=wh_eq hw
     rw[List.append_nil] at h3
     subst h3
     obtain ⟨_,_,_,_,_,_,_,h4,_⟩:=hpost i q h1
     exact h4
 refine ⟨hs.nt,hs.df,fun t sv h=> ?_,fun b ls' h=> ?_,fun r x h=> ?_,hs.fr.step hfr.os hfr.tape hfr.output hfr.size fun b hb hq=> ?_,fun b hb=> ?_⟩
 ·simp only[Env.mutE,lkp_map] at h
  obtain ⟨sv0,h1,rfl⟩:=Option.map_eq_some_iff.1 h
  exact SR.hm (hs.sl t sv0 h1) hh hi
 ·simp only[Env.mutE,lkp_map,lkp_delD] at h
  obtain ⟨ls0,h1,rfl⟩:=Option.map_eq_some_iff.1 h
  split at h1
  ·cases h1
  ·rename_i hne
   have hw:wh T 900 [b,0]=none:=by
    cases hx:wh T 900 [b,0] with
    |none=>rfl
    |some _=>rw[hx] at hne;exact absurd rfl hne
   obtain ⟨k,cur,e,h2,h3,h4,h5⟩:=hs.bx b ls0 h1
   have hk:k<w.heap.size:=by
    rcases Nat.lt_or_ge k w.heap.size with hlt|hge
    ·exact hlt
    ·rw[Array.getElem?_eq_none hge] at h4;cases h4
   have h6:=hh.own k [b,0] hk h3 hw
   exact ⟨k,cur,e,by rw[hh.hv [b,0] (by simp[udr,hw])];exact h2,h6.1,h6.2.trans h4,(h5.imp fun _ _ h=>h.hm hh hi).map_left⟩
 ·simp only[Env.mutE] at h
  rw[lkp_mapk (fun k y=>mutR T ls k y)] at h
  obtain ⟨x0,h1,rfl⟩:=Option.map_eq_some_iff.1 h
  have h0:=hs.rt r x0 h1
  by_cases hex: ∃p∈T,hd0 p=r
  ·obtain ⟨p,hp,hr⟩:=hex
   obtain ⟨i,hip⟩:=List.getElem?_of_mem hp
   obtain ⟨l',m,l,h2,h3,h4,⟨e1,cols1,hm⟩,h5,h6⟩:=hpost i p hip
   rw[mutR_at hT.1 hip h2 hr]
   have hb:=back hfr hT (hv:=hv) hip h6
   have hpl:=hT.2 p hp
   match p,hpl,hr,h3,h4,h5,h6,hb,hip with
   | [r'],_,hr,h3,h4,h5,h6,hb,hip=>
    simp only[hd0] at hr
    subst hr
    have e:x0=(m,l):=by
     simp only[Env.at_,h1,Option.bind_some,getL,Option.some.injEq] at h3
     exact h3
    subst e
    have ev:hvM T hv hv' [r']=hv [r']:=by
     have:=wh_app (n:=900) (rest:= []) hT hip
     simp only[List.append_nil] at this
     simp only[hvM,this]
     exact h5
    rw[ev]
    exact hb
   | [r',i0,j0],_,hr,h3,h4,h5,h6,hb,hip=>
    simp only[hd0] at hr
    subst hr
    have hst: ∀q,(∀rest,q≠ [r',i0,j0]++rest)→q.headD 0=r'→q≠ []→wh T 900 q=none:=by
     intro q hq hq2 hq3
     cases hw:wh T 900 q with
     |none=>rfl
     |some y=>
      exfalso
      obtain ⟨k,rest⟩:=y
      obtain ⟨i',p',q1,_,q3⟩:=wh_eq hw
      obtain ⟨a',b',rfl⟩:=plOk_cons (hT.2 p' (List.mem_of_getElem? q1))
      subst q3
      simp only[List.cons_append,List.headD_cons] at hq2
      subst hq2
      obtain ⟨_,rfl2⟩:=hd_inj hT q1 hip rfl
      exact hq rest (by rw[rfl2])
    obtain ⟨mx,lx⟩:=x0
    simp only[Env.at_,h1,Option.bind_some] at h3
    simp only[Env.vld,h1] at h4
    cases mx with
    |s=>cases lx<;>simp[vldL] at h4
    |x=>cases lx<;>simp[vldL] at h4
    |o e cols=>
     cases lx with
     |sc u=>simp[vldL] at h4
     |ls z rows=>
      simp only[vldL] at h4
      simp only[getL,Option.some.injEq,Prod.mk.injEq] at h3
      obtain ⟨rfl,rfl⟩:=h3
      simp only[put1]
      have ev:hvM T hv hv' [r']=hv [r']:=by
       simp only[hvM,hst [r'] (by intro rest h;simp at h) rfl (by simp)]
      rw[ev]
      have h0':VR tag hv w [r'] (.o e cols) (.ls z rows) (hv [r']):=h0
      obtain ⟨hh0,h8|⟨b,c,cur,hvv,hc,hmx,ht,hbl,hsz,hl,hrr⟩⟩:=h0'.open_own
      ·rw[h8.2] at h4;simp at h4
      ·have hbs:b<w.heap.size:=by
        rcases Nat.lt_or_ge b w.heap.size with hlt|hge
        ·exact hlt
        ·rw[Array.getElem?_eq_none hge] at hbl;cases hbl
       have hown:=hh.own b [r'] hbs ht (hst [r'] (by intro rest h;simp at h) rfl (by simp))
       rw[hvv]
       refine .own cur (by simp) hc hmx hown.1 (ev.trans hvv) (hown.2.trans hbl) hsz (fun i' h'=>rows_set_len h4.1 hl i' (by simpa using h')) (fun i' j' hi' hj'=> ?_)
       by_cases hij:i'=i0∧j'=j0
       ·obtain ⟨rfl,rfl⟩:=hij
        rw[lf_set_same h4.1 h4.2.1 (hl _ h4.1)]
        have hcell:=hrr i' j' hi' hj'
        rw[hm] at hcell hb⊢
        have hcv:hv [r',i',j']=cur.getD (i'*z.length+j') default:=by
         generalize hlf:lf z rows i' j'=L at hcell
         cases L with
         |sc u=>cases hcell
         |ls z1 rows1=>exact hcell.open_own.1
        rw[←hcv]
        exact hb
       ·rw[lf_set_other h4.1 hij]
        exact (hrr i' j' hi' hj').hm hh hi (fun rest=>hst _ (by
         intro rest' h
         simp only[List.cons_append,List.nil_append,List.cons.injEq,true_and] at h
         exact hij ⟨h.1,h.2.1⟩) rfl (by simp))
  ·rw[mutR_none (fun p hp he=>hex ⟨p,hp,he⟩)]
   have hw: ∀rest,wh T 900 ([r]++rest)=none:=fun rest=>wh_none hT.2 (fun p hp he=>hex ⟨p,hp,he⟩)
   have ev:hvM T hv hv' [r]=hv [r]:=by
    have:=hw []
    simp only[List.append_nil] at this
    simp only[hvM,this]
   rw[ev]
   exact h0.hm hh hi hw
 ·rcases hq with hq|hq
  ·have:=keepB hfr hb (by simp[nmB,hq])
   exact ⟨this.1,this.2.1⟩
  ·have:=keepB hfr hb (by simp[nmB,hq])
   exact ⟨this.1,this.2.1⟩
 ·have hlt: ¬b<w.heap.size:=by have:=hfr.size;omega
  simp[tagM,hlt,hi' b hb]
def mRes:Option Int→List (Bool×ML)
 |some n=> [(false,[(.s,.sc (.int .i64 n))])]
 |none=> []
def mVal:Option Int→Value
 |some n=> .int .i64 n
 |none=> .tuple #[]
def mSV:Option Int→SV
 |some n=>int .i64 n
 |none=> .dead
def VM (P:Program) (f:FuncId) (as:List SV) (ms:List (Md×Lf×Lf)) (n:Option Int):Prop:=
 (∃fn c,P.funcs[f]? =some fn∧fn.body=some c∧(fn.name== "runtime.NumGoroutine")=false)∧
 ∀ (w:World) (tag:Nat→Tag) (hv:Hv) (vs:List Value),(∀b,tag b= .sh∨tag b= .off∨ ∃k rest,tag b= .own (k::rest)∧900≤k∧k<900+ms.length)→(∀b,w.heap.size≤b→tag b= .off)→All2 (SR tag hv w) as vs→
  (∀i x,ms[i]? =some x→VR tag hv w [900+i] x.1 x.2.1 (hv [900+i]))→
  Calls P f vs.toArray w fun e w'=> ∃tag' hv',e= .returned (mVal n)∧Fr w tag tag' w'∧(∀b,w'.heap.size≤b→tag' b= .off)∧
   ∀i x,ms[i]? =some x→hv' [900+i]=hv [900+i]∧VR tag' hv' w' [900+i] x.1 x.2.2 (hv [900+i])
def LV.pls:LV→List (List Nat)
 | .r q=> [q]
 |_=> []
def SV.pls:SV→List (List Nat)
 | .v _ ls=>ls.flatMap LV.pls
 |_=> []
def LV.mv (T:List (List Nat)):LV→LV
 | .r q=>match wh T 900 q with
  |some (k,[])=> .r [k]
  |_=> .u
 |l=>l
def SV.mv (T:List (List Nat)):SV→SV
 | .v ag ls=> .v ag (ls.map (LV.mv T))
 |_=> .dead
def mPre (E:Env):List (List Nat)→List (Md×Lf×Lf)→Prop
 | [],[]=>True
 |p::T,(m,l,_)::ms=>E.at_ p=some (m,l)∧E.vld p∧(match m with| .o _ _=>True|_=>False)∧mPre E T ms
 |_,_=>False
theorem mPre_len: ∀ {T:List (List Nat)} {ms:List (Md×Lf×Lf)},mPre E T ms→T.length=ms.length
 | [],[],_=>rfl
 | [],_::_,h=>by simp[mPre] at h
 |_::_,[],h=>by simp[mPre] at h
 |p::T,(m,l,l')::ms,h=>by simp[mPre_len h.2.2.2]
theorem mPre_get: ∀ {T:List (List Nat)} {ms:List (Md×Lf×Lf)} {i:Nat} {p:List Nat},mPre E T ms→T[i]? =some p→ ∃m l l',ms[i]? =some (m,l,l')∧E.at_ p=some (m,l)∧E.vld p∧ ∃e cols,m= .o e cols
 | [],_,_,_,_,h=>by simp at h
 |_::_,[],_,_,h,_=>by simp[mPre] at h
 |p0::T,(m,l,l')::ms,0,p,h,hp=>by
  simp only[List.getElem?_cons_zero,Option.some.injEq] at hp
  subst hp
  obtain ⟨h1,h2,h3,_⟩:=h
  cases m with
  |o e cols=>exact ⟨_,l,l',rfl,h1,h2,e,cols,rfl⟩
  |s=>exact h3.elim
  |x=>exact h3.elim
 |p0::T,(m,l,l')::ms,i+1,p,h,hp=>by
  simp only[List.getElem?_cons_succ] at hp⊢
  exact mPre_get h.2.2.2 hp
theorem LV.mv_ok (_:hdsOk T) {l:LV} {v:Value} (h:LR tag hv w l v):LR (tagC T tag) (hvC T hv) w (l.mv T) v:=by
 cases l with
 |s l=>exact VR.move h [] (fun b hb=>⟨by simp[tagC,hb],rfl⟩) (fun rest hr=>by cases hr)
 |n z=>exact h
 |u=>exact h
 |r q=>
  obtain ⟨h1,A,n,c,h2⟩:=h
  simp only[LV.mv]
  split
  ·rename_i k hw
   obtain ⟨i,p,q1,rfl,q3⟩:=wh_eq hw
   rw[List.append_nil] at q3
   subst q3
   refine ⟨?_,A,n,c,h2⟩
   simp[hvC,plN_at q1,h1]
  ·rw[h2];rfl
theorem SV.mv_ok (hT:hdsOk T) {s:SV} {v:Value} (h:SR tag hv w s v):SR (tagC T tag) (hvC T hv) w (s.mv T) v:=by
 cases s with
 |v ag ls=>
  obtain ⟨cs,h1,h2,h3⟩:=h
  exact ⟨cs,h1,(h2.imp fun _ _ h=>LV.mv_ok hT h).map_left,by simpa using h3⟩
 |_=>trivial
def CallMu (P:Program) (k:Nat) (as:List SV) (F:List (Bool×ML)→Prop) (G:List SV→List (Md×Lf×Lf)→Option Int→Prop):Prop:=
 (∃rs,VC P k as rs∧F rs)∨ ∃as' ms n,VM P k as' ms n∧G as' ms n
theorem CallMu.of {P:Program} {k:Nat} {as:List SV} {F:List (Bool×ML)→Prop} {G:List SV→List (Md×Lf×Lf)→Option Int→Prop} {rs:List (Bool×ML)} (h:VC P k as rs) (hF:F rs):CallMu P k as F G:= .inl ⟨rs,h,hF⟩
theorem CallMu.mut {P:Program} {k:Nat} {as as':List SV} {F:List (Bool×ML)→Prop} {G:List SV→List (Md×Lf×Lf)→Option Int→Prop} {ms:List (Md×Lf×Lf)} {n:Option Int} (h:VM P k as' ms n) (hG:G as' ms n):CallMu P k as F G:= .inr ⟨as',ms,n,h,hG⟩
def kMut (ti:TT) (c:Call) (dst:Option Nat) (K:Env→Prop) (E:Env) (as':List SV) (ms:List (Md×Lf×Lf)) (n:Option Int):Prop:=
 match c.callee with
 | .value f=>match opd ti E 0 f,argsO ti E c.args.toList c.argTypes.toList with
  |some (.fn _ []),some ss=>as'=ss.map (SV.mv (ss.flatMap SV.pls))∧hdsOk (ss.flatMap SV.pls)∧mPre E (ss.flatMap SV.pls) ms∧K ((E.mutE (ss.flatMap SV.pls) (ms.map (·.2.2))).put dst (mSV n))
  |_,_=>False
 |_=>False
theorem kMut_ok {K:Env→Prop} {o:Oper} {c:Call} {k:Nat} {as':List SV} {ms:List (Md×Lf×Lf)} {n:Option Int} (hs:St w0 tag0 E tag hv a w) (ho:o.op= .call c)
  {C:Prop} {as:List SV} {R:List Nat} (hc:callO ti E c=some (C,k,as,R)) (hvm:VM P k as' ms n) (h:kMut ti c o.dst K E as' ms n):
  ∃vs:List Value,(execOp a.eval o).run P w= .ok (.enter k vs.toArray) w∧Calls P k vs.toArray w fun e w'=>e= .returned (mVal n)∧ ∃E' tg hh,St w0 tag0 E' tg hh a w'∧K (E'.put o.dst (mSV n)):=by
 obtain ⟨callee,args,ats⟩:=c
 unfold kMut at h
 simp only at h
 split at h
 ·rename_i f
  split at h
  ·rename_i k' ss h1 h2
   obtain ⟨rfl,hT,hpre,hK⟩:=h
   have hkk:k'=k:=by
    simp only[callO,h1,h2] at hc
    split at hc
    ·cases hc
     rfl
    ·cases hc
   subst hkk
   generalize hTT:ss.flatMap SV.pls=T at hT hpre hK hvm
   obtain ⟨cs,h4,h5⟩:=opd_ok hs h1
   cases h5
   have h6:=argsO_ok hs h2
   refine ⟨args.toList.map a.eval, ?_, ?_⟩
   ·obtain ⟨fn,b,q1,q2,q3⟩:=hvm.1
    have q4:args.map a.eval=(args.toList.map a.eval).toArray:=by
     apply Array.ext'
     simp
    rw[←q4]
    simp only[execOp,ho,resolve,Sem.run_bind,h4,Deferred.ofValue,Sem.run_pure,Result.andThen_ok,invoke,callFunc,run_program,q1,q3,Bool.false_eq_true,if_false,q2,Option.isNone_some,Array.empty_append]
    simp
   ·have hlen:=mPre_len hpre
    refine (hvm.2 w (tagC T tag) (hvC T hv) _ (fun b=> ?_) (fun b hb=> ?_) (All2.map_left (h6.imp fun _ _ h=>SV.mv_ok hT h)) (fun i x hx=> ?_)).mono ?_
    ·rw[←hlen]
     exact tagC_cases b
    ·simp[tagC,hs.hi b hb]
    ·have hi:i<T.length:=by rw[hlen];exact (List.getElem?_eq_some_iff.1 hx).1
     have hp:T[i]? =some T[i]:=List.getElem?_eq_getElem hi
     obtain ⟨m,l,l',q1,q2,q3,e,cols,rfl⟩:=mPre_get hpre hp
     rw[hx] at q1
     cases q1
     have ev:hvC T hv [900+i]=hv T[i]:=by simp[hvC,plN_at hp]
     rw[ev]
     refine fwd hT hp ?_
     cases l with
     |ls z rows=>exact at_own hs q2 q3
     |sc u=>
      exfalso
      obtain ⟨r,rest,hrr⟩:=plOk_cons (hT.2 _ (List.getElem_mem hi))
      rw[hrr] at q2 q3
      simp only[Env.at_,Env.vld] at q2 q3
      cases hx0:lkp E.rt r with
      |none=>rw[hx0] at q2;simp at q2
      |some x0=>
       rw[hx0] at q2 q3
       simp only[Option.bind_some] at q2
       obtain ⟨v',h9,_⟩:=VR.get rest _ _ _ _ _ _ (hs.rt r x0 hx0) q3 q2
       cases h9
    ·rintro e w' ⟨tag',hv',rfl,hfr,hi',hpost⟩
     refine ⟨rfl,_,_,_,hs.mut (hv':=hv') hT (ls:=ms.map (·.2.2)) hfr hi' (fun i p hp=> ?_),hK⟩
     obtain ⟨m,l,l',q1,q2,q3,q4⟩:=mPre_get hpre hp
     obtain ⟨q5,q6⟩:=hpost i _ q1
     have ev:hvC T hv [900+i]=hv p:=by simp[hvC,plN_at hp]
     rw[ev] at q5 q6
     exact ⟨l',m,l,by rw[List.getElem?_map,q1];rfl,q2,q3,q4,q5,q6⟩
  ·exact h.elim
 ·exact h.elim
end Go.Sm
namespace Go.Sm
open Go.RowKit
variable {P : Program} {ti : TT} {E : Env} {tag tag' tag0 : Nat → Tag} {hv hv' : Hv} {a : Act} {w w' w0 : World} {t d : Nat}
theorem VR.shareOw {p:List Nat} {m:Md} {l:Lf} {v:Value} (h:VR tag hv w p m l v):Ow m l→Full m l→(∀rest b,OwnIn m l rest→tag b= .own (p++rest)→tag' b= .sh)→ ∀p',VR tag' hv' w p' .s l v:=by
 induction h with
 |dead h1=>intro _ hf;cases hf
 |sc h1=>exact fun _ _ _ _=> .sc h1
 |sh0=>intro ho;cases ho
 |sh=>intro ho;cases ho
 |own0 hh=>exact fun _ _ _ _=> .sh0
 | @own p e cols z rows b n c cur hn hc hm ht hh hb hs hl hr ih=>
  intro hO hf ho p'
  cases hf with
  |o hf=>
  cases hO with
  |o hO=>
  have h0:=ho [] b .here (by simpa using ht)
  refine .sh (fun i j=>cur.getD (i*z.length+j) default) hn hc h0 hl (fun i j hi hj=> ?_) (fun i j hi hj=> ?_)
  ·have hlt:i*z.length+j<cur.size:=by
    rw[hs]
    have h1:(i+1)*z.length≤c*z.length:=Nat.mul_le_mul_right _ (by omega)
    rw[Nat.add_mul] at h1
    omega
   simp[World.cell?,hb,Array.getD,hlt]
  ·refine ih i j hi hj (hO i j (by omega) hj) (hf i j (by omega) hj) (fun rest b' hrest htb=> ?_) p'
   exact ho (i::j::rest) b' (.deep (by omega) hj hrest) (by simpa using htb)
def FullML:ML→Prop
 | []=>True
 |(m,l)::r=>Full m l∧FullML r
def FullRs:List (Bool×ML)→Prop
 | []=>True
 |(_,ml)::r=>FullML ml∧FullRs r
def frzS:List (Bool×ML)→SV
 | [(ag,ml)]=> .v ag (ml.map fun x=> .s x.2)
 |_=> .dead
def tagF (tag tag':Nat→Tag) (sz:Nat):Nat→Tag:=fun b=>
 if b<sz then tag b else match tag' b with
  | .off=> .off
  |_=> .sh
theorem res_frz {R:List Nat} {b:Nat} {m:Md} {l:Lf} {v:Value} (hfr:Fr w (lend R tag) tag' w') (hR:R= []∨Ow m l) (hf:Full m l) (h:VR tag' hv' w' [b] m l v):VR (tagF tag tag' w.heap.size) hv w' [] .s l v:=by
 have hown: ∀b' q,tag' b'= .own q→tagF tag tag' w.heap.size b'= .sh:=fun b' q hb'=>by
  simp only[tagF]
  split
  ·rename_i hlt
   have h1:=(hfr.heap b' hlt (lend_cases R b')).2
   rcases lend_cases R b' with h2|h2<;>rw[h1,h2] at hb'<;>cases hb'
  ·rw[hb']
 rcases hR with hR|hR
 ·refine h.share hf (fun b' hb'=> ?_) (fun rest b' _ hb'=>hown b' _ hb') []
  simp only[tagF]
  split
  ·rename_i hlt
   have h1:=(hfr.heap b' hlt (lend_cases R b')).2
   rw[hb'] at h1
   subst hR
   unfold lend at h1
   split at h1
   ·simp at h1
   ·cases h1
   ·exact h1.symm
  ·rw[hb']
 ·exact h.shareOw hR hf (fun rest b' _ hb'=>hown b' _ hb') []
theorem frz_ML {R:List Nat} (hfr:Fr w (lend R tag) tag' w'): ∀ {b:Nat} {ml:ML} {cs:List Value},(R= []∨OwML ml)→FullML ml→RC tag' hv' w' b ml cs→All2 (LR (tagF tag tag' w.heap.size) hv w') (ml.map fun x=> .s x.2) cs
 |b,[],[],_,_,_=> .nil
 |b,[],_::_,_,_,h=>by simp[RC] at h
 |b,_::_,[],_,_,h=>by simp[RC] at h
 |b,(m,l)::r,c::cs,hR,hf,h=>by
  simp only[RC] at h
  exact .cons (res_frz hfr (hR.imp id fun ho=>ho (m,l) (by simp)) hf.1 h.1) (frz_ML hfr (hR.imp id fun ho x hx=>ho x (by simp[hx])) hf.2 h.2)
theorem St.hop0 (hs:St w0 tag0 E tag hv a w) (hop:Hop (fun _=>false) tag tag' hv hv w w') (hf:Fr w0 tag0 tag' w') (hi': ∀b,w'.heap.size≤b→tag' b= .off):St w0 tag0 E tag' hv a w':=by
 refine ⟨hs.nt,hs.df,fun t sv hl=>SR.hop0 (hs.sl t sv hl) hop hs.hi,fun b ls hl=> ?_,fun r y hl=>VR.hop (hs.rt r y hl) hop rfl hs.hi,hf,hi'⟩
 obtain ⟨k,cur,e,q1,q2,q3,q4⟩:=hs.bx b ls hl
 have hk:k<w.heap.size:=by
  rcases Nat.lt_or_ge k w.heap.size with hlt|hge
  ·exact hlt
  ·rw[Array.getElem?_eq_none hge] at q3;cases q3
 have q5:=hop.own k b [0] hk q2 rfl
 exact ⟨k,cur,e,q1,q5.1,q5.2.trans q3,q4.imp fun _ _ h=>LR.hop0 h hop hs.hi⟩
theorem St.retF {R:List Nat} {rs:List (Bool×ML)} {rv:Value} (hs:St w0 tag0 E tag hv a w) (hfr:Fr w (lend R tag) tag' w') (hi': ∀b,w'.heap.size≤b→tag' b= .off) (hR:R= []∨OwRs rs) (hf:FullRs rs) (hrv:RV tag' hv' w' rs rv):
  ∃tg,St w0 tag0 E tg hv a w'∧SR tg hv w' (frzS rs) rv:=by
 have hop:Hop (fun _=>false) tag (tagF tag tag' w.heap.size) hv hv w w':=
  ⟨fun b hb h=>⟨by simp[tagF,hb,h],(hfr.heap b hb (lend_cases R b)).1⟩,fun b r p hb h _=>⟨by simp[tagF,hb,h],(hfr.heap b hb (lend_cases R b)).1⟩,fun _ _ _=>rfl⟩
 refine ⟨_,hs.hop0 hop (hs.fr.step hfr.os hfr.tape hfr.output hfr.size fun b hb _=>⟨(hfr.heap b hb (lend_cases R b)).1,by simp[tagF,hb]⟩) (fun b hb=> ?_), ?_⟩
 ·have:=hfr.size
  simp only[tagF]
  rw[if_neg (by omega),hi' b hb]
 ·unfold frzS
  split
  ·rename_i ag ml
   simp only[RV,RVs] at hrv
   obtain ⟨⟨cs,h1,h2,h3⟩,_⟩:=hrv
   exact ⟨cs,h1,frz_ML hfr (hR.imp id fun ho=>ho (ag,ml) (by simp)) hf.1 h2,fun h=>by simpa using h3 h⟩
  ·trivial
end Go.Sm
namespace Go.Sm
open Go.RowKit
set_option linter.unusedVariables false
set_option linter.unusedSimpArgs false
variable {P : Program} {ti : TT} {E : Env} {tag tag' tag0 : Nat → Tag} {hv hv' : Hv} {a : Act} {w w' w0 : World} {t d : Nat} {T : List (List Nat)} {R : List Nat}
def VX (P:Program) (f:FuncId) (as:List SV) (ms:List (Md×Lf)) (rs:List (Bool×ML)):Prop:=
 (∃fn c,P.funcs[f]? =some fn∧fn.body=some c∧(fn.name== "runtime.NumGoroutine")=false)∧
 ∀ (w:World) (tag:Nat→Tag) (hv:Hv) (vs:List Value),(∀b,tag b= .sh∨tag b= .off∨ ∃k rest,tag b= .own (k::rest)∧900≤k∧k<900+ms.length)→(∀b,w.heap.size≤b→tag b= .off)→All2 (SR tag hv w) as vs→
  (∀i x,ms[i]? =some x→VR tag hv w [900+i] x.1 x.2 (hv [900+i]))→
  Calls P f vs.toArray w fun e w'=> ∃tag' hv' rv,e= .returned rv∧Fr w tag tag' w'∧(∀b,w'.heap.size≤b→tag' b= .off)∧RV tag' hv' w' rs rv
def tagX (T:List (List Nat)) (R:List Nat) (tag:Nat→Tag):Nat→Tag:=fun b=>match tag b with
 | .own q=>match wh T 900 q with
  |some (k,rest)=> .own (k::rest)
  |none=>match q with
   |k::_=>if k∈R then .sh else .off
   | []=> .off
 |s=>s
theorem tagX_cases (b:Nat):tagX T R tag b= .sh∨tagX T R tag b= .off∨ ∃k rest,tagX T R tag b= .own (k::rest)∧900≤k∧k<900+T.length:=by
 unfold tagX
 split
 ·split
  ·rename_i k rest hw
   obtain ⟨i,p,h1,h2,_⟩:=wh_eq hw
   have:=(List.getElem?_eq_some_iff.1 h1).1
   exact .inr (.inr ⟨k,rest,rfl,by omega,by omega⟩)
  ·split
   ·split
    ·exact .inl rfl
    ·exact .inr (.inl rfl)
   ·exact .inr (.inl rfl)
 ·rename_i h
  cases ht:tag b with
  |sh=>exact .inl rfl
  |off=>exact .inr (.inl rfl)
  |own q=>exact absurd ht (h q)
theorem tagX_sh {b:Nat} (h:tag b= .sh):tagX T R tag b= .sh:=by simp[tagX,h]
theorem tagX_nm {b:Nat} (h:nmB T (tag b)=true):tagX T R tag b= .sh∨tagX T R tag b= .off:=by
 unfold tagX
 cases ht:tag b with
 |sh=>exact .inl rfl
 |off=>exact .inr rfl
 |own q=>
  rw[ht] at h
  simp only[nmB,Option.isNone_iff_eq_none] at h
  simp only[h]
  split
  ·split
   ·exact .inl rfl
   ·exact .inr rfl
  ·exact .inr rfl
theorem tagX_nm0 {b:Nat} (hR:R= []) (h:nmB T (tag b)=true) (h1:tagX T R tag b= .sh):tag b= .sh:=by
 subst hR
 cases ht:tag b with
 |sh=>rfl
 |off=>simp[tagX,ht] at h1
 |own q=>
  rw[ht] at h
  simp only[nmB,Option.isNone_iff_eq_none] at h
  simp only[tagX,ht,h] at h1
  split at h1
  ·simp at h1
  ·cases h1
theorem tagX_lend {b:Nat} (hT:hdsOk T) (hd: ∀p∈T,hd0 p∉R) (h:lend R tag b= .sh):tagX T R tag b= .sh:=by
 unfold lend at h
 unfold tagX
 split at h
 ·rename_i k rest ht
  split at h
  ·rename_i hk
   rw[ht]
   have:wh T 900 (k::rest)=none:=wh_none hT.2 (fun p hp e=>hd p hp (e▸hk))
   simp[this,hk]
  ·cases h
 ·cases h
 ·rename_i h1 h2
  cases ht:tag b with
  |sh=>rfl
  |off=>rw[ht] at h;cases h
  |own q=>cases q with
   |nil=>exact absurd ht h2
   |cons k q=>exact absurd ht (h1 k q)
theorem fwdX (hT:hdsOk T) {i:Nat} {p:List Nat} {m:Md} {l:Lf} {v:Value} (hp:T[i]? =some p) (h:VR tag hv w p m l v):VR (tagX T R tag) (hvC T hv) w [900+i] m l v:=by
 refine h.move [900+i] (fun b hb=>⟨tagX_sh hb,rfl⟩) (fun rest _=>⟨?_,fun b hb=>⟨?_,rfl⟩⟩)
 ·simp[hvC,plN_at hp]
 ·simp[tagX,hb,wh_app hT hp]
def SV.us (E:Env) (T:List (List Nat)):SV→Option (Prop×SV)
 | .v ag ls=>some (True,.v ag (ls.map (LV.mv T)))
 | .p q=>E.shS (.p q)
 | .fn k caps=>E.shS (.fn k caps)
 |_=>none
def Env.usS (E:Env) (T:List (List Nat)):List SV→Option (Prop×List SV)
 | []=>some (True,[])
 |s::r=>match s.us E T,E.usS T r with
  |some (C,s'),some (D,r')=>some (C∧D,s'::r')
  |_,_=>none
def SV.lnm (E:Env):SV→List Nat
 | .p q=>E.nm (.p q)
 | .fn k caps=>E.nm (.fn k caps)
 |_=> []
theorem PR.ps_mono {tag1 tag2:Nat→Tag} {hv1 hv2:Hv} {ds:List Lf} {v:Value} (hm: ∀b,tag1 b= .sh→tag2 b= .sh) (h:PR tag1 hv1 w (.ps ds) v):PR tag2 hv2 w (.ps ds) v:=by
 obtain ⟨b,off,h1,h2,h3⟩:=h
 refine ⟨b,off,h1,hm b h2,fun j hj=> ?_⟩
 obtain ⟨u,hu,hr⟩:=h3 j hj
 exact ⟨u,hu,hr.move [] (fun b hb=>⟨hm b hb,rfl⟩) (fun rest hr=>by cases hr)⟩
theorem PRs.ps_mono {tag1 tag2:Nat→Tag} {hv1 hv2:Hv} (hm: ∀b,tag1 b= .sh→tag2 b= .sh): ∀ {ds:List (List Lf)} {vs:List Value},All2 (PR tag1 hv1 w) (ds.map .ps) vs→All2 (PR tag2 hv2 w) (ds.map .ps) vs
 | [],_,h=>by cases h;exact .nil
 |_::_,_,h=>by
  cases h with
  |cons h1 h2=>exact .cons (PR.ps_mono hm h1) (PRs.ps_mono hm h2)
theorem SV.us_ok {s s':SV} {C:Prop} {v:Value} (hs:St w0 tag0 E tag hv a w) (hT:hdsOk T) (hd: ∀p∈T,hd0 p∉R) (hR: ∀k∈s.lnm E,k∈R) (h:s.us E T=some (C,s')) (hC:C) (hv0:SR tag hv w s v):SR (tagX T R tag) (hvC T hv) w s' v:=by
 cases s with
 |v ag ls=>
  simp only[SV.us,Option.some.injEq,Prod.mk.injEq] at h
  obtain ⟨rfl,rfl⟩:=h
  obtain ⟨cs,h1,h2,h3⟩:=hv0
  refine ⟨cs,h1,(h2.imp fun l v h=> ?_).map_left,by simpa using h3⟩
  cases l with
  |s l=>exact VR.move h [] (fun b hb=>⟨tagX_sh hb,rfl⟩) (fun rest hr=>by cases hr)
  |n z=>exact h
  |u=>exact h
  |r q=>
   obtain ⟨h1,A,n,c,h2⟩:=h
   simp only[LV.mv]
   split
   ·rename_i k hw
    obtain ⟨i,p,q1,rfl,q3⟩:=wh_eq hw
    rw[List.append_nil] at q3
    subst q3
    refine ⟨?_,A,n,c,h2⟩
    simp[hvC,plN_at q1,h1]
   ·rw[h2];rfl
 |p q=>
  simp only[SV.us] at h
  have:=shS_ok (hv':=hv) hs h hC hR hv0
  simp only[Env.shS] at h
  split at h
  ·cases h
   exact PR.ps_mono (fun b hb=>tagX_lend hT hd hb) this
  ·cases h
 |fn k caps=>
  simp only[SV.us] at h
  have:=shS_ok (hv':=hv) hs h hC hR hv0
  simp only[Env.shS] at h
  split at h
  ·cases h
   obtain ⟨vs,h1,h2⟩:=this
   exact ⟨vs,h1,PRs.ps_mono (fun b hb=>tagX_lend hT hd hb) h2⟩
  ·cases h
 |_=>simp[SV.us] at h
theorem usS_ok (hs:St w0 tag0 E tag hv a w) (hT:hdsOk T) (hd: ∀p∈T,hd0 p∉R): ∀ {ss ss':List SV} {C:Prop} {vs:List Value},(∀k∈ss.flatMap (SV.lnm E),k∈R)→E.usS T ss=some (C,ss')→C→All2 (SR tag hv w) ss vs→All2 (SR (tagX T R tag) (hvC T hv) w) ss' vs
 | [],ss',C,vs,_,h,hC,hv0=>by
  simp only[Env.usS,Option.some.injEq,Prod.mk.injEq] at h
  obtain ⟨rfl,rfl⟩:=h
  cases hv0
  exact .nil
 |s::r,ss',C,vs,hR,h,hC,hv0=>by
  simp only[Env.usS] at h
  split at h
  ·rename_i C1 s1 C2 r1 h1 h2
   cases h
   cases hv0 with
   |cons h3 h4=>
    exact .cons (SV.us_ok hs hT hd (fun k hk=>hR k (List.mem_flatMap.2 ⟨s,by simp,hk⟩)) h1 hC.1 h3) (usS_ok hs hT hd (fun k hk=>by
     obtain ⟨x,hx,hk⟩:=List.mem_flatMap.1 hk
     exact hR k (List.mem_flatMap.2 ⟨x,by simp[hx],hk⟩)) h2 hC.2 h4)
  ·cases h
section
variable {tn : Nat → Tag} {hn : Hv}
variable (H : ∀ b rest, hn ((d + 1000 * b) :: rest) = hv' (b :: rest) ∧ ∀ b', tag' b' = .own (b :: rest) → tn b' = .own ((d + 1000 * b) :: rest))
include H
theorem rmv {b:Nat} {m:Md} {l:Lf} {v:Value} (hR:(∀b',tag' b'= .sh→tn b'= .sh)∨Ow m l) (h:VR tag' hv' w' [b] m l v):VR tn hn w' [d+1000*b] m l v:=by
 have hown: ∀rest,hn ([d+1000*b]++rest)=hv' ([b]++rest)∧ ∀b',tag' b'= .own ([b]++rest)→tn b'= .own ([d+1000*b]++rest)∧w'.heap[b']? =w'.heap[b']? :=
  fun rest=>⟨(H b rest).1,fun b' hb'=>⟨(H b rest).2 b' hb',rfl⟩⟩
 rcases hR with hR|hR
 ·exact h.move _ (fun b' hb'=>⟨hR b' hb',rfl⟩) (fun rest _=>hown rest)
 ·exact h.moveOw hR _ (fun rest _=>hown rest)
theorem rL: ∀ {b:Nat} {ml:ML} {cs:List Value},((∀b',tag' b'= .sh→tn b'= .sh)∨OwML ml)→RC tag' hv' w' b ml cs→All2 (LR tn hn w') (resL d b ml) cs
 |b,[],[],_,_=> .nil
 |b,[],_::_,_,h=>by simp[RC] at h
 |b,_::_,[],_,h=>by simp[RC] at h
 |b,(m,l)::r,c::cs,hR,h=>by
  simp only[RC] at h
  have h1:=rmv H (hR.imp id fun ho=>ho (m,l) (by simp)) h.1
  have h2:=rL (hR.imp id fun ho x hx=>ho x (by simp[hx])) h.2
  cases m with
  |s=>exact .cons (res_sh h1) h2
  |x=>exact .cons h1.one h2
  |o e cols=>
   cases l with
   |sc u=>cases h1
   |ls z rows=>
    refine .cons ?_ h2
    obtain ⟨h3,h4⟩:=h1.open_own
    refine ⟨h3.symm, ?_⟩
    rcases h4 with ⟨h5,_⟩|⟨_,_,_,h5,_⟩<;>exact ⟨_,_,_,h5⟩
theorem rR: ∀ {b:Nat} {ml:ML} {cs:List Value},((∀b',tag' b'= .sh→tn b'= .sh)∨OwML ml)→RC tag' hv' w' b ml cs→ ∀x∈resR d b ml,VR tn hn w' [x.1] x.2.1 x.2.2 (hn [x.1])
 |b,[],[],_,_=>by simp[resR]
 |b,[],_::_,_,h=>by simp[RC] at h
 |b,_::_,[],_,h=>by simp[RC] at h
 |b,(m,l)::r,c::cs,hR,h=>by
  simp only[RC] at h
  have h1:=rmv H (hR.imp id fun ho=>ho (m,l) (by simp)) h.1
  have h2:=rR (hR.imp id fun ho x hx=>ho x (by simp[hx])) h.2
  intro x hx
  cases m with
  |s=>exact h2 x hx
  |x=>exact h2 _ hx
  |o e cols=>
   simp only[resR,List.mem_cons] at hx
   rcases hx with rfl|hx
   ·cases l with
    |sc u=>cases h1
    |ls z rows=>
     have:=h1.open_own.1
     simp only
     rw[this]
     exact h1
   ·exact h2 x hx
theorem rPs: ∀ {b:Nat} {ps:List (Bool×ML)} {vs:List Value},((∀b',tag' b'= .sh→tn b'= .sh)∨OwRs ps)→RVs tag' hv' w' b ps vs→All2 (fun (q:Bool×List LV) u=>VV tn hn w' q.1 q.2 u) (resPs d b ps) vs∧
  ∀x∈resRs d b ps,VR tn hn w' [x.1] x.2.1 x.2.2 (hn [x.1])
 |b,[],[],_,_=>⟨.nil,by simp[resRs]⟩
 |b,[],_::_,_,h=>by simp[RVs] at h
 |b,_::_,[],_,h=>by simp[RVs] at h
 |b,(ag,ml)::r,v::vs,hR,h=>by
  simp only[RVs] at h
  obtain ⟨⟨cs,h1,h2,h3⟩,h4⟩:=h
  have hm:(∀b',tag' b'= .sh→tn b'= .sh)∨OwML ml:=hR.imp id fun ho=>ho (ag,ml) (by simp)
  have ih:=rPs (hR.imp id fun ho x hx=>ho x (by simp[hx])) h4
  refine ⟨.cons ⟨cs,h1,rL H hm h2,fun hf=> ?_⟩ ih.1,fun x hx=> ?_⟩
  ·have: ∀b (ml:ML),(resL d b ml).length=ml.length:=by
    intro b ml
    induction ml generalizing b with
    |nil=>rfl
    |cons y r ih=>
     obtain ⟨m,l⟩:=y
     cases m<;>simp[resL,ih]
   rw[this]
   exact h3 hf
  ·simp only[resRs,List.mem_append] at hx
   rcases hx with hx|hx
   ·exact rR H hm h2 x hx
   ·exact ih.2 x hx
end
theorem RV_key {rs:List (Bool×ML)} {rv:Value} (hrv:RV tag' hv' w' rs rv): ∃vs,RVs tag' hv' w' 0 rs vs∧((rs.length=1∧vs= [rv])∨(rs.length≠1∧rv= .tuple vs.toArray)):=by
 unfold RV at hrv
 split at hrv
 ·exact ⟨_,hrv,.inl ⟨rfl,rfl⟩⟩
 ·rename_i h9
  obtain ⟨vs,h2,h3⟩:=hrv
  refine ⟨vs,h3,.inr ⟨fun hl=> ?_,h2⟩⟩
  match rs,hl,h9 with
  | [p],_,h9=>exact h9 p rfl
def rt1 (T:List (List Nat)):Nat→Bool:=fun r=>T.any fun p=>match p with| [k]=>k==r|_=>false
def pl3 (T:List (List Nat)):List (List Nat):=T.filter fun p=>p.length==3
def kil1 (i j:Nat):Md×Lf→Md×Lf
 |(.o e cols,l)=>(.o e (fun k=>if k=i then (cols i).set j .x else cols k),l)
 |x=>x
def kil3 (E:Env):List (List Nat)→List (Nat×Md×Lf)
 | [r,i,j]::T=>(match lkp E.rt r with|some x=> [(r,kil1 i j x)]|none=> [])++kil3 E T
 |_::T=>kil3 E T
 | []=> []
def Env.useE (E:Env) (d:Nat) (T:List (List Nat)) (rs:List (Bool×ML)):Env:=
 E.re (fun r=>fam d r||rt1 T r) (pl3 T) [] (resRs d 0 rs++kil3 E T)
def uPre (E:Env):List (List Nat)→List (Md×Lf)→Prop
 | [],[]=>True
 |p::T,(m,l)::ms=>E.at_ p=some (m,l)∧E.vld p∧(match m with| .o _ _=>True|_=>False)∧uPre E T ms
 |_,_=>False
theorem uPre_len: ∀ {T:List (List Nat)} {ms:List (Md×Lf)},uPre E T ms→T.length=ms.length
 | [],[],_=>rfl
 | [],_::_,h=>by simp[uPre] at h
 |_::_,[],h=>by simp[uPre] at h
 |p::T,(m,l)::ms,h=>by simp[uPre_len h.2.2.2]
theorem uPre_get: ∀ {T:List (List Nat)} {ms:List (Md×Lf)} {i:Nat} {p:List Nat},uPre E T ms→T[i]? =some p→ ∃m l,ms[i]? =some (m,l)∧E.at_ p=some (m,l)∧E.vld p∧ ∃e cols,m= .o e cols
 | [],_,_,_,h,hp=>by simp at hp
 |_::_,[],_,_,h,_=>by simp[uPre] at h
 |p0::T,(m,l)::ms,0,p,h,hp=>by
  simp only[List.getElem?_cons_zero,Option.some.injEq] at hp
  subst hp
  obtain ⟨h1,h2,h3,_⟩:=h
  cases m with
  |o e cols=>exact ⟨_,l,rfl,h1,h2,e,cols,rfl⟩
  |s=>exact h3.elim
  |x=>exact h3.elim
 |p0::T,(m,l)::ms,i+1,p,h,hp=>by
  simp only[List.getElem?_cons_succ] at hp⊢
  exact uPre_get h.2.2.2 hp
theorem lkp_kil3 {r:Nat} {y:Md×Lf}: ∀ {T:List (List Nat)},lkp (kil3 E T) r=some y→ ∃i j x,[r,i,j]∈T∧lkp E.rt r=some x∧y=kil1 i j x
 | [],h=>by simp[kil3,lkp] at h
 |p::T,h=>by
  have ih:lkp (kil3 E T) r=some y→ ∃i j x,[r,i,j]∈p::T∧lkp E.rt r=some x∧y=kil1 i j x:=fun h=>by
   obtain ⟨i,j,x,h1,h2⟩:=lkp_kil3 h
   exact ⟨i,j,x,by simp[h1],h2⟩
  unfold kil3 at h
  split at h
  ·rename_i r0 i j T0 e
   cases e
   rw[lkp_app] at h
   split at h
   ·rename_i z hz
    cases h
    split at hz
    ·rename_i x hx
     simp only[lkp] at hz
     split at hz
     ·rename_i e
      subst e
      cases hz
      exact ⟨i,j,x,by simp,hx,rfl⟩
     ·cases hz
    ·simp[lkp] at hz
   ·exact ih h
  ·rename_i e
   cases e
   exact ih h
  ·cases ‹_::_= []›
def tagV (T:List (List Nat)) (sz d:Nat) (tag tag':Nat→Tag):Nat→Tag:=fun b=>
 if b<sz∧nmB T (tag b)=true then tag b else match tag' b with
  | .own (r::rest)=> .own ((d+1000*r)::rest)
  | .own []=> .off
  |s=>s
theorem dth_wh {d:Nat} {q:List Nat} (hT:hdsOk T) (h:dth (fun r=>fam d r||rt1 T r) (pl3 T) q=false):wh T 900 q=none:=by
 cases hw:wh T 900 q with
 |none=>rfl
 |some y=>
  exfalso
  obtain ⟨k,rest⟩:=y
  obtain ⟨i,p,h1,h2,rfl⟩:=wh_eq hw
  have hm:=List.mem_of_getElem? h1
  have hp:=hT.2 p hm
  simp only[dth,Bool.or_eq_false_iff,List.any_eq_false] at h
  match p,hp,hm,h with
  | [k],_,hm,h=>
   have h3:rt1 T k=false:=by
    have:=h.1
    simp only[List.cons_append,Bool.or_eq_false_iff] at this
    exact this.2
   simp only[rt1,List.any_eq_false] at h3
   have:=h3 _ hm
   simp at this
  | [k,i,j],_,hm,h=>
   have:=h.2 [k,i,j] (List.mem_filter.2 ⟨hm,rfl⟩)
   simp[List.isPrefixOf] at this
theorem St.use2 {ms:List (Md×Lf)} {rs:List (Bool×ML)} {rv:Value} (hs:St w0 tag0 E tag hv a w) (hT:hdsOk T) (hd:d<1000) (hdT: ∀p∈pl3 T,fam d (hd0 p)=false) (hpre:uPre E T ms) (hfr:Fr w (tagX T R tag) tag' w') (hi': ∀b,w'.heap.size≤b→tag' b= .off)
  (hR:R= []∨OwRs rs) (hrv:RV tag' hv' w' rs rv): ∃tg hh,St w0 tag0 (E.useE d T rs) tg hh a w'∧SR tg hh w' (resS d rs) rv∧ ∀k q,k<w.heap.size→tag k= .own q→wh T 900 q=none→tg k= .own q:=by
 have hkeep: ∀b,b<w.heap.size→nmB T (tag b)=true→w'.heap[b]? =w.heap[b]? ∧tagV T w.heap.size d tag tag' b=tag b:=fun b hb hn=>
  ⟨(hfr.heap b hb (tagX_nm hn)).1,by simp[tagV,hb,hn]⟩
 have hHp:Hp (fun r=>fam d r||rt1 T r) (pl3 T) [] tag (tagV T w.heap.size d tag tag') hv (hvN hv hv' d) w w':=by
  refine ⟨fun b hb h=> ?_,fun b q hb h hq=> ?_,fun b hb h=> ?_,fun q hq=> ?_,hfr.os,hfr.tape,hfr.output,hfr.size,fun b hb=> ?_⟩
  ·have:=hkeep b hb (by simp[nmB,h])
   exact ⟨this.2.trans h,this.1⟩
  ·have:=hkeep b hb (by simp[nmB,h,dth_wh hT hq])
   exact ⟨this.2.trans h,fun _=>this.1⟩
  ·have:=hkeep b hb (by simp[nmB,h])
   exact ⟨this.2.trans h,this.1⟩
  ·cases q with
   |nil=>simp[dth] at hq
   |cons r q=>
    simp only[dth,Bool.or_eq_false_iff] at hq
    simp[hvN,hq.1.1]
  ·have hlt: ¬b<w.heap.size:=by have:=hfr.size;omega
   simp[tagV,hlt,hi' b hb]
 have H: ∀b rest,hvN hv hv' d ((d+1000*b)::rest)=hv' (b::rest)∧ ∀b',tag' b'= .own (b::rest)→tagV T w.heap.size d tag tag' b'= .own ((d+1000*b)::rest):=by
  intro b rest
  refine ⟨hvN_new hd b rest,fun b' hb'=> ?_⟩
  simp only[tagV]
  split
  ·rename_i hc
   have h1:=(hfr.heap b' hc.1 (tagX_nm hc.2)).2
   rcases tagX_nm (R:=R) hc.2 with h2|h2<;>rw[h1,h2] at hb'<;>cases hb'
  ·rw[hb']
 have hSh:(∀b',tag' b'= .sh→tagV T w.heap.size d tag tag' b'= .sh)∨OwRs rs:=by
  refine hR.imp (fun hR b' hb'=> ?_) id
  simp only[tagV]
  split
  ·rename_i hc
   have h1:=(hfr.heap b' hc.1 (tagX_nm hc.2)).2
   rw[hb'] at h1
   exact tagX_nm0 hR hc.2 h1.symm
  ·rw[hb']
 obtain ⟨vs,h2,h3⟩:=RV_key hrv
 have h4:=rPs H hSh h2
 refine ⟨tagV T w.heap.size d tag tag',hvN hv hv' d,hs.re hHp (fun q hq=>by cases hq) (fun r y hl=> ?_), ?_,fun k q hk hq hw=>by simp[tagV,hk,nmB,hq,hw]⟩
 ·rcases lkp_append _ _ _ _ hl with ⟨z,hz,rfl⟩|hl
  ·exact h4.2 _ hz
  ·obtain ⟨i,j,x,hm,hx,rfl⟩:=lkp_kil3 hl
   have hm3: [r,i,j]∈pl3 T:=List.mem_filter.2 ⟨hm,rfl⟩
   obtain ⟨n,hn⟩:=List.getElem?_of_mem hm
   obtain ⟨m,l,_,hat,hvl,_⟩:=uPre_get hpre hn
   simp only[Env.at_,hx,Option.bind_some] at hat
   simp only[Env.vld,hx] at hvl
   have hfd:fam d r=false:=hdT _ hm3
   have hr1:rt1 T r=false:=by
    simp only[rt1,List.any_eq_false]
    intro p hp
    obtain ⟨n',hn'⟩:=List.getElem?_of_mem hp
    split
    ·rename_i k
     intro e
     have e':k=r:=by simpa using e
     subst e'
     have:=(hd_inj hT hn' hn rfl).2
     cases this
    ·simp
   have hdt: ∀q:List Nat,¬ [i,j]<+:q→dth (fun r=>fam d r||rt1 T r) (pl3 T) (r::q)=false:=by
    intro q hq
    simp only[dth,hfd,hr1,Bool.or_self,Bool.false_or,List.any_eq_false]
    intro p hp hpre
    have hp':=(List.mem_filter.1 hp).1
    have hpl:=List.isPrefixOf_iff_prefix.1 hpre
    obtain ⟨n',hn'⟩:=List.getElem?_of_mem hp'
    obtain ⟨r',p',rfl⟩:=plOk_cons (hT.2 p hp')
    obtain ⟨u,hu⟩:=hpl
    simp only[List.cons_append,List.cons.injEq] at hu
    have:=(hd_inj hT hn' hn hu.1).2
    simp only[List.cons.injEq] at this
    exact hq ⟨u,by rw[←this.2];exact hu.2⟩
   obtain ⟨mx,lx⟩:=x
   cases mx with
   |s=>cases lx<;>simp[vldL] at hvl
   |x=>cases lx<;>simp[vldL] at hvl
   |o e cols=>
    cases lx with
    |sc u=>simp[vldL] at hvl
    |ls z rows=>
     simp only[vldL] at hvl
     simp only[kil1]
     have ev:hvN hv hv' d [r]=hv [r]:=by simp[hvN,hfd]
     rw[ev]
     obtain ⟨hh0,h8|⟨b,c,cur,hvv,hc,hmx,ht,hbl,hsz,hl,hrr⟩⟩:=(hs.rt r _ hx).open_own
     ·rw[h8.2] at hvl;simp at hvl
     ·have hbs:b<w.heap.size:=by
       rcases Nat.lt_or_ge b w.heap.size with hlt|hge
       ·exact hlt
       ·rw[Array.getElem?_eq_none hge] at hbl;cases hbl
      have hown:=hHp.own b [r] hbs ht (hdt [] (by simp))
      rw[hvv]
      refine .own cur rfl hc hmx hown.1 (ev.trans hvv) ((hown.2 (by simp)).trans hbl) hsz hl (fun i' j' hi' hj'=> ?_)
      by_cases hij:i'=i∧j'=j
      ·obtain ⟨rfl,rfl⟩:=hij
       rcases md_set_same (cols:=cols) (i:=i') (j:=j') (y:=Md.x) with h9|h9<;>rw[h9]<;>exact .dead (hrr i' j' hi' hj').one
      ·rw[md_set_other hij]
       exact (hrr i' j' hi' hj').hp hHp hs.hi (fun rest _=>⟨hdt _ (by
        rintro ⟨u,hu⟩
        have hu':=hu
        simp at hu'
        exact hij ⟨hu'.1.symm,hu'.2.1.symm⟩),by simp⟩)
 ·unfold resS
  split
  ·rename_i ag ml
   rcases h3 with ⟨_,rfl⟩|⟨h5,_⟩
   ·have:=h4.1
    simp only[resPs] at this
    cases this with
    |cons h hs=>exact h
   ·simp at h5
  ·rename_i h9
   rcases h3 with ⟨h5,_⟩|⟨_,rfl⟩
   ·match rs,h5,h9 with
    | [(ag,ml)],_,h9=>exact absurd rfl (h9 ag ml)
   ·exact ⟨vs,rfl,h4.1⟩
theorem St.use {ms:List (Md×Lf)} {rs:List (Bool×ML)} {rv:Value} (hs:St w0 tag0 E tag hv a w) (hT:hdsOk T) (hd:d<1000) (hdT: ∀p∈pl3 T,fam d (hd0 p)=false) (hpre:uPre E T ms) (hfr:Fr w (tagX T R tag) tag' w') (hi': ∀b,w'.heap.size≤b→tag' b= .off)
  (hR:R= []∨OwRs rs) (hrv:RV tag' hv' w' rs rv): ∃tg hh,St w0 tag0 (E.useE d T rs) tg hh a w'∧SR tg hh w' (resS d rs) rv:=by
 obtain ⟨tg,hh,h1,h2,_⟩:=hs.use2 hT hd hdT hpre hfr hi' hR hrv
 exact ⟨tg,hh,h1,h2⟩
def kUse (ti:TT) (c:Call) (d:Nat) (dst:Option Nat) (K:Env→Prop) (E:Env) (as':List SV) (ms:List (Md×Lf)) (rs:List (Bool×ML)):Prop:=
 match c.callee with
 | .value f=>match opd ti E 0 f,argsO ti E c.args.toList c.argTypes.toList with
  |some (.fn _ []),some ss=>match E.usS (ss.flatMap SV.pls) ss with
   |some (C,ss')=>C∧as'=ss'∧hdsOk (ss.flatMap SV.pls)∧(∀p∈ss.flatMap SV.pls,hd0 p∉ss.flatMap (SV.lnm E))∧(∀p∈pl3 (ss.flatMap SV.pls),fam d (hd0 p)=false)∧uPre E (ss.flatMap SV.pls) ms∧(ss.flatMap (SV.lnm E)= []∨OwRs rs)∧d<1000∧
    K ((E.useE d (ss.flatMap SV.pls) rs).put dst (resS d rs))
   |none=>False
  |_,_=>False
 |_=>False
theorem use_run {o:Oper} {c:Call} {k k':Nat} {f:Operand} {ss as':List SV} {ms:List (Md×Lf)} {rs:List (Bool×ML)} (hs:St w0 tag0 E tag hv a w) (ho:o.op= .call c) (hcf:c.callee= .value f)
  {C D:Prop} {as:List SV} {R0:List Nat} (hc:callO ti E c=some (C,k,as,R0)) (hvx:VX P k as' ms rs) (h1:opd ti E 0 f=some (.fn k' [])) (h2:argsO ti E c.args.toList c.argTypes.toList=some ss)
  (hus:E.usS (ss.flatMap SV.pls) ss=some (D,as')) (hD:D) (hT:hdsOk (ss.flatMap SV.pls)) (hdj: ∀p∈ss.flatMap SV.pls,hd0 p∉ss.flatMap (SV.lnm E)) (hpre:uPre E (ss.flatMap SV.pls) ms):
  ∃vs:List Value,(execOp a.eval o).run P w= .ok (.enter k vs.toArray) w∧Calls P k vs.toArray w fun e w'=> ∃tag' hv' rv,e= .returned rv∧Fr w (tagX (ss.flatMap SV.pls) (ss.flatMap (SV.lnm E)) tag) tag' w'∧(∀b,w'.heap.size≤b→tag' b= .off)∧RV tag' hv' w' rs rv:=by
 obtain ⟨callee,args,ats⟩:=c
 simp only at hcf h2
 subst hcf
 have hkk:k'=k:=by
  simp only[callO,h1,h2] at hc
  split at hc
  ·cases hc
   rfl
  ·cases hc
 subst hkk
 generalize hTT:ss.flatMap SV.pls=T at hT hdj hpre hus
 obtain ⟨cs,h4,h5⟩:=opd_ok hs h1
 cases h5
 have h6:=argsO_ok hs h2
 refine ⟨args.toList.map a.eval, ?_, ?_⟩
 ·obtain ⟨fn,b,q1,q2,q3⟩:=hvx.1
  have q4:args.map a.eval=(args.toList.map a.eval).toArray:=by
   apply Array.ext'
   simp
  rw[←q4]
  simp only[execOp,ho,resolve,Sem.run_bind,h4,Deferred.ofValue,Sem.run_pure,Result.andThen_ok,invoke,callFunc,run_program,q1,q3,Bool.false_eq_true,if_false,q2,Option.isNone_some,Array.empty_append]
  simp
 ·have hlen:=uPre_len hpre
  refine (hvx.2 w (tagX T (ss.flatMap (SV.lnm E)) tag) (hvC T hv) _ (fun b=> ?_) (fun b hb=> ?_) (usS_ok hs hT hdj (fun k hk=>hk) hus hD h6) (fun i x hx=> ?_)).mono ?_
  ·rw[←hlen]
   exact tagX_cases b
  ·simp[tagX,hs.hi b hb]
  ·have hi:i<T.length:=by rw[hlen];exact (List.getElem?_eq_some_iff.1 hx).1
   have hp:T[i]? =some T[i]:=List.getElem?_eq_getElem hi
   obtain ⟨m,l,q1,q2,q3,e,cols,rfl⟩:=uPre_get hpre hp
   rw[hx] at q1
   cases q1
   have ev:hvC T hv [900+i]=hv T[i]:=by simp[hvC,plN_at hp]
   rw[ev]
   refine fwdX hT hp ?_
   cases l with
   |ls z rows=>exact at_own hs q2 q3
   |sc u=>
    exfalso
    obtain ⟨r,rest,hrr⟩:=plOk_cons (hT.2 _ (List.getElem_mem hi))
    rw[hrr] at q2 q3
    simp only[Env.at_,Env.vld] at q2 q3
    cases hx0:lkp E.rt r with
    |none=>rw[hx0] at q2;simp at q2
    |some x0=>
     rw[hx0] at q2 q3
     simp only[Option.bind_some] at q2
     obtain ⟨v',h9,_⟩:=VR.get rest _ _ _ _ _ _ (hs.rt r x0 hx0) q3 q2
     cases h9
  ·rintro e w' ⟨tag',hv',rv,rfl,hfr,hi',hrv⟩
   exact ⟨tag',hv',rv,rfl,hfr,hi',hrv⟩
theorem kUse_ok {K:Env→Prop} {o:Oper} {c:Call} {k:Nat} {as':List SV} {ms:List (Md×Lf)} {rs:List (Bool×ML)} (hs:St w0 tag0 E tag hv a w) (ho:o.op= .call c)
  {C:Prop} {as:List SV} {R0:List Nat} (hc:callO ti E c=some (C,k,as,R0)) (hvx:VX P k as' ms rs) (h:kUse ti c d o.dst K E as' ms rs):
  ∃vs:List Value,(execOp a.eval o).run P w= .ok (.enter k vs.toArray) w∧Calls P k vs.toArray w fun e w'=> ∃rv,e= .returned rv∧ ∃E' tg hh,St w0 tag0 E' tg hh a w'∧SR tg hh w' (resS d rs) rv∧K (E'.put o.dst (resS d rs)):=by
 unfold kUse at h
 split at h
 ·rename_i f hcf
  split at h
  ·rename_i k' ss h1 h2
   split at h
   ·rename_i D ss' hus
    obtain ⟨hD,rfl,hT,hdj,hd3,hpre,hR,hd,hK⟩:=h
    obtain ⟨vs,q1,q2⟩:=use_run hs ho hcf hc hvx h1 h2 hus hD hT hdj hpre
    refine ⟨vs,q1,q2.mono ?_⟩
    rintro e w' ⟨tag',hv',rv,rfl,hfr,hi',hrv⟩
    obtain ⟨tg,hh,h7,h8⟩:=hs.use hT hd hd3 hpre hfr hi' hR hrv
    exact ⟨rv,rfl,_,tg,hh,h7,h8,hK⟩
   ·exact h.elim
  ·exact h.elim
 ·exact h.elim
end Go.Sm
namespace Go.Sm
open Go.RowKit
set_option linter.unusedVariables false
set_option linter.unusedSimpArgs false
variable {P : Program} {ti : TT} {E : Env} {tag tag' tag0 : Nat → Tag} {hv hv' : Hv} {a : Act} {w w' w0 : World} {t d : Nat} {T : List Nat} {R : List Nat}
def Gh (E E':Env):Prop:= ∀w0 tag0 tag hv a w,St w0 tag0 E tag hv a w→ ∃tag' hv',St w0 tag0 E' tag' hv' a w
theorem Gh.refl (E:Env):Gh E E:=fun _ _ tag hv _ _ h=>⟨tag,hv,h⟩
theorem Gh.trans {E1 E2 E3:Env} (h:Gh E1 E2) (h':Gh E2 E3):Gh E1 E3:=fun w0 tag0 tag hv a w hs=>by
 obtain ⟨t1,h1,hs1⟩:=h w0 tag0 tag hv a w hs
 exact h' w0 tag0 t1 h1 a w hs1
theorem Gh.keep (E:Env) (vs:List Nat):Gh E (E.keep vs):=fun _ _ tag hv _ _ h=>⟨tag,hv,h.keep vs⟩
inductive BE where
 |rt (m:Md) (l:Lf)
 |bx (ls:List LV)
def BEok (tag:Nat→Tag) (hv:Hv) (w:World) (n:Nat):BE→Prop
 | .rt m l=>VR tag hv w [n] m l (hv [n])
 | .bx ls=> ∃k cur e,hv [n,0]= .pointer (some ⟨k,0,none⟩)∧tag k= .own [n,0]∧w.heap[k]? =some (.cells cur e (0,0))∧All2 (LR tag hv w) ls cur.toList
def bxR (bs:List (Nat×ML)):List (Bool×ML):=bs.map fun x=>(true,x.2)
def BxOk (hv:Hv) (tag':Nat→Tag) (w':World):List (Nat×ML)→List (Array Value)→Prop
 | [],[]=>True
 |(i,_)::r,c::cs=>(∃k e,hv [900+i,0]= .pointer (some ⟨k,0,none⟩)∧tag' k= .off∧w'.heap[k]? =some (.cells c e (0,0)))∧BxOk hv tag' w' r cs
 |_,_=>False
def usOk (rs:List (Bool×ML)) (us:List Value) (rv:Value):Prop:=(rs.length=1∧us= [rv])∨(rs.length≠1∧rv= .tuple us.toArray)
def VB (P:Program) (f:FuncId) (as:List SV) (ms:List BE) (Φ:List (Bool×ML)→List (Nat×ML)→Prop):Prop:=
 (∃fn c,P.funcs[f]? =some fn∧fn.body=some c∧(fn.name== "runtime.NumGoroutine")=false)∧
 ∀ (w:World) (tag:Nat→Tag) (hv:Hv) (vs:List Value),(∀b,tag b= .sh∨tag b= .off∨ ∃k rest,tag b= .own (k::rest)∧900≤k∧k<900+ms.length)→(∀b,w.heap.size≤b→tag b= .off)→All2 (SR tag hv w) as vs→
  (∀i x,ms[i]? =some x→BEok tag hv w (900+i) x)→
  Calls P f vs.toArray w fun e w'=> ∃rs bs tag' hv' rv us cs,Φ rs bs∧e= .returned rv∧Fr w tag tag' w'∧(∀b,w'.heap.size≤b→tag' b= .off)∧
   RVs tag' hv' w' 0 (rs++bxR bs) (us++cs.map fun c:Array Value=>Value.agg c)∧us.length=rs.length∧usOk rs us rv∧BxOk hv tag' w' bs cs
theorem VB.mono {f:FuncId} {as:List SV} {ms:List BE} {Φ Ψ:List (Bool×ML)→List (Nat×ML)→Prop} (h:VB P f as ms Φ) (hm: ∀rs bs,Φ rs bs→Ψ rs bs):VB P f as ms Ψ:=by
 refine ⟨h.1,fun w tag hv vs h1 h2 h3 h4=>(h.2 w tag hv vs h1 h2 h3 h4).mono ?_⟩
 rintro e w' ⟨rs,bs,tag',hv',rv,us,cs,h5,h6⟩
 exact ⟨rs,bs,tag',hv',rv,us,cs,hm _ _ h5,h6⟩
def sgl (T:List Nat):List (List Nat):=T.map fun r=> [r]
theorem sgl_ok (h:T.Nodup):hdsOk (sgl T):=by
 refine ⟨?_,fun p hp=> ?_⟩
 ·have:(sgl T).map hd0=T:=by simp[sgl,hd0,Function.comp_def]
  rw[this]
  exact h
 ·obtain ⟨r,_,rfl⟩:=List.mem_map.1 hp
  trivial
theorem sgl_at {i:Nat}:(sgl T)[i]? =T[i]?.map fun r=> [r]:=by simp[sgl]
def LV.ub (E:Env) (T:List Nat) (kn:Bool):LV→Option (Prop×LV)
 | .s l=>some (True,.s l)
 | .n z=>some (True,if kn=true then .n z else .s (.ls z []))
 | .u=>some (True,.u)
 | .r q=>match wh (sgl T) 900 q with
  |some (k,[])=>some (True,.r [k])
  |some _=>none
  |none=>match E.shL (.r q) with
   |some (C,l)=>some (C,.s l)
   |none=>none
def LV.ubs (E:Env) (T:List Nat) (kn:Bool):List LV→Option (Prop×List LV)
 | []=>some (True,[])
 |y::ys=>match y.ub E T kn,LV.ubs E T kn ys with
  |some (C,l),some (D,ls)=>some (C∧D,l::ls)
  |_,_=>none
def PV.ub (E:Env) (T:List Nat):PV→Option (Prop×PV)
 | .bx b off=>match wh (sgl T) 900 [b] with
  |some (k,[])=>some (True,.bx k off)
  |_=>match E.shP (.bx b off) with
   |some (C,ds)=>some (C,.ps ds)
   |none=>none
 | .pt p sz i off=>match wh (sgl T) 900 p with
  |some (k,[])=>some (True,.pt [k] sz i off)
  |_=>none
 | .ps ds=>some (True,.ps ds)
 | .vw _ _ _ _=>none
def PV.ubs (E:Env) (T:List Nat):List PV→Option (Prop×List PV)
 | []=>some (True,[])
 |y::r=>match y.ub E T,PV.ubs E T r with
  |some (C,l),some (D,ls)=>some (C∧D,l::ls)
  |_,_=>none
def SV.ub (E:Env) (T:List Nat):SV→Option (Prop×SV)
 | .v ag ls=>match LV.ubs E T false ls with
  |some (C,ls')=>some (C,.v ag ls')
  |none=>none
 | .p q=>match q.ub E T with
  |some (C,q')=>some (C,.p q')
  |none=>none
 | .fn k caps=>match PV.ubs E T caps with
  |some (C,caps')=>some (C,.fn k caps')
  |none=>none
 |_=>none
def SV.ubs (E:Env) (T:List Nat):List SV→Option (Prop×List SV)
 | []=>some (True,[])
 |y::r=>match y.ub E T,SV.ubs E T r with
  |some (C,l),some (D,ls)=>some (C∧D,l::ls)
  |_,_=>none
def LV.bn (T:List Nat):LV→List Nat
 | .r q=>if (wh (sgl T) 900 q).isSome=true then [] else LV.nm (.r q)
 |_=> []
def PV.bn (E:Env) (T:List Nat):PV→List Nat
 | .bx b off=>if (wh (sgl T) 900 [b]).isSome=true then [] else E.nmP (.bx b off)
 | .pt p sz i off=>if (wh (sgl T) 900 p).isSome=true then [] else E.nmP (.pt p sz i off)
 |q=>E.nmP q
def SV.bn (E:Env) (T:List Nat):SV→List Nat
 | .v _ ls=>ls.flatMap (LV.bn T)
 | .p q=>q.bn E T
 | .fn _ caps=>caps.flatMap (PV.bn E T)
 |_=> []
theorem wh_sgl {k:Nat} {q:List Nat} (h:wh (sgl T) 900 q=some (k,[])): ∃i r,T[i]? =some r∧k=900+i∧q= [r]:=by
 obtain ⟨i,p,h1,h2,h3⟩:=wh_eq h
 rw[sgl_at] at h1
 obtain ⟨r,h4,rfl⟩:=Option.map_eq_some_iff.1 h1
 exact ⟨i,r,h4,h2,by simpa using h3⟩
theorem hvC_sgl {i r:Nat} (h:T[i]? =some r) (q:List Nat):hvC (sgl T) hv ((900+i)::q)=hv (r::q):=by
 have:(sgl T)[i]? =some [r]:=by rw[sgl_at,h];rfl
 simp[hvC,plN_at this]
theorem LV.ub_ok {kn:Bool} {y y':LV} {C:Prop} {v:Value} (hs:St w0 tag0 E tag hv a w) (hT:T.Nodup) (hd: ∀r∈T,r∉R) (hR: ∀k∈y.bn T,k∈R) (h:y.ub E T kn=some (C,y')) (hC:C) (hy:LR tag hv w y v):LR (tagX (sgl T) R tag) (hvC (sgl T) hv) w y' v:=by
 have hdS: ∀p∈sgl T,hd0 p∉R:=fun p hp=>by
  obtain ⟨r,hr,rfl⟩:=List.mem_map.1 hp
  exact hd r hr
 cases y with
 |s l=>
  cases h
  exact VR.move hy [] (fun b hb=>⟨tagX_sh hb,rfl⟩) (fun rest hr=>by cases hr)
 |n z=>
  cases h
  have hv0:v= .slice none 0 0:=hy
  subst hv0
  cases kn with
  |true=>exact rfl
  |false=>exact VR.sh0
 |u=>
  cases h
  exact hy
 |r q=>
  simp only[LV.ub] at h
  split at h
  ·rename_i k hw
   cases h
   obtain ⟨i,r,h1,rfl,rfl⟩:=wh_sgl hw
   obtain ⟨h2,A,n,c,h3⟩:=hy
   exact ⟨by rw[hvC_sgl h1];exact h2,A,n,c,h3⟩
  ·cases h
  ·rename_i hw
   split at h
   ·rename_i C' l h1
    cases h
    have:=shL_ok (hv':=hv) hs h1 hC (fun k hk=>hR k (by simp[LV.bn,hw,hk])) hy
    exact VR.move this [] (fun b hb=>⟨tagX_lend (sgl_ok hT) hdS hb,rfl⟩) (fun rest hr=>by cases hr)
   ·cases h
theorem LV.ubs_ok {kn:Bool} (hs:St w0 tag0 E tag hv a w) (hT:T.Nodup) (hd: ∀r∈T,r∉R): ∀ {ys ys':List LV} {C:Prop} {vs:List Value},(∀k∈ys.flatMap (LV.bn T),k∈R)→LV.ubs E T kn ys=some (C,ys')→C→All2 (LR tag hv w) ys vs→All2 (LR (tagX (sgl T) R tag) (hvC (sgl T) hv) w) ys' vs
 | [],ys',C,vs,_,h,hC,hy=>by
  simp only[LV.ubs,Option.some.injEq,Prod.mk.injEq] at h
  obtain ⟨rfl,rfl⟩:=h
  cases hy
  exact .nil
 |y::q,ys',C,vs,hR,h,hC,hy=>by
  simp only[LV.ubs] at h
  split at h
  ·rename_i C1 l D ls h1 h2
   cases h
   cases hy with
   |cons h3 h4=>
    exact .cons (LV.ub_ok hs hT hd (fun k hk=>hR k (List.mem_flatMap.2 ⟨y,by simp,hk⟩)) h1 hC.1 h3) (LV.ubs_ok hs hT hd (fun k hk=>by
     obtain ⟨x,hx,hk⟩:=List.mem_flatMap.1 hk
     exact hR k (List.mem_flatMap.2 ⟨x,by simp[hx],hk⟩)) h2 hC.2 h4)
  ·cases h
theorem LV.ubs_len {kn:Bool}: ∀ {ys ys':List LV} {C:Prop},LV.ubs E T kn ys=some (C,ys')→ys'.length=ys.length
 | [],ys',C,h=>by
  simp only[LV.ubs,Option.some.injEq,Prod.mk.injEq] at h
  obtain ⟨rfl,rfl⟩:=h
  rfl
 |y::q,ys',C,h=>by
  simp only[LV.ubs] at h
  split at h
  ·rename_i C1 l D ls h1 h2
   cases h
   simp[LV.ubs_len h2]
  ·cases h
theorem PV.ub_ok {y y':PV} {C:Prop} {v:Value} (hs:St w0 tag0 E tag hv a w) (hT:T.Nodup) (hd: ∀r∈T,r∉R) (hR: ∀k∈y.bn E T,k∈R) (h:y.ub E T=some (C,y')) (hC:C) (hy:PR tag hv w y v):PR (tagX (sgl T) R tag) (hvC (sgl T) hv) w y' v:=by
 have hdS: ∀p∈sgl T,hd0 p∉R:=fun p hp=>by
  obtain ⟨r,hr,rfl⟩:=List.mem_map.1 hp
  exact hd r hr
 cases y with
 |ps ds=>
  cases h
  exact PR.ps_mono (fun b hb=>tagX_sh hb) hy
 |vw p sz lo n=>cases h
 |pt p sz i off=>
  simp only[PV.ub] at h
  split at h
  ·rename_i k hw
   cases h
   obtain ⟨j,r,h1,rfl,rfl⟩:=wh_sgl hw
   obtain ⟨b,n,c,h2,h3⟩:=hy
   exact ⟨b,n,c,by rw[hvC_sgl h1];exact h2,h3⟩
  ·cases h
 |bx b off=>
  simp only[PV.ub] at h
  split at h
  ·rename_i k hw
   cases h
   obtain ⟨j,r,h1,rfl,h2⟩:=wh_sgl hw
   cases h2
   obtain ⟨k,h2,h3⟩:=hy
   exact ⟨k,by rw[hvC_sgl h1];exact h2,h3⟩
  ·rename_i hw
   split at h
   ·rename_i C' ds h1
    cases h
    have hN:(wh (sgl T) 900 [b]).isSome≠true:=by
     intro hS
     obtain ⟨⟨k,rest⟩,h2⟩:=Option.isSome_iff_exists.1 hS
     obtain ⟨i,p,h3,h4,h5⟩:=wh_eq h2
     rw[sgl_at] at h3
     obtain ⟨r,_,rfl⟩:=Option.map_eq_some_iff.1 h3
     simp only[List.cons_append,List.nil_append,List.cons.injEq] at h5
     obtain ⟨rfl,rfl⟩:=h5
     exact hw k h2
    have:=shP_ok (hv':=hv) hs h1 hC (fun k hk=>hR k (by simp only[PV.bn];rw[if_neg hN];exact hk)) hy
    exact PR.ps_mono (fun b hb=>tagX_lend (sgl_ok hT) hdS hb) this
   ·cases h
theorem PV.ubs_ok (hs:St w0 tag0 E tag hv a w) (hT:T.Nodup) (hd: ∀r∈T,r∉R): ∀ {ys ys':List PV} {C:Prop} {vs:List Value},(∀k∈ys.flatMap (PV.bn E T),k∈R)→PV.ubs E T ys=some (C,ys')→C→All2 (PR tag hv w) ys vs→All2 (PR (tagX (sgl T) R tag) (hvC (sgl T) hv) w) ys' vs
 | [],ys',C,vs,_,h,hC,hy=>by
  simp only[PV.ubs,Option.some.injEq,Prod.mk.injEq] at h
  obtain ⟨rfl,rfl⟩:=h
  cases hy
  exact .nil
 |y::r,ys',C,vs,hR,h,hC,hy=>by
  simp only[PV.ubs] at h
  split at h
  ·rename_i C1 l D ls h1 h2
   cases h
   cases hy with
   |cons h3 h4=>
    exact .cons (PV.ub_ok hs hT hd (fun k hk=>hR k (List.mem_flatMap.2 ⟨y,by simp,hk⟩)) h1 hC.1 h3) (PV.ubs_ok hs hT hd (fun k hk=>by
     obtain ⟨x,hx,hk⟩:=List.mem_flatMap.1 hk
     exact hR k (List.mem_flatMap.2 ⟨x,by simp[hx],hk⟩)) h2 hC.2 h4)
  ·cases h
theorem SV.ub_ok {y y':SV} {C:Prop} {v:Value} (hs:St w0 tag0 E tag hv a w) (hT:T.Nodup) (hd: ∀r∈T,r∉R) (hR: ∀k∈y.bn E T,k∈R) (h:y.ub E T=some (C,y')) (hC:C) (hy:SR tag hv w y v):SR (tagX (sgl T) R tag) (hvC (sgl T) hv) w y' v:=by
 cases y with
 |v ag ls=>
  simp only[SV.ub] at h
  split at h
  ·rename_i C' ls' h1
   cases h
   obtain ⟨cs,h2,h3,h4⟩:=hy
   exact ⟨cs,h2,LV.ubs_ok hs hT hd hR h1 hC h3,fun hf=>by rw[LV.ubs_len h1];exact h4 hf⟩
  ·cases h
 |p q=>
  simp only[SV.ub] at h
  split at h
  ·rename_i C' q' h1
   cases h
   exact PV.ub_ok hs hT hd hR h1 hC hy
  ·cases h
 |fn k caps=>
  simp only[SV.ub] at h
  split at h
  ·rename_i C' q' h1
   cases h
   obtain ⟨vs,h2,h3⟩:=hy
   exact ⟨vs,h2,PV.ubs_ok hs hT hd hR h1 hC h3⟩
  ·cases h
 |_=>cases h
theorem SV.ubs_ok (hs:St w0 tag0 E tag hv a w) (hT:T.Nodup) (hd: ∀r∈T,r∉R): ∀ {ys ys':List SV} {C:Prop} {vs:List Value},(∀k∈ys.flatMap (SV.bn E T),k∈R)→SV.ubs E T ys=some (C,ys')→C→All2 (SR tag hv w) ys vs→All2 (SR (tagX (sgl T) R tag) (hvC (sgl T) hv) w) ys' vs
 | [],ys',C,vs,_,h,hC,hy=>by
  simp only[SV.ubs,Option.some.injEq,Prod.mk.injEq] at h
  obtain ⟨rfl,rfl⟩:=h
  cases hy
  exact .nil
 |y::r,ys',C,vs,hR,h,hC,hy=>by
  simp only[SV.ubs] at h
  split at h
  ·rename_i C1 l D ls h1 h2
   cases h
   cases hy with
   |cons h3 h4=>
    exact .cons (SV.ub_ok hs hT hd (fun k hk=>hR k (List.mem_flatMap.2 ⟨y,by simp,hk⟩)) h1 hC.1 h3) (SV.ubs_ok hs hT hd (fun k hk=>by
     obtain ⟨x,hx,hk⟩:=List.mem_flatMap.1 hk
     exact hR k (List.mem_flatMap.2 ⟨x,by simp[hx],hk⟩)) h2 hC.2 h4)
  ·cases h
def bPre (E:Env) (T0:List Nat):List Nat→List BE→Prop
 | [],[]=>True
 |r::T,.rt m l::ms=>lkp E.rt r=some (m,l)∧bPre E T0 T ms
 |b::T,.bx ls::ms=>(match lkp E.bx b with
  |some ls0=>(match LV.ubs E T0 true ls0 with
   |some (C,ls')=>C∧ls=ls'
   |none=>False)
  |none=>False)∧bPre E T0 T ms
 |_,_=>False
def bxN (E:Env) (T0:List Nat):List Nat→List BE→List Nat
 |b::T,.bx _::ms=>(match lkp E.bx b with
  |some ls0=>ls0.flatMap (LV.bn T0)
  |none=> [])++bxN E T0 T ms
 |_::T,_::ms=>bxN E T0 T ms
 |_,_=> []
theorem bPre_len: ∀ {T0 T:List Nat} {ms:List BE},bPre E T0 T ms→T.length=ms.length
 |_,[],[],_=>rfl
 |_,[],_::_,h=>by simp[bPre] at h
 |_,_::_,[],h=>by simp[bPre] at h
 |_,_::_,.rt _ _::_,h=>by simp[bPre_len h.2]
 |_,_::_,.bx _::_,h=>by simp[bPre_len h.2]
theorem bPre_ok {T0:List Nat} (hs:St w0 tag0 E tag hv a w) (hT:T0.Nodup) (hd: ∀r∈T0,r∉R): ∀ {T:List Nat} {ms:List BE} {n:Nat},bPre E T0 T ms→(∀k∈bxN E T0 T ms,k∈R)→(∀i r,T[i]? =some r→T0[n+i]? =some r)→
  ∀i x,ms[i]? =some x→BEok (tagX (sgl T0) R tag) (hvC (sgl T0) hv) w (900+(n+i)) x
 | [],[],_,_,_,_,i,x,hx=>by simp at hx
 | [],_::_,_,h,_,_,_,_,_=>by simp[bPre] at h
 |_::_,[],_,h,_,_,_,_,_=>by simp[bPre] at h
 |r::T,.rt m l::ms,n,h,hN,hg,0,x,hx=>by
  simp only[List.getElem?_cons_zero,Option.some.injEq] at hx
  subst hx
  have hr:T0[n]? =some r:=hg 0 r rfl
  have hp:(sgl T0)[n]? =some [r]:=by rw[sgl_at,hr];rfl
  have:=fwdX (R:=R) (sgl_ok hT) hp (hs.rt r _ h.1)
  show VR _ _ w [900+n] m l (hvC (sgl T0) hv [900+n])
  rw[hvC_sgl hr []]
  exact this
 |b::T,.bx ls::ms,n,h,hN,hg,0,x,hx=>by
  simp only[List.getElem?_cons_zero,Option.some.injEq] at hx
  subst hx
  have hr:T0[n]? =some b:=hg 0 b rfl
  have hp:(sgl T0)[n]? =some [b]:=by rw[sgl_at,hr];rfl
  obtain ⟨h1,_⟩:=h
  split at h1
  ·rename_i ls0 hb
   split at h1
   ·rename_i C ls' hu
    obtain ⟨hC,rfl⟩:=h1
    obtain ⟨k,cur,e,h2,h3,h4,h5⟩:=hs.bx b ls0 hb
    refine ⟨k,cur,e,by rw[show 900+(n+0)=900+n from rfl,hvC_sgl hr [0]];exact h2, ?_,h4,LV.ubs_ok hs hT hd (fun q hq=>hN q ?_) hu hC h5⟩
    ·have:=wh_app (n:=900) (rest:= [0]) (sgl_ok hT) hp
     simp only[List.cons_append,List.nil_append] at this
     simp[tagX,h3,this]
    ·simp only[bxN,hb]
     exact List.mem_append_left _ hq
   ·exact h1.elim
  ·exact h1.elim
 |r::T,.rt m l::ms,n,h,hN,hg,i+1,x,hx=>by
  simp only[List.getElem?_cons_succ] at hx
  have:=bPre_ok hs hT hd (n:=n+1) h.2 (fun k hk=>hN k (by simpa [bxN] using hk)) (fun i r hi=>by
   rw[show n+1+i=n+(i+1) by omega]
   exact hg (i+1) r (by simpa using hi)) i x hx
  rwa [show n+1+i=n+(i+1) by omega] at this
 |b::T,.bx ls::ms,n,h,hN,hg,i+1,x,hx=>by
  simp only[List.getElem?_cons_succ] at hx
  have:=bPre_ok hs hT hd (n:=n+1) h.2 (fun k hk=>hN k (by simp only[bxN];exact List.mem_append_right _ hk)) (fun i r hi=>by
   rw[show n+1+i=n+(i+1) by omega]
   exact hg (i+1) r (by simpa using hi)) i x hx
  rwa [show n+1+i=n+(i+1) by omega] at this
def memN:List Nat→Nat→Bool
 | [],_=>false
 |k::r,x=>k==x||memN r x
theorem memN_iff {l:List Nat} {x:Nat}:memN l x=true↔x∈l:=by
 induction l with
 |nil=>simp[memN]
 |cons k r ih=>simp only[memN,Bool.or_eq_true,beq_iff_eq,ih,List.mem_cons,eq_comm (a:=k)]
def bsN (T:List Nat) (bs:List (Nat×ML)):List Nat:=bs.map fun x=>T.getD x.1 0
def cellsN (rs:List (Bool×ML)):Nat:=(rs.map fun x=>x.2.length).sum
def newBx (d:Nat) (T:List Nat):Nat→List (Nat×ML)→List (Nat×List LV)
 |_,[]=> []
 |n,(i,ml)::r=>(T.getD i 0,resL d n ml)::newBx d T (n+ml.length) r
def killB (d:Nat) (T:List Nat) (bs:List (Nat×ML)):Nat→Bool:=fun r=>fam d r||(memN T r&& !memN (bsN T bs) r)
def Env.boxE (E : Env) (d : Nat) (T : List Nat) (rs : List (Bool × ML)) (bs : List (Nat × ML)) : Env :=
  { E with sl := E.sl.map (fun x => (x.1, x.2.ct (killB d T bs) [])),
           bx := newBx d T (cellsN rs) bs ++ (delD E.bx fun b => fam d b || memN T b).map (fun x => (x.1, x.2.map (LV.ct (killB d T bs) []))),
           rt := resRs d 0 (rs ++ bxR bs) ++ delD E.rt fun r => fam d r || memN T r }
def bsOk (d:Nat) (E:Env) (T:List Nat):List (Nat×ML)→Prop
 | []=>True
 |(i,_)::r=>(match T[i]? with
  |some b=>fam d b=false∧(lkp E.bx b).isSome=true
  |none=>False)∧bsOk d E T r
theorem bsOk_at: ∀ {bs:List (Nat×ML)},bsOk d E T bs→ ∀x∈bs,∃b,T[x.1]? =some b∧T.getD x.1 0=b∧fam d b=false∧ ∃ls,lkp E.bx b=some ls
 | [],_,x,hx=>by cases hx
 |(i,ml)::r,h,x,hx=>by
  rcases List.mem_cons.1 hx with rfl|hx
  ·have h1:=h.1
   split at h1
   ·rename_i b hb
    exact ⟨b,hb,by simp[List.getD_eq_getElem?_getD,hb],h1.1,Option.isSome_iff_exists.1 h1.2⟩
   ·exact h1.elim
  ·exact bsOk_at h.2 x hx
section
variable {Rk : Nat → Bool} (hsh : ∀ b, tag b = .sh → tag' b = .sh ∧ w'.heap[b]? = w.heap[b]?) (hhv : ∀ q, dth Rk [] q = false → hv' q = hv q)
include hsh
theorem VR.sh_mv {p p':List Nat} {l:Lf} {v:Value} (h:VR tag hv w p .s l v):VR tag' hv' w' p' .s l v:=h.move _ hsh (fun rest hr=>by cases hr)
include hhv
theorem LR.sh_mv {l:LV} {v:Value} (h:LR tag hv w l v):LR tag' hv' w' (l.ct Rk []) v:=by
 cases l with
 |s l=>exact VR.sh_mv hsh h
 |n z=>exact h
 |u=>exact h
 |r p=>
  obtain ⟨h1,A,n,c,h2⟩:=h
  simp only[LV.ct]
  split
  ·rw[h2];rfl
  ·rename_i hne
   exact ⟨by rw[hhv p (by simpa using hne)];exact h1,A,n,c,h2⟩
theorem VV.sh_mv {ag:Bool} {ls:List LV} {v:Value} (h:VV tag hv w ag ls v):VV tag' hv' w' ag (ls.map (LV.ct Rk [])) v:=by
 obtain ⟨cs,h1,h2,h3⟩:=h
 exact ⟨cs,h1,(h2.imp fun _ _ h=>LR.sh_mv hsh hhv h).map_left,by simpa using h3⟩
theorem PR.sh_mv {q:PV} {v:Value} (h:PR tag hv w q v) (hq:q.ct Rk []=false):PR tag' hv' w' q v:=by
 cases q with
 |pt p sz i off=>
  obtain ⟨b,n,c,h1,h2⟩:=h
  refine ⟨b,n,c, ?_,h2⟩
  rw[hhv p hq]
  exact h1
 |vw p sz lo n=>
  simp only[PR]
  rw[hhv p hq]
  exact h
 |bx b off=>
  obtain ⟨k,h1,h2⟩:=h
  refine ⟨k, ?_,h2⟩
  rw[hhv [b,0] hq]
  exact h1
 |ps ds=>
  obtain ⟨b,off,h1,h2,h3⟩:=h
  refine ⟨b,off,h1,(hsh b h2).1,fun j hj=> ?_⟩
  obtain ⟨u,hu,hr⟩:=h3 j hj
  refine ⟨u, ?_,VR.sh_mv hsh hr⟩
  rw[World.cell?_of_block (w:=w) ((hsh b h2).2)]
  exact hu
theorem SR.sh_mv: ∀ {sv:SV} {v:Value},SR tag hv w sv v→SR tag' hv' w' (sv.ct Rk []) v
 | .dead,_,_=>trivial
 | .v ag ls,v,h=>VV.sh_mv hsh hhv h
 | .tu parts,v,h=>by
  obtain ⟨vs,h1,h2⟩:=h
  exact ⟨vs,h1,All2.map_left (h2.imp fun q u h=>VV.sh_mv hsh hhv h)⟩
 | .p q,v,h=>by
  simp only[SV.ct]
  split
  ·trivial
  ·rename_i hq
   exact PR.sh_mv hsh hhv h (by simpa using hq)
 | .fn k caps,v,h=>by
  simp only[SV.ct]
  split
  ·trivial
  ·rename_i hq
   obtain ⟨vs,h1,h2⟩:=h
   refine ⟨vs,h1, ?_⟩
   simp only[List.any_eq_true,not_exists,not_and,Bool.not_eq_true] at hq
   clear h1
   induction h2 with
   |nil=>exact .nil
   |cons h hs ih=>exact .cons (PR.sh_mv hsh hhv h (hq _ (by simp))) (ih fun x hx=>hq x (by simp[hx]))
 | .g c s,v,h=>⟨fun hc=>SR.sh_mv (h.1 hc),h.2⟩
 | .pin r q x,v,h=>by
  simp only[SV.ct]
  split
  ·trivial
  ·rename_i hr
   exact (hhv (r::q) (by simpa using hr)).trans h
end
theorem resPs_app (d:Nat): ∀ (ps qs:List (Bool×ML)) (n:Nat),resPs d n (ps++qs)=resPs d n ps++resPs d (n+cellsN ps) qs
 | [],qs,n=>by simp[resPs,cellsN]
 |(ag,ml)::r,qs,n=>by
  simp only[List.cons_append,resPs,resPs_app d r qs,cellsN,List.map_cons,List.sum_cons,←Nat.add_assoc]
theorem resPs_len (d:Nat): ∀ (ps:List (Bool×ML)) (n:Nat),(resPs d n ps).length=ps.length
 | [],_=>rfl
 |(ag,ml)::r,n=>by simp[resPs,resPs_len d r]
theorem All2.app {α β:Type} {R:α→β→Prop}: ∀ {as as':List α} {bs bs':List β},All2 R (as++as') (bs++bs')→as.length=bs.length→All2 R as bs∧All2 R as' bs'
 | [],_,[],_,h,_=>⟨.nil,h⟩
 | [],_,_::_,_,_,hl=>by simp at hl
 |_::_,_,[],_,_,hl=>by simp at hl
 |x::as,as',y::bs,bs',h,hl=>by
  simp only[List.cons_append] at h
  cases h with
  |cons h1 h2=>
   obtain ⟨h3,h4⟩:=All2.app h2 (by simpa using hl)
   exact ⟨.cons h1 h3,h4⟩
theorem newBx_ok {tn:Nat→Tag} {hn:Hv}: ∀ {bs:List (Nat×ML)} {cs:List (Array Value)} {n:Nat},All2 (fun (q:Bool×List LV) u=>VV tn hn w' q.1 q.2 u) (resPs d n (bxR bs)) (cs.map fun c:Array Value=>Value.agg c)→BxOk hv tag' w' bs cs→
  ∀b ls,lkp (newBx d T n bs) b=some ls→ ∃i k c e,(∃ml,(i,ml)∈bs)∧T.getD i 0=b∧hv [900+i,0]= .pointer (some ⟨k,0,none⟩)∧tag' k= .off∧w'.heap[k]? =some (.cells c e (0,0))∧All2 (LR tn hn w') ls c.toList
 | [],_,_,_,_,b,ls,hl=>by simp[newBx,lkp] at hl
 |(i,ml)::r,[],_,h,_,_,_,_=>by
  simp only[bxR,List.map_cons,resPs,List.map_nil] at h
  cases h
 |(i,ml)::r,c::cs,n,h,hb,b,ls,hl=>by
  simp only[bxR,List.map_cons,resPs] at h
  cases h with
  |cons h1 h2=>
   obtain ⟨⟨k,e,h3,h4,h5⟩,h6⟩:=hb
   simp only[newBx,lkp] at hl
   split at hl
   ·rename_i he
    cases hl
    obtain ⟨cells,q1,q2,_⟩:=h1
    have:c.toList=cells:=by
     simp only[mkV,Value.agg.injEq] at q1
     rw[q1]
    exact ⟨i,k,c,e,⟨ml,by simp⟩,he,h3,h4,h5,by rw[this];exact q2⟩
   ·obtain ⟨i',k',c',e',⟨ml',hm⟩,hh⟩:=newBx_ok h2 h6 b ls hl
    exact ⟨i',k',c',e',⟨ml',by simp[hm]⟩,hh⟩
def isBx (B:List Nat):Tag→Bool
 | .own [b,0]=>memN B b
 |_=>false
theorem isBx_eq {B:List Nat} {s:Tag} (h:isBx B s=true): ∃b,s= .own [b,0]∧b∈B:=by
 unfold isBx at h
 split at h
 ·exact ⟨_,rfl,memN_iff.1 h⟩
 ·cases h
def tagW (T B:List Nat) (sz d:Nat) (tag tag':Nat→Tag):Nat→Tag:=fun b=>
 if b<sz∧(nmB (sgl T) (tag b)=true∨isBx B (tag b)=true) then tag b else match tag' b with
  | .own (r::rest)=> .own ((d+1000*r)::rest)
  | .own []=> .off
  |s=>s
theorem nmB_sgl {s:Tag} {r:Nat} {q:List Nat} (hs:s= .own (r::q)) (h:r∉T):nmB (sgl T) s=true:=by
 subst hs
 simp only[nmB]
 have:wh (sgl T) 900 (r::q)=none:=wh_none (fun p hp=>by
  obtain ⟨x,_,rfl⟩:=List.mem_map.1 hp
  trivial) (fun p hp e=>by
  obtain ⟨x,hx,rfl⟩:=List.mem_map.1 hp
  simp only[hd0] at e
  exact h (e▸hx))
 rw[this]
 rfl
theorem St.boxU {rs:List (Bool×ML)} {bs:List (Nat×ML)} {us:List Value} {cs:List (Array Value)} {rv:Value} (hs:St w0 tag0 E tag hv a w) (hone: ∀b q,tag b= .own q→pl (hv q)=some b) (hT:T.Nodup) (hd:d<1000)
  (hbs:bsOk d E T bs) (hfr:Fr w (tagX (sgl T) R tag) tag' w') (hi': ∀b,w'.heap.size≤b→tag' b= .off) (hR:R= []∨OwRs (rs++bxR bs))
  (hrvs:RVs tag' hv' w' 0 (rs++bxR bs) (us++cs.map fun c:Array Value=>Value.agg c)) (hul:us.length=rs.length) (hrv:usOk rs us rv) (hbx:BxOk (hvC (sgl T) hv) tag' w' bs cs):
  ∃tg hh,St w0 tag0 (E.boxE d T rs bs) tg hh a w'∧SR tg hh w' (resS d rs) rv:=by
 have hoff: ∀b',isBx (bsN T bs) (tag b')=true→tag' b'= .off:=by
  intro b' hb'
  obtain ⟨b,h1,h2⟩:=isBx_eq hb'
  obtain ⟨x,hx,rfl⟩:=List.mem_map.1 h2
  obtain ⟨b0,h3,h4,_⟩:=bsOk_at hbs x hx
  rw[h4] at h1
  have h5:=hone _ _ h1
  have key: ∀ {bs:List (Nat×ML)} {cs:List (Array Value)},BxOk (hvC (sgl T) hv) tag' w' bs cs→ ∀x∈bs,∃k,hvC (sgl T) hv [900+x.1,0]= .pointer (some ⟨k,0,none⟩)∧tag' k= .off:=by
   intro bs
   induction bs with
   |nil=>intro cs _ x hx;cases hx
   |cons y r ih=>
    intro cs h x hx
    cases cs with
    |nil=>simp[BxOk] at h
    |cons c cs=>
     obtain ⟨i,ml⟩:=y
     obtain ⟨⟨k,e,q1,q2,q3⟩,q4⟩:=h
     rcases List.mem_cons.1 hx with rfl|hx
     ·exact ⟨k,q1,q2⟩
     ·exact ih q4 x hx
  obtain ⟨k,h6,h7⟩:=key hbx x hx
  rw[hvC_sgl h3 [0]] at h6
  rw[h6] at h5
  simp only[pl,Option.some.injEq] at h5
  rw[←h5]
  exact h7
 have hkeep: ∀b,b<w.heap.size→nmB (sgl T) (tag b)=true→w'.heap[b]? =w.heap[b]? ∧tagW T (bsN T bs) w.heap.size d tag tag' b=tag b:=fun b hb hn=>
  ⟨(hfr.heap b hb (tagX_nm hn)).1,by simp[tagW,hb,hn]⟩
 have H: ∀b rest,hvN hv hv' d ((d+1000*b)::rest)=hv' (b::rest)∧ ∀b',tag' b'= .own (b::rest)→tagW T (bsN T bs) w.heap.size d tag tag' b'= .own ((d+1000*b)::rest):=by
  intro b rest
  refine ⟨hvN_new hd b rest,fun b' hb'=> ?_⟩
  simp only[tagW]
  split
  ·rename_i hc
   rcases hc.2 with hc2|hc2
   ·have h1:=(hfr.heap b' hc.1 (tagX_nm hc2)).2
    rcases tagX_nm (R:=R) hc2 with h2|h2<;>rw[h1,h2] at hb'<;>cases hb'
   ·rw[hoff b' hc2] at hb'
    cases hb'
  ·rw[hb']
 have hSh:(∀b',tag' b'= .sh→tagW T (bsN T bs) w.heap.size d tag tag' b'= .sh)∨OwRs (rs++bxR bs):=by
  refine hR.imp (fun hR b' hb'=> ?_) id
  simp only[tagW]
  split
  ·rename_i hc
   rcases hc.2 with hc2|hc2
   ·have h1:=(hfr.heap b' hc.1 (tagX_nm hc2)).2
    rw[hb'] at h1
    exact tagX_nm0 hR hc2 h1.symm
   ·rw[hoff b' hc2] at hb'
    cases hb'
  ·rw[hb']
 have hsh: ∀b,tag b= .sh→tagW T (bsN T bs) w.heap.size d tag tag' b= .sh∧w'.heap[b]? =w.heap[b]? :=by
  intro b hb
  have hlt:b<w.heap.size:=by
   rcases Nat.lt_or_ge b w.heap.size with hlt|hge
   ·exact hlt
   ·rw[hs.hi b hge] at hb;cases hb
  have:=hkeep b hlt (by simp[nmB,hb])
  exact ⟨this.2.trans hb,this.1⟩
 have hhv: ∀q,dth (killB d T bs) [] q=false→hvN hv hv' d q=hv q:=by
  intro q hq
  cases q with
  |nil=>simp[dth] at hq
  |cons r q=>
   simp only[dth,killB,Bool.or_eq_false_iff] at hq
   simp[hvN,hq.1.1]
 obtain ⟨h4,h5⟩:=rPs H hSh hrvs
 rw[resPs_app] at h4
 have h4':=h4.app (by rw[resPs_len,hul])
 refine ⟨tagW T (bsN T bs) w.heap.size d tag tag',hvN hv hv' d,⟨hs.nt,hs.df,fun t sv h=> ?_,fun b ls h=> ?_,fun r x h=> ?_, ?_,fun b hb=> ?_⟩, ?_⟩
 ·simp only[Env.boxE,lkp_map] at h
  obtain ⟨sv0,h1,rfl⟩:=Option.map_eq_some_iff.1 h
  exact SR.sh_mv hsh hhv (hs.sl t sv0 h1)
 ·simp only[Env.boxE,lkp_app] at h
  split at h
  ·rename_i z hz
   cases h
   obtain ⟨i,k,c,e,⟨ml,hm⟩,q1,q2,q3,q4,q5⟩:=newBx_ok (n:=cellsN rs) (by simpa using h4'.2) hbx b ls hz
   obtain ⟨b0,g1,g2,g3,ls0,g4⟩:=bsOk_at hbs _ hm
   simp only at g1 g2
   rw[q1] at g2
   subst g2
   obtain ⟨k',cur,e',p1,p2,p3,p4⟩:=hs.bx b ls0 g4
   rw[hvC_sgl g1 [0],p1] at q2
   cases q2
   refine ⟨k,c,e, ?_, ?_,q4,q5⟩
   ·simp[hvN,g3,p1]
   ·have hk:k<w.heap.size:=by
     rcases Nat.lt_or_ge k w.heap.size with hlt|hge
     ·exact hlt
     ·rw[Array.getElem?_eq_none hge] at p3;cases p3
    have hB:isBx (bsN T bs) (tag k)=true:=by
     rw[p2]
     exact memN_iff.2 (List.mem_map.2 ⟨_,hm,q1⟩)
    simp only[tagW]
    rw[if_pos ⟨hk,.inr hB⟩,p2]
  ·rw[lkp_map,lkp_delD] at h
   obtain ⟨ls0,h1,rfl⟩:=Option.map_eq_some_iff.1 h
   split at h1
   ·cases h1
   ·rename_i hne
    simp only[Bool.not_eq_true,Bool.or_eq_false_iff] at hne
    have hbT:b∉T:=fun hm=>by rw[memN_iff.2 hm] at hne;exact absurd hne.2 (by simp)
    obtain ⟨k,cur,e,p1,p2,p3,p4⟩:=hs.bx b ls0 h1
    have hk:k<w.heap.size:=by
     rcases Nat.lt_or_ge k w.heap.size with hlt|hge
     ·exact hlt
     ·rw[Array.getElem?_eq_none hge] at p3;cases p3
    have h6:=hkeep k hk (nmB_sgl p2 hbT)
    refine ⟨k,cur,e, ?_,h6.2.trans p2,h6.1.trans p3,(p4.imp fun _ _ h=>LR.sh_mv hsh hhv h).map_left⟩
    simp[hvN,hne.1,p1]
 ·rcases lkp_append _ _ _ _ h with ⟨z,hz,rfl⟩|h
  ·exact h5 _ hz
  ·rw[lkp_delD] at h
   split at h
   ·cases h
   ·rename_i hne
    simp only[Bool.not_eq_true,Bool.or_eq_false_iff] at hne
    have hrT:r∉T:=fun hm=>by rw[memN_iff.2 hm] at hne;exact absurd hne.2 (by simp)
    have ev: ∀q,hvN hv hv' d (r::q)=hv (r::q):=fun q=>by simp[hvN,hne.1]
    rw[ev []]
    refine (hs.rt r x h).move _ (fun b hb=>hsh b hb) (fun rest _=>⟨ev rest,fun b hb=> ?_⟩)
    have hlt:b<w.heap.size:=by
     rcases Nat.lt_or_ge b w.heap.size with hlt|hge
     ·exact hlt
     ·rw[hs.hi b hge] at hb;cases hb
    have h6:=hkeep b hlt (nmB_sgl hb hrT)
    exact ⟨h6.2.trans hb,h6.1⟩
 ·refine hs.fr.step hfr.os hfr.tape hfr.output hfr.size fun b hb hq=> ?_
  exact hkeep b hb (by rcases hq with hq|hq<;>simp[nmB,hq])
 ·have hlt: ¬b<w.heap.size:=by have:=hfr.size;omega
  simp[tagW,hlt,hi' b hb]
 ·unfold resS
  split
  ·rename_i ag ml
   rcases hrv with ⟨_,rfl⟩|⟨h5,_⟩
   ·have:=h4'.1
    simp only[resPs] at this
    cases this with
    |cons h hs=>exact h
   ·simp at h5
  ·rename_i h9
   rcases hrv with ⟨h5,_⟩|⟨_,rfl⟩
   ·match rs,h5,h9 with
    | [(ag,ml)],_,h9=>exact absurd rfl (h9 ag ml)
   ·exact ⟨us,rfl,h4'.1⟩
def kBox (ti:TT) (c:Call) (d:Nat) (dst:Option Nat) (K:Env→Prop) (E:Env) (k:Nat) (T:List Nat) (as':List SV) (ms:List BE) (Φ:List (Bool×ML)→List (Nat×ML)→Prop):Prop:=
 match c.callee with
 | .value f=>match opd ti E 0 f,argsO ti E c.args.toList c.argTypes.toList with
  |some (.fn k' caps),some ss=>match SV.ubs E T (ss++caps.map SV.p) with
   |some (C,ss')=>C∧k=k'∧as'=ss'∧T.Nodup∧(∀r∈T,r∉ (ss++caps.map SV.p).flatMap (SV.bn E T)++bxN E T T ms)∧bPre E T T ms∧d<1000∧
    ∀rs bs,Φ rs bs→bsOk d E T bs∧((ss++caps.map SV.p).flatMap (SV.bn E T)++bxN E T T ms= []∨OwRs (rs++bxR bs))∧K ((E.boxE d T rs bs).put dst (resS d rs))
   |none=>False
  |_,_=>False
 |_=>False
theorem caps_ok: ∀ {caps:List PV} {vs:List Value},All2 (PR tag hv w) caps vs→All2 (SR tag hv w) (caps.map SV.p) vs
 | [],_,h=>by cases h;exact .nil
 |_::_,_,h=>by
  cases h with
  |cons h1 h2=>exact .cons h1 (caps_ok h2)
theorem All2.app2 {α β:Type} {R:α→β→Prop} {as as':List α} {bs bs':List β} (h:All2 R as bs) (h':All2 R as' bs'):All2 R (as++as') (bs++bs'):=by
 induction h with
 |nil=>exact h'
 |cons h1 _ ih=>exact .cons h1 ih
theorem kBox_ok {K:Env→Prop} {o:Oper} {c:Call} {k:Nat} {as':List SV} {ms:List BE} {Φ:List (Bool×ML)→List (Nat×ML)→Prop} (hs:St w0 tag0 E tag hv a w) (ho:o.op= .call c)
  (hvb:VB P k as' ms Φ) (h:kBox ti c d o.dst K E k T as' ms Φ):
  ∃vs:List Value,(execOp a.eval o).run P w= .ok (.enter k vs.toArray) w∧Calls P k vs.toArray w fun e w'=> ∃rv sv,e= .returned rv∧ ∃E' tg hh,St w0 tag0 E' tg hh a w'∧SR tg hh w' sv rv∧K (E'.put o.dst sv):=by
 obtain ⟨callee,args,ats⟩:=c
 unfold kBox at h
 simp only at h
 split at h
 ·rename_i f
  split at h
  ·rename_i k' caps ss h1 h2
   split at h
   ·rename_i C ss' hub
    obtain ⟨hC,rfl,rfl,hT,hdj,hpre,hd,hK⟩:=h
    replace hs:=hs.norm
    have hone: ∀b q,normT tag hv b= .own q→pl (hv q)=some b:=fun b q h=>(normT_own h).2
    generalize normT tag hv=tag at hs hone
    obtain ⟨cs,h4,h5⟩:=opd_ok hs h1
    have h6:=argsO_ok hs h2
    have h7:=h6.app2 (caps_ok h5)
    refine ⟨args.toList.map a.eval++cs, ?_, ?_⟩
    ·obtain ⟨fn,b,q1,q2,q3⟩:=hvb.1
     have q4:args.map a.eval=(args.toList.map a.eval).toArray:=by
      apply Array.ext'
      simp
     simp only[execOp,ho,resolve,Sem.run_bind,h4,Deferred.ofValue,Sem.run_pure,Result.andThen_ok,invoke,callFunc,run_program,q1,q3,Bool.false_eq_true,if_false,q2,Option.isNone_some,Array.empty_append]
     simp
    ·have hlen:=bPre_len hpre
     refine (hvb.2 w (tagX (sgl T) ((ss++caps.map SV.p).flatMap (SV.bn E T)++bxN E T T ms) tag) (hvC (sgl T) hv) _ (fun b=> ?_) (fun b hb=> ?_) (SV.ubs_ok hs hT hdj (fun q hq=>List.mem_append_left _ hq) hub hC h7) (fun i x hx=> ?_)).mono ?_
     ·rw[←hlen]
      have:=tagX_cases (T:=sgl T) (R:=(ss++caps.map SV.p).flatMap (SV.bn E T)++bxN E T T ms) (tag:=tag) b
      simpa [sgl] using this
     ·simp[tagX,hs.hi b hb]
     ·have:=bPre_ok hs hT hdj (n:=0) hpre (fun q hq=>List.mem_append_right _ hq) (fun i r hi=>by simpa using hi) i x hx
      simpa using this
     ·rintro e w' ⟨rs,bs,tag',hv',rv,us,cs',hΦ,rfl,hfr,hi',hrvs,hul,hrv,hbx⟩
      obtain ⟨g1,g2,g3⟩:=hK rs bs hΦ
      obtain ⟨tg,hh,g4,g5⟩:=hs.boxU hone hT hd g1 hfr hi' g2 hrvs hul hrv hbx
      exact ⟨rv,_,rfl,_,tg,hh,g4,g5,g3⟩
   ·exact h.elim
  ·exact h.elim
 ·exact h.elim
def kBx (ti:TT) (c:Call) (d:Nat) (dst:Option Nat) (K:Env→Prop) (E:Env) (oE:Option Env) (k:Nat) (T:List Nat) (as':List SV) (ms:List BE) (Φ:List (Bool×ML)→List (Nat×ML)→Prop):Prop:=
 match oE with
 |none=>kBox ti c d dst K E k T as' ms Φ
 |some E0=>Gh E E0∧kBox ti c d dst K E0 k T as' ms Φ
abbrev BK:=Option Env→Nat→List Nat→List SV→List BE→(List (Bool×ML)→List (Nat×ML)→Prop)→Prop
def CallB (P:Program) (B:BK):Prop:= ∃oE k T as' ms Φ,VB P k as' ms Φ∧B oE k T as' ms Φ
def VN (P:Program) (f:FuncId) (as:List SV) (Φ:List Lf→Prop):Prop:=
 (∃fn c,P.funcs[f]? =some fn∧fn.body=some c∧(fn.name== "runtime.NumGoroutine")=false)∧
 ∀ (w:World) (tag:Nat→Tag) (hv:Hv) (vs:List Value),(∀b,tag b= .sh∨tag b= .off)→(∀b,w.heap.size≤b→tag b= .off)→All2 (SR tag hv w) as vs→
  Calls P f vs.toArray w fun e w'=> ∃ls tag' hv' k cur T,Φ ls∧e= .returned (.pointer (some ⟨k,0,none⟩))∧Fr w tag tag' w'∧(∀b,w'.heap.size≤b→tag' b= .off)∧w.heap.size≤k∧tag' k= .off∧
   w'.heap[k]? =some (.cells cur T (0,0))∧All2 (fun l v=>VR tag' hv' w' [] .s l v) ls cur.toList
theorem St.newPt {ls:List Lf} {cur:Array Value} {k:Nat} {T:TypeId} (hs:St w0 tag0 E tag hv a w) (hd:d<1000) (hfr:Fr w (lend [] tag) tag' w') (hi': ∀b,w'.heap.size≤b→tag' b= .off)
  (hk:w.heap.size≤k) (hkt:tag' k= .off) (hb:w'.heap[k]? =some (.cells cur T (0,0))) (hc:All2 (fun l v=>VR tag' hv' w' [] .s l v) ls cur.toList):
  ∃tg hh,St w0 tag0 (E.box d (ls.map LV.s)) tg hh a w'∧SR tg hh w' (.p (.bx d 0)) (.pointer (some ⟨k,0,none⟩)):=by
 have hlt:k<w'.heap.size:=by
  rcases Nat.lt_or_ge k w'.heap.size with h|h
  ·exact h
  ·rw[Array.getElem?_eq_none h] at hb;cases hb
 have hsz:=hfr.size
 have hT: ∀b,b<w.heap.size→upT (tagN tag tag' w.heap.size d) k [d,0] b=tag b:=fun b hb=>by
  simp only[upT]
  rw[if_neg (by omega)]
  simp[tagN,hb]
 have hop:Hop (fam d) tag (upT (tagN tag tag' w.heap.size d) k [d,0]) hv (upH (hvN hv hv' d) [d,0] (.pointer (some ⟨k,0,none⟩))) w w':=by
  refine ⟨fun b hb h=>⟨(hT b hb).trans h,(hfr.heap b hb (lend_cases [] b)).1⟩,fun b r p hb h _=>⟨(hT b hb).trans h,(hfr.heap b hb (lend_cases [] b)).1⟩,fun r p hr=> ?_⟩
  have hne:r≠d:=fun e=>by
   subst e
   simp[fam] at hr
   omega
  simp only[upH]
  rw[if_neg (fun e=>hne (List.cons.inj e).1)]
  simp[hvN,hr]
 have hF:Fr w0 tag0 (upT (tagN tag tag' w.heap.size d) k [d,0]) w':=hs.fr.step hfr.os hfr.tape hfr.output hfr.size fun b hb _=>⟨(hfr.heap b hb (lend_cases [] b)).1,hT b hb⟩
 have h1:=hs.hop hop hF (fun b hb=>by
  simp only[upT]
  rw[if_neg (by omega)]
  have: ¬b<w.heap.size:=by omega
  simp[tagN,this,hi' b hb])
 have hsh: ∀b,tag' b= .sh→upT (tagN tag tag' w.heap.size d) k [d,0] b= .sh∧w'.heap[b]? =w'.heap[b]? :=fun b h=>⟨by
  simp only[upT]
  rw[if_neg (fun e=>by subst e;rw[hkt] at h;cases h)]
  by_cases hb:b<w.heap.size
  ·have h2:=(hfr.heap b hb (lend_cases [] b)).2
   rw[h] at h2
   simp only[tagN,hb,if_true]
   cases ht:tag b with
   |sh=>rfl
   |off=>simp[lend,ht] at h2
   |own p=>
    cases p with
    |nil=>simp[lend,ht] at h2
    |cons r p=>simp[lend,ht] at h2
  ·simp[tagN,hb,h],rfl⟩
 refine ⟨_,_,⟨h1.nt,h1.df,h1.sl,fun b ls' hl=> ?_,h1.rt,h1.fr,h1.hi⟩,k,by simp[upH],rfl⟩
 simp only[Env.box,lkp_putL] at hl
 split at hl
 ·rename_i he
  subst he
  cases hl
  refine ⟨k,cur,T,by simp[upH],by simp[upT],hb, ?_⟩
  rw[List.map_map]
  have hc2:All2 (fun l v=>LR (upT (tagN tag tag' w.heap.size d) k [d,0]) (upH (hvN hv hv' d) [d,0] (.pointer (some ⟨k,0,none⟩))) w' (LV.fr (fam d) (.s l)) v) ls cur.toList:=hc.imp fun l v h=>VR.sh_mv hsh h
  exact hc2.map_left
 ·exact h1.bx b ls' hl
def kNw (R:List Nat) (d:Nat) (dst:Option Nat) (K:Env→Prop) (E:Env) (Φ:List Lf→Prop):Prop:=R= []∧d<1000∧ ∀ls,Φ ls→K ((E.box d (ls.map LV.s)).put dst (.p (.bx d 0)))
def CallMx (P:Program) (k:Nat) (as:List SV) (F:List (Bool×ML)→Prop) (G:List SV→List (Md×Lf×Lf)→Option Int→Prop) (H:List SV→List (Md×Lf)→List (Bool×ML)→Prop) (B:BK) (N:(List Lf→Prop)→Prop):Prop:=
 (∃rs,VC P k as rs∧F rs)∨(∃as' ms n,VM P k as' ms n∧G as' ms n)∨(∃as' ms rs,VX P k as' ms rs∧H as' ms rs)∨CallB P B∨ ∃Φ,VN P k as Φ∧N Φ
section
variable {k k' : Nat} {as as' : List SV} {F : List (Bool × ML) → Prop} {G : List SV → List (Md × Lf × Lf) → Option Int → Prop} {H : List SV → List (Md × Lf) → List (Bool × ML) → Prop} {B : BK} {N : (List Lf → Prop) → Prop}
theorem CallMx.of {rs:List (Bool×ML)} (h:VC P k as rs) (hF:F rs):CallMx P k as F G H B N:= .inl ⟨rs,h,hF⟩
theorem CallMx.mut {ms:List (Md×Lf×Lf)} {n:Option Int} (h:VM P k as' ms n) (hG:G as' ms n):CallMx P k as F G H B N:= .inr (.inl ⟨as',ms,n,h,hG⟩)
theorem CallMx.use {ms:List (Md×Lf)} {rs:List (Bool×ML)} (h:VX P k as' ms rs) (hH:H as' ms rs):CallMx P k as F G H B N:= .inr (.inr (.inl ⟨as',ms,rs,h,hH⟩))
theorem CallMx.box {ms:List BE} {Φ:List (Bool×ML)→List (Nat×ML)→Prop} (T:List Nat) (h:VB P k' as' ms Φ) (hB:B none k' T as' ms Φ):CallMx P k as F G H B N:= .inr (.inr (.inr (.inl ⟨none,k',T,as',ms,Φ,h,hB⟩)))
theorem CallB.box {ms:List BE} {Φ:List (Bool×ML)→List (Nat×ML)→Prop} (T:List Nat) (h:VB P k' as' ms Φ) (hB:B none k' T as' ms Φ):CallB P B:=⟨none,k',T,as',ms,Φ,h,hB⟩
end
theorem kB_ok {K:Env→Prop} {o:Oper} {c:Call} (hs:St w0 tag0 E tag hv a w) (ho:o.op= .call c) (h:CallB P (kBx ti c d o.dst K E)):
  ∃ (k:Nat) (vs:List Value),(execOp a.eval o).run P w= .ok (.enter k vs.toArray) w∧Calls P k vs.toArray w fun e w'=> ∃rv sv,e= .returned rv∧ ∃E' tg hh,St w0 tag0 E' tg hh a w'∧SR tg hh w' sv rv∧K (E'.put o.dst sv):=by
 obtain ⟨oE,k,T,as',ms,Φ,hvb,hB⟩:=h
 cases oE with
 |none=>exact ⟨k,kBox_ok hs ho hvb hB⟩
 |some E0=>
  obtain ⟨hg,hB⟩:=hB
  obtain ⟨tg,hh,hs'⟩:=hg _ _ _ _ _ _ hs
  exact ⟨k,kBox_ok hs' ho hvb hB⟩
end Go.Sm
namespace Go.Sm
open Go.RowKit
set_option linter.unusedVariables false
set_option linter.unusedSimpArgs false
variable {P : Program} {ti : TT} {E : Env} {tag tag' tag0 : Nat → Tag} {hv hv' : Hv} {a : Act} {w w' w0 : World} {t d : Nat}
def tagK (tag':Nat→Tag):Nat→Tag:=fun b=>match tag' b with
 | .own (_::rest)=> .own (0::rest)
 |s=>s
def Env.det (E:Env) (d:Nat) (p:List Nat) (x:Md×Lf):Env:=E.useE d [p] [(false,[x])]
theorem St.det {p:List Nat} {e:Nat} {cols:Nat→List Md} {l:Lf} (hs:St w0 tag0 E tag hv a w) (hd:d<1000) (hp:plOk p) (hdp:p.length=3→fam d (hd0 p)=false) (h1:E.at_ p=some (.o e cols,l)) (h2:E.vld p):
  ∃tg hh,St w0 tag0 (E.det d p (.o e cols,l)) tg hh a w∧hh [d]=hv p∧(∃a n c,hv p= .slice a n c)∧ ∀k q,k<w.heap.size→tag k= .own q→wh [p] 900 q=none→tg k= .own q:=by
 have hT:hdsOk [p]:=⟨by simp,by simpa using hp⟩
 have hv0: ∃v',VR tag hv w p (.o e cols) l v':=by
  match p,hp,h1,h2 with
  |r::rest,_,h1,h2=>
   simp only[Env.at_] at h1
   obtain ⟨x,hx,h1⟩:=Option.bind_eq_some_iff.1 h1
   simp only[Env.vld,hx] at h2
   obtain ⟨m,ll⟩:=x
   obtain ⟨v',h3,_⟩:=VR.get rest [r] m ll _ _ _ (hs.rt r _ hx) h2 h1
   exact ⟨v',by simpa using h3⟩
 obtain ⟨v',hvr⟩:=hv0
 have hvp:hv p=v'∧ ∃a n c,hv p= .slice a n c:=by
  cases l with
  |sc v=>cases hvr
  |ls z rows=>
   obtain ⟨q1,q2⟩:=hvr.open_own
   refine ⟨q1, ?_⟩
   rcases q2 with ⟨q2,_⟩|⟨b,c,cur,q2,_⟩
   ·exact ⟨_,_,_,q1.trans q2⟩
   ·exact ⟨_,_,_,q1.trans q2⟩
 have hx:VR (tagX [p] [] tag) (hvC [p] hv) w [900] (.o e cols) l v':=fwdX (i:=0) hT rfl hvr
 have hy:VR (tagK (tagX [p] [] tag)) (fun q=>match q with|0::rest=>hvC [p] hv (900::rest)|_=> .tuple #[]) w [0] (.o e cols) l v':=by
  refine hx.move [0] (fun b hb=>⟨by simp[tagK,hb],rfl⟩) (fun rest _=>⟨by simp,fun b hb=>⟨by simp[tagK,hb],rfl⟩⟩)
 have hfr:Fr w (tagX [p] [] tag) (tagK (tagX [p] [] tag)) w:=⟨rfl,rfl,rfl,Nat.le_refl _,fun b _ hb=>⟨rfl,by rcases hb with hb|hb<;>simp[tagK,hb]⟩⟩
 have hi': ∀b,w.heap.size≤b→tagK (tagX [p] [] tag) b= .off:=fun b hb=>by
  simp[tagK,tagX,hs.hi b hb]
 have hpre:uPre E [p] [(.o e cols,l)]:=⟨h1,h2,trivial,trivial⟩
 obtain ⟨tg,hh,q1,q2,q9⟩:=hs.use2 (R:= []) (rs:= [(false,[(.o e cols,l)])]) (rv:=v') hT hd (fun q hq=>by
  have hm:=List.mem_filter.1 hq
  obtain rfl:=List.mem_singleton.1 hm.1
  exact hdp (by simpa using hm.2)) hpre hfr hi' (.inl rfl) ⟨⟨[v'],rfl,⟨hy,trivial⟩,fun _=>rfl⟩,trivial⟩
 refine ⟨tg,hh,q1, ?_,hvp.2,q9⟩
 obtain ⟨cs,q3,q4,_⟩:=q2
 simp only[resL,Nat.mul_zero,Nat.add_zero] at q4
 cases q4 with
 |cons q5 q6=>
  cases q6
  have:v'=hh [d]:=by
   rw[show v'=_ from q3]
   exact q5.1
  rw[←this,hvp.1]
def appN (ti:TT) (E:Env) (d:Nat) (c:Call):Option (Prop×Env):=
 match c.callee,c.args.toList,c.argTypes.toList with
 | .builtin .append,[.tmp t,x],[t1,t2]=>match lkp E.sl t with
  |some (.v false [.r [r,i,j]])=>match E.at_ [r,i,j] with
   |some (.o e cols,l)=>match appO ti ((E.det 998 [r,i,j] (.o e cols,l)).put (some t) (.v false [.r [998]])) d t1 t2 (.tmp t) x with
    |some (C,E')=>some (t<E.nt∧fam 998 r=false∧E.vld [r,i,j]∧C,E')
    |none=>none
   |_=>none
  |_=>none
 |_,_,_=>none
def Kept (w w1:World) (v:Value):Prop:= ∀x,v= .pointer (some x)→w1.heap[x.block]? =w.heap[x.block]? ∧ ∃cur e o,w.heap[x.block]? =some (.cells cur e o)
def KeptB (E:Env) (a:Act) (w w1:World):Prop:= ∀s b off ls,lkp E.sl s=some (.p (.bx b off))→lkp E.bx b=some ls→Kept w w1 (a.eval (.tmp s))
theorem keptB (hs:St w0 tag0 E tag hv a w) (h: ∀k b,k<w.heap.size→tag k= .own [b,0]→w'.heap[k]? =w.heap[k]?):KeptB E a w w':=by
 intro s b off ls h1 h2 x hx
 obtain ⟨k,h3,h4⟩:=hs.sl s _ h1
 obtain ⟨k',cur,e,h5,h6,h7,_⟩:=hs.bx b ls h2
 rw[h3] at h5
 cases h5
 rw[h4] at hx
 cases hx
 refine ⟨h k b ?_ h6,cur,e,_,h7⟩
 exact (Array.getElem?_eq_some_iff.1 h7).1
theorem appN_ok {o:Oper} {c:Call} {C:Prop} {E':Env} (hT:TGood P ti) (hs:St w0 tag0 E tag hv a w) (ho:o.op= .call c) (h:appN ti E d c=some (C,E')) (hC:C):
  ∃v w' tg hh,(execOp a.eval o).run P w= .ok (.value v) w'∧St w0 tag0 E' tg hh a w'∧SR tg hh w' (.v false [.r [d]]) v∧KeptB E a w w':=by
 unfold appN at h
 split at h
 ·rename_i t x t1 t2 hc1 hc2 hc3
  split at h
  ·rename_i r i j hsl
   split at h
   ·rename_i e cols l hat
    split at h
    ·rename_i C2 E2 happ
     cases h
     obtain ⟨htn,hfm,hvl,hC2⟩:=hC
     obtain ⟨tg,hh,q1,q2,q3,q9⟩:=hs.det (d:=998) (p:= [r,i,j]) (by decide) trivial (fun _=>hfm) hat hvl
     have hsr:=hs.sl t _ hsl
     have q4:St w0 tag0 ((E.det 998 [r,i,j] (.o e cols,l)).put (some t) (.v false [.r [998]])) tg hh a w:=by
      have hav:SR tg hh w (.v false [.r [998]]) (a.eval (.tmp t)):=by
       obtain ⟨cs,g1,g2,g3⟩:=hsr
       cases g2 with
       |cons g4 g5=>
        cases g5
        refine ⟨_,g1,.cons ⟨g4.1.trans q2.symm,g4.2⟩ .nil,fun _=>rfl⟩
      refine ⟨by simp only[Env.put];split<;>exact q1.nt,q1.df,fun t' sv hl=> ?_,fun b ls hl=>q1.bx b ls (by simp only[Env.put] at hl;split at hl<;>exact hl),fun r' y hl=>q1.rt r' y (by simp only[Env.put] at hl;split at hl<;>exact hl),q1.fr,q1.hi⟩
      ·simp only[Env.put] at hl
       split at hl
       ·simp only[lkp_putL] at hl
        split at hl
        ·rename_i e1
         cases hl
         subst e1
         exact hav
        ·exact q1.sl t' sv hl
       ·simp only[lkp_delL] at hl
        split at hl
        ·cases hl
        ·exact q1.sl t' sv hl
     have hce:c= {callee:= .builtin .append,args:= #[.tmp t,x],argTypes:= #[t1,t2]}:=by
      obtain ⟨c1,c2,c3⟩:=c
      simp only at hc1 hc2 hc3
      subst hc1
      congr 1
      ·apply Array.ext';exact hc2
      ·apply Array.ext';exact hc3
     obtain ⟨v,w',tg',hh',p1,p2,p3,p4⟩:=appO_ok2 hT q4 ho hce happ hC2
     refine ⟨v,w',tg',hh',p1,p2,p3,keptB hs fun k b hk hb=>p4 k [b,0] (q9 k [b,0] hk hb ?_) (by simp)⟩
     simp[wh,stripP]
    ·cases h
   ·cases h
  ·cases h
 ·cases h
def apE (ti:TT) (E:Env) (d:Nat) (c:Call):Option (Prop×Env):=match c.callee,c.args.toList,c.argTypes.toList with
 | .builtin .append,[s,x],[t1,t2]=>match appO ti E d t1 t2 s x with
  |some r=>some r
  |none=>appN ti E d c
 |_,_,_=>none
theorem apE_ok {o:Oper} {c:Call} {C:Prop} {E':Env} (hT:TGood P ti) (hs:St w0 tag0 E tag hv a w) (ho:o.op= .call c) (h:apE ti E d c=some (C,E')) (hC:C):
  ∃v w' tg hh,(execOp a.eval o).run P w= .ok (.value v) w'∧St w0 tag0 E' tg hh a w'∧SR tg hh w' (.v false [.r [d]]) v∧KeptB E a w w':=by
 unfold apE at h
 split at h
 ·rename_i s x t1 t2 hc1 hc2 hc3
  split at h
  ·rename_i r hr
   cases h
   have hce:c= {callee:= .builtin .append,args:= #[s,x],argTypes:= #[t1,t2]}:=by
    obtain ⟨c1,c2,c3⟩:=c
    simp only at hc1 hc2 hc3
    subst hc1
    congr 1
    ·apply Array.ext';exact hc2
    ·apply Array.ext';exact hc3
   obtain ⟨v,w',tg',hh',p1,p2,p3,p4⟩:=appO_ok2 hT hs ho hce hr hC
   exact ⟨v,w',tg',hh',p1,p2,p3,keptB hs fun k b hk hb=>p4 k [b,0] hb (by simp)⟩
  ·exact appN_ok hT hs ho h hC
 ·cases h
def nestL:Nat→List LV→Option (Nat×List Nat)
 |_,[]=>none
 |k,.r [r,i,j]::_=>some (k,[r,i,j])
 |k,_::ls=>nestL (k+1) ls
def nestP (E:Env):List (Nat×Operand)→Option (Nat×Nat×List Nat)
 |(_,.tmp t)::r=>match lkp E.sl t with
  |some (.v _ ls)=>match nestL 0 ls with
   |some (k,p)=>some (t,k,p)
   |none=>nestP E r
  |_=>nestP E r
 |_::r=>nestP E r
 | []=>none
def bsNest (ti:TT) (E:Env) (d t n:Nat) (parts:List (Nat×Operand)):Option (Prop×Env):=
 match nestP E parts with
 |some (s,k,p)=>match E.at_ p with
  |some (.o e cols,l)=>match lkp (E.det 998 p (.o e cols,l)).sl s with
   |some (.v ag ls)=>match bsO ti ((E.det 998 p (.o e cols,l)).put (some s) (.v ag (ls.set k (.r [998])))) d t n parts with
    |some (C,E')=>some (s<E.nt∧fam 998 (hd0 p)=false∧E.vld p∧C,E')
    |none=>none
   |_=>none
  |_=>none
 |none=>none
theorem nestL_at: ∀ {ls:List LV} {k k':Nat} {p:List Nat},nestL k ls=some (k',p)→ ∃j,k'=k+j∧ls[j]? =some (.r p)∧plOk p
 | [],_,_,_,h=>by simp[nestL] at h
 |x::ls,k,k',p,h=>by
  unfold nestL at h
  split at h
  ·cases ‹_::_= []›
  ·rename_i heq
   cases heq
   cases h
   exact ⟨0,rfl,rfl,trivial⟩
  ·rename_i heq
   cases heq
   obtain ⟨j,h1,h2,h3⟩:=nestL_at h
   exact ⟨j+1,by omega,by simpa using h2,h3⟩
theorem nestP_at: ∀ {ps:List (Nat×Operand)} {s k:Nat} {p:List Nat},nestP E ps=some (s,k,p)→ ∃ag ls,lkp E.sl s=some (.v ag ls)∧ls[k]? =some (.r p)∧plOk p
 | [],_,_,_,h=>by simp[nestP] at h
 |q::r,s,k,p,h=>by
  unfold nestP at h
  split at h
  ·rename_i heq
   cases heq
   split at h
   ·rename_i ag ls hl
    split at h
    ·rename_i k1 p1 hn
     cases h
     obtain ⟨j,h1,h2,h3⟩:=nestL_at hn
     rw[Nat.zero_add] at h1
     subst h1
     exact ⟨ag,ls,hl,h2,h3⟩
    ·exact nestP_at h
   ·exact nestP_at h
  ·rename_i heq
   cases heq
   exact nestP_at h
  ·cases ‹_::_= []›
theorem All2.set {α β:Type} {R:α→β→Prop} {x:α}: ∀ {as:List α} {bs:List β} {k:Nat},All2 R as bs→(∀b,bs[k]? =some b→R x b)→All2 R (as.set k x) bs
 |_,_,_,.nil,_=> .nil
 |_,_,0,.cons _ hs,hx=> .cons (hx _ rfl) hs
 |_,_,k+1,.cons h hs,hx=> .cons h (All2.set hs fun b hb=>hx b (by simpa using hb))
theorem mkV_inj {ag:Bool} {cs cs':List Value} (h:mkV ag cs=mkV ag cs') (h1:ag=false→cs.length=1) (h2:ag=false→cs'.length=1):cs=cs':=by
 cases ag with
 |true=>
  simp only[mkV,Value.agg.injEq] at h
  exact List.toArray_inj h
 |false=>
  match cs,cs',h1 rfl,h2 rfl,h with
  | [c],[c'],_,_,h=>exact congrArg (fun x=> [x]) h
theorem bsNest_ok {o:Oper} {n:Nat} {parts:Array (Nat×Operand)} {C:Prop} {E':Env} (hT:TGood P ti) (hs:St w0 tag0 E tag hv a w) (ho:o.op= .buildSlice t n parts) (h:bsNest ti E d t n parts.toList=some (C,E')) (hC:C):
  ∃v w' tg hh,(execOp a.eval o).run P w= .ok (.value v) w'∧St w0 tag0 E' tg hh a w'∧SR tg hh w' (.v false [.r [d]]) v:=by
 unfold bsNest at h
 split at h
 ·rename_i s k p hp
  split at h
  ·rename_i e cols l hat
   split at h
   ·rename_i ag ls hsl
    split at h
    ·rename_i C2 E2 hbs
     cases h
     obtain ⟨htn,hfm,hvl,hC2⟩:=hC
     obtain ⟨ag0,ls0,g1,g2,g3⟩:=nestP_at hp
     obtain ⟨tg,hh,q1,q2,q3,q9⟩:=hs.det (d:=998) (p:=p) (by decide) g3 (fun _=>hfm) hat hvl
     have hsr:=hs.sl s _ g1
     have hsr2:=q1.sl s _ hsl
     have hag:ag=ag0∧ls=ls0.map (LV.ct (fun r=>fam 998 r||rt1 [p] r) (pl3 [p])):=by
      have:lkp (E.det 998 p (.o e cols,l)).sl s=some ((SV.v ag0 ls0).ct (fun r=>fam 998 r||rt1 [p] r) (pl3 [p])):=by
       unfold Env.det Env.useE Env.re
       simp only
       rw[lkp_map,g1]
       rfl
      rw[this] at hsl
      cases hsl
      exact ⟨rfl,rfl⟩
     obtain ⟨rfl,hls⟩:=hag
     have q4:St w0 tag0 ((E.det 998 p (.o e cols,l)).put (some s) (.v ag (ls.set k (.r [998])))) tg hh a w:=by
      have hav:SR tg hh w (.v ag (ls.set k (.r [998]))) (a.eval (.tmp s)):=by
       obtain ⟨cs,c1,c2,c3⟩:=hsr
       obtain ⟨cs2,d1,d2,d3⟩:=hsr2
       have hl1:=c2.len
       have hl2:=d2.len
       have e:=mkV_inj (c1.symm.trans d1) (fun h=>by have:=c3 h;omega) (fun h=>by have:=d3 h;omega)
       subst e
       refine ⟨cs,c1,d2.set fun b hb=> ?_,fun h=>by simpa using d3 h⟩
       have h4:=c2.get k _ _ g2 hb
       exact ⟨h4.1.trans q2.symm,h4.2⟩
      refine ⟨by simp only[Env.put];split<;>exact q1.nt,q1.df,fun t' sv hl=> ?_,fun b ls hl=>q1.bx b ls (by simp only[Env.put] at hl;split at hl<;>exact hl),fun r' y hl=>q1.rt r' y (by simp only[Env.put] at hl;split at hl<;>exact hl),q1.fr,q1.hi⟩
      simp only[Env.put] at hl
      split at hl
      ·simp only[lkp_putL] at hl
       split at hl
       ·rename_i e1
        cases hl
        subst e1
        exact hav
       ·exact q1.sl t' sv hl
      ·simp only[lkp_delL] at hl
       split at hl
       ·cases hl
       ·exact q1.sl t' sv hl
     exact bsO_ok hT q4 ho hbs hC2
    ·cases h
   ·cases h
  ·cases h
 ·cases h
end Go.Sm
namespace Go.Sm
open Go.RowKit
set_option linter.unusedVariables false
set_option linter.unusedSimpArgs false
variable {P : Program} {ti : TT} {E : Env} {tag tag' tag0 : Nat → Tag} {hv hv' : Hv} {a : Act} {w w' w0 : World} {t d : Nat}
def cvB (ti:TT) (E:Env) (o:Oper):Option (Prop×SV):=
 match o.op with
 | .convert src dst x=>match opd ti E src x,(ti dst).elt with
  |some (.v false [.s (.sc (.string s))]),some e=>some ((ti src).ok=true∧(ti dst).ok=true∧(ti e).ok=true∧(ti e).isU8=true,.v false [.s (.ls [.sc (.int .u8 0)] (s.toList.map fun b=> [.sc (.int .u8 b.toNat)]))])
  |_,_=>none
 |_=>none
theorem cvB_okR (hT:TGood P ti) {Er:Env} {o:Oper} {C:Prop} {sv:SV} (hs:St w0 tag0 E tag hv a w) (hrd: ∀t x sv,opd ti Er t x=some sv→SR tag hv w sv (a.eval x)) (h:cvB ti Er o=some (C,sv)) (hC:C):
  ∃v w' tg,(execOp a.eval o).run P w= .ok (.value v) w'∧St w0 tag0 E tg hv a w'∧SR tg hv w' sv v:=by
 unfold cvB at h
 split at h
 ·rename_i src dst x ho
  split at h
  ·rename_i s e hx he
   cases h
   obtain ⟨h1,h2,h3,h4⟩:=hC
   have hu1:=(hT src h1).und
   have hu2:=elt_und (hT dst h2) he
   have hu3:P.underlying e=some (.int .u8):=by
    have:=(hT e h3).und
    unfold TI.isU8 at h4
    split at h4
    ·rename_i hd
     rw[hd] at this
     exact this
    ·cases h4
   have hxv:=SR_str (hrd _ _ _ hx)
   have hr:=Lib.run_convert_string_bytes w src dst e s hu1 hu2 hu3
   have hop:Hop (fun _=>false) tag (fun b=>if b=w.heap.size then .sh else tag b) hv hv w (Lib.bytesWorld w e s):=
    ⟨fun b hb h=>⟨by rw[if_neg (by omega)];exact h,Lib.bytesWorld_at_old w e s b hb⟩,fun b r p hb h _=>⟨by rw[if_neg (by omega)];exact h,Lib.bytesWorld_at_old w e s b hb⟩,fun _ _ _=>rfl⟩
   refine ⟨.slice (some ⟨w.heap.size,0,none⟩) s.size (grownCap w s.size 0 e),Lib.bytesWorld w e s,fun b=>if b=w.heap.size then .sh else tag b,by simp[execOp,ho,hxv,hr],hs.hop0 hop (hs.fr.step rfl rfl rfl (by rw[Lib.bytesWorld_size];omega) fun b hb _=>⟨Lib.bytesWorld_at_old w e s b hb,by rw[if_neg (by omega)]⟩) (fun b hb=> ?_), ?_⟩
   ·rw[Lib.bytesWorld_size] at hb
    rw[if_neg (by omega)]
    exact hs.hi b (by omega)
   ·have hlen:s.toList.length=s.size:=by rw[Lib.toList_data];rfl
    refine ⟨[_],rfl,.cons ?_ .nil,fun _=>rfl⟩
    refine .sh (fun i j=> .int .u8 ((s.data.toList.getD i 0).toNat:Int)) (by simpa using hlen) (grownCap_ge w _ _ _) (by simp) (fun i hi=> ?_) (fun i j hi hj=> ?_) (fun i j hi hj=> ?_)
    ·rw[List.getD_eq_getElem?_getD,List.getElem?_map,List.getElem?_eq_getElem (by omega)]
     rfl
    ·simp only[List.length_singleton] at hj
     have:j=0:=by omega
     subst this
     simpa using Lib.bytesWorld_cell w e s i hi
    ·simp only[List.length_singleton] at hj
     have:j=0:=by omega
     subst this
     have hi':i<s.toList.length:=by omega
     have:lf [Lf.sc (Value.int IntKind.u8 0)] (s.toList.map fun b=> [Lf.sc (.int .u8 b.toNat)]) i 0= .sc (.int .u8 ((s.data.toList.getD i 0).toNat:Int)):=by
      simp only[lf]
      rw[List.getD_eq_getElem?_getD (l:=s.toList.map _),List.getElem?_map,List.getElem?_eq_getElem hi']
      simp only[Option.map_some,Option.getD_some]
      rw[List.getD_eq_getElem?_getD (l:=s.data.toList),←Lib.toList_data,List.getElem?_eq_getElem hi']
      rfl
     rw[this]
     exact .sc rfl
  ·cases h
 ·cases h
theorem cvB_ok (hT:TGood P ti) {o:Oper} {C:Prop} {sv:SV} (hs:St w0 tag0 E tag hv a w) (h:cvB ti E o=some (C,sv)) (hC:C):
  ∃v w' tg,(execOp a.eval o).run P w= .ok (.value v) w'∧St w0 tag0 E tg hv a w'∧SR tg hv w' sv v:=cvB_okR hT hs (fun _ _ _ h=>opd_ok hs h) h hC
end Go.Sm
namespace Go.Sm
open Go.RowKit
set_option linter.unusedVariables false
set_option linter.unusedSimpArgs false
variable {P : Program} {ti : TT} {E : Env} {tag tag' tag0 : Nat → Tag} {hv hv' : Hv} {a : Act} {w w' w0 : World} {t d : Nat}
def pickO:SV→Option (Bool×Bool)
 | .v false [.s (.sc (.bool c))]=>some (true,c)
 | .g g (.v false [.s (.sc (.bool c))])=>some (g,c)
 |_=>none
def pick3 (ti:TT) (E:Env) (c x y:Operand):Option (Prop×Bool):=
 match opd ti E 0 c,opd ti E 0 x,opd ti E 0 y with
 |some c,some x,some y=>match pickO c,pickO x,pickO y with
  |some (gc,c),some (gx,x),some (gy,y)=>some (gc=true∧(c=true→gx=true)∧(c=false→gy=true),if c then x else y)
  |_,_,_=>none
 |_,_,_=>none
def dn (o:Oper):Nat:=match o.dst with|some d=>d|none=>999
def appX (ti:TT) (E:Env) (d:Nat) (c:Call):Option (Prop×Env):=
 match c.callee,c.args.toList,c.argTypes.toList with
 | .builtin .append,[s,x],[t1,t2]=>appO ti E d t1 t2 s x
 |_,_,_=>none
def Env.szAt (E:Env) (p:List Nat) (sz:Nat):Prop:=match E.at_ p with
 |some (.o _ _,.ls z _)=>z.length=sz
 |_=>False
def mkO (ti:TT) (E:Env) (d t:Nat) (x y:Operand):Option (Prop×Env):=
 match opd ti E 0 x,opd ti E 0 y,(ti t).elt with
 |some (.v false [.s (.sc (.int _ n))]),some (.v false [.s (.sc (.int _ m))]),some e=>
  some (n=m∧0≤n∧(ti t).ok=true∧(ti e).ok=true∧msK (ti e).ms (ti e).z=true∧n.toNat* (ti e).by_≤281474976710656∧d<1000,E.mkS d e n.toNat (ti e).ms (ti e).z)
 |_,_,_=>none
def CallTo (P:Program) (k:Nat) (as:List SV) (F:List (Bool×ML)→Prop):Prop:= ∃rs,VC P k as rs∧F rs
def CallG (P:Program) (g D:Prop) (k:Nat) (as:List SV) (F:List (Bool×ML)→Prop):Prop:= ∃rs,(g→D∧VC P k as rs)∧F rs
def kCall (R:List Nat) (d:Nat) (dst:Option Nat) (K:Env→Prop) (E:Env) (rs:List (Bool×ML)):Prop:=(R= []∨OwRs rs)∧d<1000∧K ((E.ret d rs).put dst (resS d rs))
def kCallG (R:List Nat) (g:Bool) (dst:Option Nat) (K:Env→Prop) (E:Env) (rs:List (Bool×ML)):Prop:=(R= []∨OwRs rs)∧FullRs rs∧K (E.put dst (.g g (frzS rs)))
theorem CallTo.of {P:Program} {k:Nat} {as:List SV} {F:List (Bool×ML)→Prop} {rs:List (Bool×ML)} (h:VC P k as rs) (hF:F rs):CallTo P k as F:=⟨rs,h,hF⟩
theorem CallG.of {P:Program} {g D:Prop} {k:Nat} {as:List SV} {F:List (Bool×ML)→Prop} {rs:List (Bool×ML)} (h:g→D∧VC P k as rs) (hF:F rs):CallG P g D k as F:=⟨rs,h,hF⟩
def clrX (ti:TT) (E:Env) (c:Call):Option (Prop×Env):=
 match c.callee,c.args.toList,c.argTypes.toList with
 | .builtin .clear,[x],[t]=>match opd ti E 0 x,(ti t).elt with
  |some (.p (.vw [r] sz lo n)),some e'=>match lkp E.rt r with
   |some (.o e cols,.ls z rows)=>some ((ti t).ok=true∧(ti e').ok=true∧(ti e').z=z∧z.length=sz∧lo+n≤rows.length,
     E.re (fun _=>false) [] [[r]] [(r,.o e (fun k=>if lo≤k∧k<lo+n then z.map fun _=> .s else cols k),.ls z (rows.take lo++(List.replicate n z++rows.drop (lo+n))))])
   |_=>none
  |_,_=>none
 |_,_,_=>none
def nilR (r:Nat):Bool:=decide (970≤r)&&decide (r<980)
def nlN:List Md→Nat→List LV→List (Nat×Md×Lf)×List LV
 |_,_,[]=>([],[])
 |ms,k,x::r=>match x,hdM ms with
  | .n z,.o e cols=>((k,.o e cols,.ls z [])::(nlN ms.tail (k+1) r).1,.r [k]::(nlN ms.tail (k+1) r).2)
  |x,_=>((nlN ms.tail (k+1) r).1,x::(nlN ms.tail (k+1) r).2)
def lvBad:LV→Bool
 | .r (k::_)=>nilR k
 | .r []=>true
 |_=>false
def hdBad:List Nat→Bool
 |k::_=>nilR k
 | []=>true
def Env.nlP (E:Env) (p:List Nat) (i off:Nat) (new:List LV):Option (Env×List LV):=
 match E.at_ p with
 |some (.o _ cols,_)=>match nlN ((cols i).drop off) 970 new with
  |([],_)=>none
  |(x::xs,new')=>match new.any lvBad||(hdBad p||decide (10<new.length)) with
   |true=>none
   |false=>some ({E.fresh nilR with rt:=(x::xs)++(E.fresh nilR).rt},new')
 |_=>none
def hvZn (hv:Hv):Hv:=fun q=>match q with
 | [k]=>if nilR k=true then .slice none 0 0 else hv [k]
 |q=>hv q
theorem hvZn_ne {r:Nat} {p:List Nat} (h:nilR r=false):hvZn hv (r::p)=hv (r::p):=by
 cases p with
 |nil=>simp[hvZn,h]
 |cons=>rfl
theorem hvZn_eq {r:Nat} (h:nilR r=true):hvZn hv [r]= .slice none 0 0:=by simp[hvZn,h]
theorem nlN_len: ∀ (new:List LV) (ms:List Md) (k:Nat),(nlN ms k new).2.length=new.length
 | [],_,_=>rfl
 |x::r,ms,k=>by
  unfold nlN
  split<;>simp[nlN_len r]
theorem nlN_rt: ∀ {new:List LV} {ms:List Md} {k r:Nat} {y:Md×Lf},(r,y)∈(nlN ms k new).1→k≤r∧r<k+new.length∧ ∃e cols z,y=(.o e cols,.ls z [])
 | [],_,_,_,_,h=>by simp[nlN] at h
 |x::l,ms,k,r,y,h=>by
  unfold nlN at h
  split at h
  ·rcases List.mem_cons.1 h with h|h
   ·cases h
    exact ⟨by omega,by simp,_,_,_,rfl⟩
   ·obtain ⟨h1,h2,h3⟩:=nlN_rt h
    exact ⟨by omega,by simp only[List.length_cons];omega,h3⟩
  ·obtain ⟨h1,h2,h3⟩:=nlN_rt h
   exact ⟨by omega,by simp only[List.length_cons];omega,h3⟩
theorem hopN (hs:St w0 tag0 E tag hv a w):Hop nilR tag tag hv (hvZn hv) w w:=⟨fun _ _ h=>⟨h,rfl⟩,fun _ _ _ _ h _=>⟨h,rfl⟩,fun r p hr=>hvZn_ne hr⟩
theorem LV.fr_ok {x:LV} (h:lvBad x=false):x.fr nilR=x:=by
 cases x with
 |r p=>
  cases p with
  |nil=>cases h
  |cons k p=>simp only[LV.fr,show nilR k=false from h];rfl
 |_=>rfl
theorem nlN_LR (hs:St w0 tag0 E tag hv a w): ∀ {new:List LV} {cs:List Value} {ms:List Md} {k:Nat},All2 (LR tag hv w) new cs→new.any lvBad=false→970≤k→k+new.length≤980→All2 (LR tag (hvZn hv) w) (nlN ms k new).2 cs
 | [],_,ms,k,h,_,_,_=>by
  cases h
  unfold nlN
  exact .nil
 |x::r,_,ms,k,h,hb,h1,h2=>by
  cases h with
  |cons q1 q2=>
   simp only[List.any_cons,Bool.or_eq_false_iff] at hb
   simp only[List.length_cons] at h2
   have hr:=nlN_LR hs (ms:=ms.tail) (k:=k+1) q2 hb.2 (by omega) (by omega)
   unfold nlN
   split
   ·rename_i z e cols hm
    have hk:nilR k=true:=by simp[nilR];omega
    exact .cons ⟨(show _=Value.slice none 0 0 from q1).trans (hvZn_eq hk).symm,none,0,0,q1⟩ hr
   ·refine .cons ?_ hr
    have:=LR.hop q1 (hopN hs) hs.hi
    rwa [LV.fr_ok hb.1] at this
theorem St.nlP {p:List Nat} {sz i off:Nat} {new new1:List LV} {E1:Env} {ag:Bool} {X V:Value} (hs:St w0 tag0 E tag hv a w) (h:E.nlP p i off new=some (E1,new1)) (hp:SR tag hv w (.p (.pt p sz i off)) X) (hv1:VV tag hv w ag new V):
  St w0 tag0 E1 tag (hvZn hv) a w∧SR tag (hvZn hv) w (.p (.pt p sz i off)) X∧VV tag (hvZn hv) w ag new1 V∧new1.length=new.length:=by
 unfold Env.nlP at h
 split at h
 ·rename_i e cols l hat
  split at h
  ·cases h
  ·rename_i x xs new' hn
   split at h
   ·cases h
   ·rename_i hb
    cases h
    simp only[Bool.or_eq_false_iff,decide_eq_false_iff_not] at hb
    obtain ⟨hb1,hb2,hb3⟩:=hb
    have hf:=hs.hop (hopN hs) hs.fr hs.hi
    have e2:new1=(nlN ((cols i).drop off) 970 new).2:=by rw[hn]
    have e1:x::xs=(nlN ((cols i).drop off) 970 new).1:=by rw[hn]
    refine ⟨⟨hf.nt,hf.df,hf.sl,hf.bx,fun r y hl=> ?_,hf.fr,hf.hi⟩, ?_, ?_, ?_⟩
    ·have hcase: ∀l:List (Nat×Md×Lf),lkp (l++(E.fresh nilR).rt) r=some y→(r,y)∈l∨lkp (E.fresh nilR).rt r=some y:=by
      intro l
      induction l with
      |nil=>exact fun h=> .inr h
      |cons z l ih=>
       intro h
       obtain ⟨k,z⟩:=z
       simp only[List.cons_append,lkp] at h
       split at h
       ·rename_i e
        cases h
        exact .inl (by simp[e])
       ·rcases ih h with h|h
        ·exact .inl (List.mem_cons_of_mem _ h)
        ·exact .inr h
     rcases hcase (x::xs) hl with hm|hm
     ·rw[e1] at hm
      obtain ⟨g1,g2,e',cols',z,rfl⟩:=nlN_rt hm
      have hk:nilR r=true:=by simp[nilR];omega
      rw[hvZn_eq hk]
      exact .own0 (hvZn_eq hk)
     ·exact hf.rt r y hm
    ·have:=SR.hop hp (hopN hs) hs.hi
     have hhd:(PV.pt p sz i off).hd nilR=false:=by
      cases p with
      |nil=>cases hb2
      |cons k p=>exact hb2
     simp only[SV.fr,hhd] at this
     exact this
    ·obtain ⟨cs,q1,q2,q3⟩:=hv1
     rw[e2]
     exact ⟨cs,q1,nlN_LR hs q2 hb1 (Nat.le_refl _) (by omega),fun hf=>by rw[nlN_len];exact q3 hf⟩
    ·rw[e2,nlN_len]
 ·cases h
def evU (P:Program) (ti:TT) (o:Oper) (K:Env→Prop) (E:Env):Prop:=
 match o.op with
 | .pick c x y=>match pick3 ti E c x y with
  |some (C,r)=>C∧K (E.put o.dst (bool r))
  |none=>False
 | .alloc t=>(ti t).ok=true∧dn o<1000∧K ((E.box (dn o) ((ti t).z.map zLV)).put o.dst (.p (.bx (dn o) 0)))
 | .box t x=>match opd ti E t x with
  |some (.v _ ls)=>dn o<1000∧K ((E.box (dn o) ls).put o.dst (.p (.bx (dn o) 0)))
  |_=>False
 | .store t x y=>match opd ti E 0 x,opd ti E t y with
  |some (.p (.bx b off)),some (.v _ new)=>match lkp E.bx b with
   |some ls=>(ti t).ok=true∧new.length=(ti t).sz∧off+new.length≤ls.length∧K ((E.stBx b off ls new).put o.dst .dead)
   |none=>False
  |some (.p (.pt p sz i off)),some (.v _ new)=>match E.nlP p i off new with
   |some (E1,new1)=>match E1.stPt p i off new1 with
    |some (C,E')=>(ti t).ok=true∧new.length=(ti t).sz∧E1.szAt p sz∧C∧K (E'.put o.dst .dead)
    |none=>False
   |none=>match E.stPt p i off new with
    |some (C,E')=>(ti t).ok=true∧new.length=(ti t).sz∧E.szAt p sz∧C∧K (E'.put o.dst .dead)
    |none=>False
  |_,_=>False
 | .makeSlice t x y=>match mkO ti E (dn o) t x y with
  |some (C,E')=>C∧K (E'.put o.dst (.v false [.r [dn o]]))
  |none=>False
 | .buildSlice t n parts=>match bsO ti E (dn o) t n parts.toList with
  |some (C,E')=>C∧K (E'.put o.dst (.v false [.r [dn o]]))
  |none=>match bsNest ti E (dn o) t n parts.toList with
   |some (C,E')=>C∧K (E'.put o.dst (.v false [.r [dn o]]))
   |none=>False
 | .call c=>match callO ti E c with
  |some (C,k,as,R)=>C∧CallMx P k as (kCall R (dn o) o.dst K E) (kMut ti c o.dst K E) (kUse ti c (dn o) o.dst K E) (kBx ti c (dn o) o.dst K E) (kNw R (dn o) o.dst K E)
  |none=>match pur ti E o with
   |some (C,sv)=>C∧K (E.put o.dst sv)
   |none=>match appX ti E (dn o) c with
    |some (C,E')=>C∧K (E'.put o.dst (.v false [.r [dn o]]))
    |none=>match clrX ti E c with
     |some (C,E')=>C∧K (E'.put o.dst .dead)
     |none=>match appN ti E (dn o) c with
      |some (C,E')=>C∧K (E'.put o.dst (.v false [.r [dn o]]))
      |none=>CallB P (kBx ti c (dn o) o.dst K E)
 |_=>match pur ti E o with
  |some (C,sv)=>C∧K (E.put o.dst sv)
  |none=>match cvB ti E o with
   |some (C,sv)=>C∧K (E.put o.dst sv)
   |none=>False
def evG (P:Program) (ti:TT) (g:Bool) (o:Oper) (K:Env→Prop) (E:Env):Prop:=
 match o.op with
 | .pick c x y=>match pick3 ti E c x y with
  |some (C,r)=>(g=true→C)∧K (E.put o.dst (.g g (bool r)))
  |none=>False
 | .call c=>match callO ti (E.un (opTmps o.op)) c with
  |some (C,k,as,R)=>CallG P (g=true) (gsOk E (opTmps o.op)∧C) k as (kCallG R g o.dst K E)
  |none=>match pur ti (E.un (opTmps o.op)) o with
   |some (C,sv)=>(g=true→gsOk E (opTmps o.op)∧C)∧K (E.put o.dst (.g g sv))
   |none=>False
 |_=>match pur ti (E.un (opTmps o.op)) o with
  |some (C,sv)=>(g=true→gsOk E (opTmps o.op)∧C)∧K (E.put o.dst (.g g sv))
  |none=>False
def ev (P:Program) (ti:TT) (ops:List Oper):List Oper→(Env→Prop)→Env→Prop
 | [],K,E=>K E
 |o::rest,K,E=>match o.guard with
  |none=>evU P ti o (ev P ti ops rest K) E
  |some (j,b)=>match guardB E ops j b with
   |some g=>evG P ti g o (ev P ti ops rest K) E
   |none=>False
theorem pickO_ok {sv:SV} {g c:Bool} {v:Value} (h:pickO sv=some (g,c)) (hg:g=true) (hv0:SR tag hv w sv v):v= .bool c:=by
 unfold pickO at h
 split at h
 ·cases h
  exact SR_bool hv0
 ·cases h
  exact SR_bool (hv0.1 hg)
 ·cases h
theorem pick3_ok {o:Oper} {c x y:Operand} {C:Prop} {r:Bool} (hs:St w0 tag0 E tag hv a w) (ho:o.op= .pick c x y) (h:pick3 ti E c x y=some (C,r)) (hC:C):(execOp a.eval o).run P w= .ok (.value (.bool r)) w:=by
 unfold pick3 at h
 split at h
 ·rename_i sc sx sy h1 h2 h3
  split at h
  ·rename_i gc c' gx x' gy y' h4 h5 h6
   cases h
   obtain ⟨q1,q2,q3⟩:=hC
   have e1:=pickO_ok h4 q1 (opd_ok hs h1)
   simp only[execOp,ho,Sem.run_bind,e1,asBool,Sem.run_pure,Result.andThen_ok]
   cases c' with
   |true=>
    have e2:=pickO_ok h5 (q2 rfl) (opd_ok hs h2)
    simp[e2]
   |false=>
    have e3:=pickO_ok h6 (q3 rfl) (opd_ok hs h3)
    simp[e3]
  ·cases h
 ·cases h
variable {N : Act → World → Prop} {Q : Exit → Act → World → Prop} {K : Env → Prop}
theorem upon_value {o:Oper} {v:Value} (h:(execOp a.eval o).run P w= .ok (.value v) w') (hn:N (a.put o.dst v) w'):o.wp P a w N Q:=by
 unfold Oper.wp
 rw[h]
 exact hn
theorem pur_wp (hT:TGood P ti) {o:Oper} {C:Prop} {sv:SV} (hs:St w0 tag0 E tag hv a w) (hp:pur ti E o=some (C,sv)) (hC:C) (hK:K (E.put o.dst sv))
  (hN: ∀E' tag' hv' a' w',St w0 tag0 E' tag' hv' a' w'→K E'→N a' w'):o.wp P a w N Q:=by
 obtain ⟨v,h1,h2⟩:=pur_ok hT hs hp hC
 exact upon_value h1 (hN _ _ _ _ _ (hs.put h2) hK)
theorem scal_one' {v:Value} (h:scal v=true):v.oneCell'=true:=by cases v<;>simp_all [scal,Value.oneCell']
theorem clrX_ok (hT:TGood P ti) {o:Oper} {c:Call} {C:Prop} {E':Env} (hs:St w0 tag0 E tag hv a w) (ho:o.op= .call c) (h:clrX ti E c=some (C,E')) (hC:C):
  ∃w' v tg hh,(execOp a.eval o).run P w= .ok (.value v) w'∧St w0 tag0 E' tg hh a w':=by
 have hs0:=hs
 replace hs:=hs.norm
 have hone: ∀ {b b':Nat} {p:List Nat},normT tag hv b= .own p→normT tag hv b'= .own p→b=b':=normT_one
 obtain ⟨f,args,ats⟩:=c
 unfold clrX at h
 simp only at h
 split at h
 ·rename_i x t h1 h2
  have e1:args= #[x]:=by apply Array.ext';simpa using h1
  have e2:ats= #[t]:=by apply Array.ext';simpa using h2
  subst e1 e2
  split at h
  ·rename_i r sz lo n e' hx he
   split at h
   ·rename_i e cols z rows hrt
    cases h
    obtain ⟨ht,hek,hez,hzs,hln⟩:=hC
    have hxv:PR (normT tag hv) hv w (.vw [r] sz lo n) _:=PR.norm (opd_ok hs0 hx)
    have hu:=elt_und (hT t ht) he
    have ge:=hT e' hek
    obtain ⟨y,hy1,hy2,hy3,hy4⟩:=ge.inf
    generalize normT tag hv=tag at hs hone hxv
    have hroot:=hs.rt r _ hrt
    have hHp0: ∀w',(∀b,tag b≠ .own [r]→w'.heap[b]? =w.heap[b]?)→w'.os=w.os→w'.tape=w.tape→w'.output=w.output→w'.heap.size=w.heap.size→Hp (fun _=>false) [] [[r]] tag tag hv hv w w':=fun w' hne q1 q2 q3 q4=>
     ⟨fun b _ hb=>⟨hb,hne b (by rw[hb];simp)⟩,fun b q _ hb _=>⟨hb,fun hq=>hne b (by rw[hb];intro e;injection e with e;exact hq (by simp[e]))⟩,fun b _ hb=>⟨hb,hne b (by rw[hb];simp)⟩,fun _ _=>rfl,q1,q2,q3,by omega,fun b hb=>hs.hi b (by omega)⟩
    obtain ⟨hh1,⟨h0,h00⟩|⟨b,c,cur,hv1,hc,hm,htb,hbl,hcs,hl,hr⟩⟩:=hroot.open_own
    ·
     have hr0:rows.length=0:=by rw[h00];rfl
     have hn0:n=0:=by omega
     have hl0:lo=0:=by omega
     subst hn0 hl0
     have hxe:a.eval x= .slice none 0 0:=by
      rcases hxv with ⟨b,N,c,o',h3,_⟩|⟨_,h3,_⟩
      ·rw[h0] at h3;cases h3
      ·exact h3
     refine ⟨w,.tuple #[],tag,hv, ?_,hs.re (hHp0 w (fun _ _=>rfl) rfl rfl rfl rfl) (fun q hq=>by simp only[List.mem_singleton] at hq;subst hq;simp) (fun r' y hl'=> ?_)⟩
     ·simp[execOp,ho,resolve,invoke,builtin,Builtin.clear_,hxe,run_underlying hu]
     ·simp only[lkp] at hl'
      split at hl'
      ·rename_i he2
       subst he2
       cases hl'
       simp only[h00,List.take_nil,List.replicate_zero,List.drop_nil,List.append_nil]
       rw[h0]
       exact .own0 h0
      ·cases hl'
    ·obtain ⟨o',hxe,ho'⟩: ∃o',a.eval x= .slice (some ⟨b,o',none⟩) n (c-lo)∧(lo<c∨lo=0→o'=lo*sz):=by
      rcases hxv with ⟨b2,N,c2,o2,h3,h4,h5,h6⟩|⟨h3,_⟩
      ·rw[hv1] at h3
       cases h3
       exact ⟨o2,h4,h5⟩
      ·rw[hv1] at h3;cases h3
     have hgoal: ∀w' cur',w'.os=w.os→w'.tape=w.tape→w'.output=w.output→w'.heap.size=w.heap.size→(∀b',b'≠b→w'.heap[b']? =w.heap[b']?)→w'.heap[b]? =some (.cells cur' e (0,0))→cur'.size=cur.size→
       (∀k,cur'.getD k default=if lo*sz≤k∧k<lo*sz+n*sz then (Builtin.zeroCells (ti e').zv.cells n).toList.getD (k-lo*sz) default else cur.getD k default)→
       St w0 tag0 (E.re (fun _=>false) [] [[r]] [(r,.o e (fun k=>if lo≤k∧k<lo+n then z.map fun _=> .s else cols k),.ls z (rows.take lo++(List.replicate n z++rows.drop (lo+n))))]) tag hv a w':=by
      intro w' cur' q1 q2 q3 q4 q5 q6 q7 q8
      have hne: ∀b',tag b'≠ .own [r]→w'.heap[b']? =w.heap[b']? :=fun b' hb'=>q5 b' (fun e=>hb' (e▸htb))
      have hHp:=hHp0 w' hne q1 q2 q3 q4
      refine hs.re hHp (fun q hq=>by simp only[List.mem_singleton] at hq;subst hq;simp) (fun r' y hl'=> ?_)
      simp only[lkp] at hl'
      split at hl'
      ·rename_i he2
       subst he2
       cases hl'
       have hget: ∀x,(rows.take lo++(List.replicate n z++rows.drop (lo+n))).getD x z=if lo≤x∧x<lo+n then z else rows.getD x z:=fun x=>by
        rw[List.getD_eq_getElem?_getD]
        by_cases hx1:x<lo
        ·rw[List.getElem?_append_left (by simp;omega),List.getElem?_take,if_pos hx1,if_neg (by omega),←List.getD_eq_getElem?_getD]
        ·rw[List.getElem?_append_right (by simp;omega),List.length_take,Nat.min_eq_left (by omega)]
         by_cases hx2:x<lo+n
         ·rw[List.getElem?_append_left (by simp;omega),List.getElem?_replicate,if_pos (by omega),if_pos (by omega)]
          rfl
         ·rw[List.getElem?_append_right (by simp;omega),List.length_replicate,List.getElem?_drop,show lo+n+(x-lo-n)=x by omega,if_neg (by omega),←List.getD_eq_getElem?_getD]
       rw[hv1]
       refine .own cur' (by simp;omega) hc hm htb (hv1) q6 (q7.trans hcs) (fun x hx=> ?_) (fun x j hx hj=> ?_)
       ·rw[hget]
        split
        ·rfl
        ·exact hl x hx
       ·have hlf:lf z (rows.take lo++(List.replicate n z++rows.drop (lo+n))) x j=if lo≤x∧x<lo+n then z.getD j default else lf z rows x j:=by
         simp only[lf]
         rw[hget]
         split<;>rfl
        rw[hlf,q8]
        by_cases hin:lo≤x∧x<lo+n
        ·have hmd:md (fun k=>if lo≤k∧k<lo+n then z.map fun _=>Md.s else cols k) x j= .s:=by
          simp only[md,if_pos hin]
          rw[List.getD_eq_getElem?_getD,List.getElem?_map,List.getElem?_eq_getElem hj]
          rfl
         have hz0:0<sz:=by omega
         have hlow:lo*sz≤x*sz:=Nat.mul_le_mul_right _ hin.1
         have hup:x*sz+j<lo*sz+n*sz:=by
          have:(x+1)*sz≤(lo+n)*sz:=Nat.mul_le_mul_right _ (by omega)
          rw[Nat.add_mul,Nat.add_mul] at this
          omega
         rw[if_pos hin,hmd,hzs,if_pos ⟨by omega,hup⟩]
         have hzl:(ti e').zv.cells.size=sz:=by
          rw[←Array.length_toList,ge.zc,List.length_map,hez,hzs]
         have hidx:(Builtin.zeroCells (ti e').zv.cells n).toList.getD (x*sz+j-lo*sz) default=zval (z.getD j default):=by
          have e1:x*sz+j-lo*sz=(x-lo)*sz+j:=by rw[Nat.sub_mul];omega
          have hlt:(x-lo)*sz+j<n*sz:=by
           have:(x-lo+1)*sz≤n*sz:=Nat.mul_le_mul_right _ (by omega)
           rw[Nat.add_mul] at this
           omega
          rw[e1]
          simp only[Builtin.zeroCells,Array.toList_map,Array.toList_range,List.getD_eq_getElem?_getD,List.getElem?_map]
          rw[hzl,List.getElem?_range hlt]
          simp only[Option.map_some,Option.getD_some]
          rw[show ((x-lo)*sz+j)%sz=j by rw[Nat.mul_comm,Nat.mul_add_mod,Nat.mod_eq_of_lt (by omega)]]
          rw[getElem!_pos (ti e').zv.cells j (by omega)]
          have hj2:j< (ti e').zv.cells.toList.length:=by rw[Array.length_toList];omega
          have:(ti e').zv.cells.toList[j]=zval (z[j]):=by
           have h9:(ti e').zv.cells.toList[j]? =(z.map zval)[j]? :=by rw[ge.zc,hez]
           rw[List.getElem?_eq_getElem hj2,List.getElem?_map,List.getElem?_eq_getElem hj] at h9
           simpa using h9
          rw[Array.getElem_toList] at this
          rw[this,List.getElem?_eq_getElem hj]
          rfl
         rw[hidx]
         have hmem:z.getD j default∈(ti e').z:=by
          rw[hez,List.getD_eq_getElem?_getD,List.getElem?_eq_getElem hj]
          exact List.getElem_mem hj
         rcases ge.zf _ hmem with ⟨v,hv2,hsc⟩|⟨zz,hv2⟩
         ·rw[hv2]
          exact .sc (scal_one' hsc)
         ·rw[hv2]
          exact .sh0
        ·have hmd:md (fun k=>if lo≤k∧k<lo+n then z.map fun _=>Md.s else cols k) x j=md cols x j:=by
          simp only[md,if_neg hin]
         have hnot: ¬(lo*sz≤x*z.length+j∧x*z.length+j<lo*sz+n*sz):=by
          rintro ⟨g1,g2⟩
          rw[hzs] at g1 g2
          apply hin
          constructor
          ·rcases Nat.lt_or_ge x lo with g3|g3
           ·have:(x+1)*sz≤lo*sz:=Nat.mul_le_mul_right _ g3
            rw[Nat.add_mul] at this
            omega
           ·exact g3
          ·rcases Nat.lt_or_ge x (lo+n) with g3|g3
           ·exact g3
           ·have:(lo+n)*sz≤x*sz:=Nat.mul_le_mul_right _ g3
            rw[Nat.add_mul] at this
            omega
         rw[if_neg hin,hmd,if_neg hnot]
         have hx':x<rows.length:=hx
         refine (hr x j hx' hj).hp hHp hs.hi (fun rest _=>⟨by simp[dth],by simp⟩)
      ·cases hl'
     by_cases hn0:n=0
     ·subst hn0
      refine ⟨w,.tuple #[],tag,hv, ?_,hgoal w cur rfl rfl rfl rfl (fun _ _=>rfl) hbl rfl (fun k=>by rw[if_neg (by omega)])⟩
      simp[execOp,ho,resolve,invoke,builtin,Builtin.clear_,hxe,run_underlying hu]
     ·have ho2:o'=lo*sz:=ho' (.inl (by omega))
      subst ho2
      have hzl:(ti e').zv.cells.size=sz:=by
       rw[←Array.length_toList,ge.zc,List.length_map,hez,hzs]
      have hlen:(Builtin.zeroCells (ti e').zv.cells n).toList.length=n*sz:=by
       simp[Builtin.zeroCells,hzl]
      obtain ⟨w',q0,q1,q2,q3,q4,q5,cur',q6,q7,q8⟩:=run_storeCells_blk (P:=P) b e (Builtin.zeroCells (ti e').zv.cells n).toList cur (lo*sz) 0 w hbl (by
       rw[hlen,hcs,hzs]
       have:(lo+n)*sz≤c*sz:=Nat.mul_le_mul_right _ (by omega)
       rw[Nat.add_mul] at this
       omega) (fun v hv=>by
       obtain ⟨k,hk⟩:=List.getElem?_of_mem hv
       have hz0:0<sz:=by
        have:=ge.pos
        rw[←ge.zl,hez,hzs] at this
        exact this
       have hk2:k<n*sz:=by rw[←hlen];exact (List.getElem?_eq_some_iff.1 hk).1
       simp only[Builtin.zeroCells,Array.toList_map,Array.toList_range,List.getElem?_map] at hk
       rw[hzl,List.getElem?_range hk2] at hk
       simp only[Option.map_some,Option.some.injEq] at hk
       subst hk
       have hj:k%sz< (ti e').zv.cells.size:=by rw[hzl];exact Nat.mod_lt _ hz0
       rw[getElem!_pos (ti e').zv.cells (k%sz) hj]
       have hj2:k%sz< (ti e').zv.cells.toList.length:=by rw[Array.length_toList];exact hj
       have hzr:k%sz<z.length:=by rw[hzs];exact Nat.mod_lt _ hz0
       have:(ti e').zv.cells.toList[k%sz]=zval (z[k%sz]):=by
        have h9:(ti e').zv.cells.toList[k%sz]? =(z.map zval)[k%sz]? :=by rw[ge.zc,hez]
        rw[List.getElem?_eq_getElem hj2,List.getElem?_map,List.getElem?_eq_getElem hzr] at h9
        simpa using h9
       rw[Array.getElem_toList] at this
       rw[this]
       rcases ge.zf (z[k%sz]) (by rw[hez];exact List.getElem_mem hzr) with ⟨v,hv2,hsc⟩|⟨zz,hv2⟩
       ·rw[hv2]
        exact scal_one' hsc
       ·rw[hv2]
        rfl)
      refine ⟨w',.tuple #[],tag,hv, ?_,hgoal w' cur' q1 q2 q3 q4 q5 q6 q7 (fun k=>by rw[q8 k,hlen,Nat.add_zero])⟩
      have hzv: ∀w,(zeroValue e').run P w= .ok (ti e').zv w:=fun w=>by simp[zeroValue,typeInfo,hy1,hy4]
      cases n with
      |zero=>exact absurd rfl hn0
      |succ n=>simp[execOp,ho,resolve,invoke,builtin,Builtin.clear_,hxe,run_underlying hu,hzv,q0]
   ·cases h
  ·cases h
 ·cases h
theorem evU_ok (hT:TGood P ti) {o:Oper} (hs:St w0 tag0 E tag hv a w) (h:evU P ti o K E) (hN: ∀E' tag' hv' a' w',St w0 tag0 E' tag' hv' a' w'→K E'→N a' w'):o.wp P a w N Q:=by
 unfold evU at h
 split at h
 ·
  rename_i c x y ho
  split at h
  ·rename_i C r hp
   exact upon_value (pick3_ok hs ho hp h.1) (hN _ _ _ _ _ (hs.put mk_bool) h.2)
  ·exact h.elim
 ·
  rename_i t ho
  obtain ⟨h1,h2,h3⟩:=h
  have g:=hT t h1
  have hst:=hs.newBox (dn o) h2 (zLV_ok g) t
  rw[Array.toArray_toList] at hst
  exact upon_value (run_alloc g ho) (hN _ _ _ _ _ (hst.put (sv:= .p (.bx (dn o) 0)) ⟨w.heap.size,by simp[upH],rfl⟩) h3)
 ·
  rename_i t x ho
  split at h
  ·rename_i ag ls hx
   obtain ⟨cs,h1,h2,h3⟩:=opd_ok hs hx
   have hst:=hs.newBox (dn o) h.1 h2 t
   have hc:(a.eval x).cells=cs.toArray:=by
    apply Array.ext'
    rw[h1,cells_mkV h2 h3]
   have hr:=run_box (P:=P) (a:=a) (w:=w) ho
   rw[hc] at hr
   exact upon_value hr (hN _ _ _ _ _ (hst.put (sv:= .p (.bx (dn o) 0)) ⟨w.heap.size,by simp[upH],rfl⟩) h.2)
  ·exact h.elim
 ·
  rename_i t x y ho
  split at h
  ·rename_i b off ag new hx hy
   split at h
   ·rename_i ls hb
    obtain ⟨h1,h2,h3,h4⟩:=h
    obtain ⟨w',h5,h6⟩:=hs.storeBx hT h1 hb (opd_ok hs hx) (opd_ok hs hy) h2 h3
    unfold Oper.wp
    have hr:(execOp a.eval o).run P w= .ok .skip w':=by simp only[execOp,ho,Sem.run_bind,h5,Result.andThen_ok,Sem.run_pure]
    rw[hr]
    exact hN _ _ _ _ _ (h6.put (sv:= .dead) trivial) h4
   ·exact h.elim
  ·rename_i p sz i off ag new hx hy
   split at h
   ·rename_i E1 new1 hnl
    obtain ⟨hs1,hp1,hv1,hn1⟩:=hs.nlP hnl (opd_ok hs hx) (opd_ok hs hy)
    split at h
    ·rename_i C E' hst
     obtain ⟨h1,h2,h3,h4,h5⟩:=h
     obtain ⟨w',tg,hh,h6,h7⟩:=hs1.storePt hT h1 hp1 hv1 (hn1.trans h2) hst h4 (fun z hz=>by
      obtain ⟨r,rest,x,e,cols,rows,rfl,q1,q2⟩:=hz
      simpa [Env.szAt,Env.at_,q1,q2] using h3)
     unfold Oper.wp
     have hr:(execOp a.eval o).run P w= .ok .skip w':=by simp only[execOp,ho,Sem.run_bind,h6,Result.andThen_ok,Sem.run_pure]
     rw[hr]
     exact hN _ _ _ _ _ (h7.put (sv:= .dead) trivial) h5
    ·exact h.elim
   ·split at h
    ·rename_i C E' hst
     obtain ⟨h1,h2,h3,h4,h5⟩:=h
     obtain ⟨w',tg,hh,h6,h7⟩:=hs.storePt hT h1 (opd_ok hs hx) (opd_ok hs hy) h2 hst h4 (fun z hz=>by
      obtain ⟨r,rest,x,e,cols,rows,rfl,q1,q2⟩:=hz
      simpa [Env.szAt,Env.at_,q1,q2] using h3)
     unfold Oper.wp
     have hr:(execOp a.eval o).run P w= .ok .skip w':=by simp only[execOp,ho,Sem.run_bind,h6,Result.andThen_ok,Sem.run_pure]
     rw[hr]
     exact hN _ _ _ _ _ (h7.put (sv:= .dead) trivial) h5
    ·exact h.elim
  ·exact h.elim
 ·
  rename_i t x y ho
  split at h
  ·rename_i C E' hm
   unfold mkO at hm
   split at hm
   ·rename_i k1 n k2 m e hx hy he
    cases hm
    obtain ⟨⟨rfl,h1,h2,h3,h4,h5,h6⟩,hK⟩:=h
    have hx':=SR_int (opd_ok hs hx)
    have hy':=SR_int (opd_ok hs hy)
    obtain ⟨w',v,tg,hh,h7,h8,h9⟩:=run_mk (kl:=k1) (kc:=k2) hT hs h6 h2 he h3 rfl h4 h5
    rw[Int.toNat_of_nonneg h1] at h7
    unfold Oper.wp
    have hr:(execOp a.eval o).run P w= .ok (.value v) w':=by simp only[execOp,ho,hx',hy',Sem.run_bind,h7,Result.andThen_ok,Sem.run_pure]
    rw[hr]
    exact hN _ _ _ _ _ (h8.put h9) hK
   ·cases hm
  ·exact h.elim
 ·
  rename_i t n parts ho
  split at h
  ·rename_i C E' hm
   obtain ⟨v,w',tg,hh,h1,h2,h3⟩:=bsO_ok hT hs ho hm h.1
   unfold Oper.wp
   rw[h1]
   exact hN _ _ _ _ _ (h2.put h3) h.2
  ·split at h
   ·rename_i C E' hm
    obtain ⟨v,w',tg,hh,h1,h2,h3⟩:=bsNest_ok hT hs ho hm h.1
    unfold Oper.wp
    rw[h1]
    exact hN _ _ _ _ _ (h2.put h3) h.2
   ·exact h.elim
 ·
  rename_i c ho
  split at h
  ·rename_i C k as R hc
   obtain ⟨hC,⟨rs,hvc,hR,hd,hK⟩|⟨as',ms,n,hvm,hk⟩|⟨as',ms,rs,hvx,hk⟩|hb|⟨Φ,hvn,hnw⟩⟩:=h
   case inr.inr.inr.inr=>
    obtain ⟨rfl,hd,hK⟩:=hnw
    obtain ⟨vs,h1,h2⟩:=callO_ok hs ho hc hC hvn.1
    unfold Oper.wp
    rw[h1,Oper.upon_enter]
    refine (hvn.2 w (lend [] tag) hv vs (lend_cases []) (fun b hb=>by simp[lend,hs.hi b hb]) h2).mono ?_
    rintro e w' ⟨ls,tag',hv',k',cur,T,hΦ,rfl,hfr,hi',q1,q2,q3,q4⟩
    obtain ⟨tg,hh,h3,h4⟩:=hs.newPt hd hfr hi' q1 q2 q3 q4
    exact hN _ _ _ _ _ (h3.put h4) (hK ls hΦ)
   case inr.inr.inr.inl=>
    obtain ⟨k,vs,h1,h2⟩:=kB_ok hs ho hb
    unfold Oper.wp
    rw[h1,Oper.upon_enter]
    refine h2.mono ?_
    rintro e w' ⟨rv,sv,rfl,E',tg,hh,h3,h4,h5⟩
    exact hN _ _ _ _ _ (h3.put h4) h5
   case inr.inr.inl=>
    obtain ⟨vs,h1,h2⟩:=kUse_ok hs ho hc hvx hk
    unfold Oper.wp
    rw[h1,Oper.upon_enter]
    refine h2.mono ?_
    rintro e w' ⟨rv,rfl,E',tg,hh,h3,h4,h5⟩
    exact hN _ _ _ _ _ (h3.put h4) h5
   case inr.inl=>
    obtain ⟨vs,h1,h2⟩:=kMut_ok hs ho hc hvm hk
    unfold Oper.wp
    rw[h1,Oper.upon_enter]
    refine h2.mono ?_
    rintro e w' ⟨rfl,E',tg,hh,h3,h4⟩
    exact hN _ _ _ _ _ (h3.put (by cases n with|none=>trivial|some n=>exact mk_int)) h4
   obtain ⟨vs,h1,h2⟩:=callO_ok hs ho hc hC hvc.1
   unfold Oper.wp
   rw[h1,Oper.upon_enter]
   refine (hvc.2 w (lend R tag) hv vs (lend_cases R) (fun b hb=> ?_) h2).mono ?_
   ·simp[lend,hs.hi b hb]
   ·rintro e w' ⟨tag',hv',rv,rfl,hfr,hi',hrv⟩
    obtain ⟨tg,hh,h3,h4⟩:=hs.ret hd hfr hi' hR hrv
    exact hN _ _ _ _ _ (h3.put h4) hK
  ·split at h
   ·rename_i C sv hp
    exact pur_wp hT hs hp h.1 h.2 hN
   ·split at h
    ·rename_i C E' hm
     unfold appX at hm
     split at hm
     ·rename_i h1 h2 h3
      obtain ⟨v,w',tg,hh,h4,h5,h6⟩:=appO_ok hT hs ho (by
       obtain ⟨c1,c2,c3⟩:=c
       simp only at h1 h2 h3
       rw[h1,show c2=_ from (Array.toList_inj.1 (h2.trans rfl)),show c3=_ from (Array.toList_inj.1 (h3.trans rfl))]) hm h.1
      unfold Oper.wp
      rw[h4]
      exact hN _ _ _ _ _ (h5.put h6) h.2
     ·cases hm
    ·split at h
     ·rename_i C E' hm
      obtain ⟨w',v,tg,hh,h4,h5⟩:=clrX_ok hT hs ho hm h.1
      unfold Oper.wp
      rw[h4]
      exact hN _ _ _ _ _ (h5.put (sv:= .dead) trivial) h.2
     ·split at h
      ·rename_i C E' hm
       obtain ⟨v,w',tg,hh,h4,h5,h6,_⟩:=appN_ok hT hs ho hm h.1
       unfold Oper.wp
       rw[h4]
       exact hN _ _ _ _ _ (h5.put h6) h.2
      ·obtain ⟨k,vs,h1,h2⟩:=kB_ok hs ho h
       unfold Oper.wp
       rw[h1,Oper.upon_enter]
       refine h2.mono ?_
       rintro e w' ⟨rv,sv,rfl,E',tg,hh,h3,h4,h5⟩
       exact hN _ _ _ _ _ (h3.put h4) h5
 ·split at h
  ·rename_i C sv hp
   exact pur_wp hT hs hp h.1 h.2 hN
  ·split at h
   ·rename_i C sv hp
    obtain ⟨v,w',tg,h1,h2,h3⟩:=cvB_ok hT hs hp h.1
    exact upon_value h1 (hN _ _ _ _ _ (h2.put h3) h.2)
   ·exact h.elim
theorem St.fresh_same (hs:St w0 tag0 E tag hv a w) (D:Nat→Bool):St w0 tag0 (E.fresh D) tag hv a w:=
 hs.hop ⟨fun _ _ h=>⟨h,rfl⟩,fun _ _ _ _ h _=>⟨h,rfl⟩,fun _ _ _=>rfl⟩ hs.fr hs.hi
theorem evG_ok (hT:TGood P ti) {g:Bool} {o:Oper} (hs:St w0 tag0 E tag hv a w) (h:evG P ti g o K E) (hN: ∀E' tag' hv' a' w',St w0 tag0 E' tag' hv' a' w'→K E'→N a' w'):
  if g=true then o.wp P a w N Q else N (a.put o.dst undef) w:=by
 have hpur:(match pur ti (E.un (opTmps o.op)) o with
   |some (C,sv)=>(g=true→gsOk E (opTmps o.op)∧C)∧K (E.put o.dst (.g g sv))
   |none=>False)→if g=true then o.wp P a w N Q else N (a.put o.dst undef) w:=by
  intro h
  split at h
  ·rename_i C sv hp
   split
   ·rename_i hg
    obtain ⟨h1,h2⟩:=h.1 hg
    obtain ⟨v,h3,h4⟩:=pur_ok hT (hs.un h1) hp h2
    exact upon_value h3 (hN _ _ _ _ _ (hs.put (sv:= .g g sv) ⟨fun _=>h4,fun hf=>by rw[hg] at hf;cases hf⟩) h.2)
   ·rename_i hg
    exact hN _ _ _ _ _ (hs.put (sv:= .g g sv) ⟨fun hf=>absurd hf hg,fun _=>rfl⟩) h.2
  ·exact h.elim
 unfold evG at h
 split at h
 ·
  rename_i c x y ho
  split at h
  ·rename_i C r hp
   split
   ·rename_i hg
    exact upon_value (pick3_ok hs ho hp (h.1 hg)) (hN _ _ _ _ _ (hs.put (sv:= .g g (bool r)) ⟨fun _=>mk_bool,fun hf=>by rw[hg] at hf;cases hf⟩) h.2)
   ·rename_i hg
    exact hN _ _ _ _ _ (hs.put (sv:= .g g (bool r)) ⟨fun hf=>absurd hf hg,fun _=>rfl⟩) h.2
  ·exact h.elim
 ·
  rename_i c ho
  split at h
  ·rename_i C k as R hc
   obtain ⟨rs,h1,hR,hf,hK⟩:=h
   split
   ·rename_i hg
    obtain ⟨⟨h2,hC⟩,hvc⟩:=h1 hg
    obtain ⟨vs,h3,h4⟩:=callO_ok (hs.un h2) ho hc hC hvc.1
    unfold Oper.wp
    rw[h3,Oper.upon_enter]
    refine (hvc.2 w (lend R tag) hv vs (lend_cases R) (fun b hb=> ?_) h4).mono ?_
    ·simp[lend,hs.hi b hb]
    ·rintro e w' ⟨tag',hv',rv,rfl,hfr,hi',hrv⟩
     obtain ⟨tg,h5,h6⟩:=hs.retF hfr hi' hR hf hrv
     exact hN _ _ _ _ _ (h5.put (sv:= .g g (frzS rs)) ⟨fun _=>h6,fun hf=>by rw[hg] at hf;cases hf⟩) hK
   ·rename_i hg
    exact hN _ _ _ _ _ (hs.put (sv:= .g g (frzS rs)) ⟨fun hf=>absurd hf hg,fun _=>rfl⟩) hK
  ·exact hpur h
 ·exact hpur h
theorem ev_ok (hT:TGood P ti) (ops:Array Oper): ∀ (rest:List Oper) {E:Env} {tag:Nat→Tag} {hv:Hv} {a:Act} {w:World},St w0 tag0 E tag hv a w→ev P ti ops.toList rest K E→
  (∀E' tag' hv' a' w',St w0 tag0 E' tag' hv' a' w'→K E'→Q .normal a' w')→wpList P ops Q rest a w
 | [],E,tag,hv,a,w,hs,h,hN=>wpList_nil (hN _ _ _ _ _ hs h)
 |o::rest,E,tag,hv,a,w,hs,h,hN=>by
  simp only[ev] at h
  split at h
  ·rename_i hg
   refine wpList_plain hg fun K' hK'=> ?_
   exact evU_ok hT hs h (fun E' tag' hv' a' w' hs' hk=>hK' _ _ (ev_ok hT ops rest hs' hk hN))
  ·rename_i j b hg
   split at h
   ·rename_i g hgb
    refine wpList_step fun K' hK'=> ?_
    have h1:=guardB_ok hs hgb
    have h2:Region.wanted o (yielded ops a.tmps)=g:=by simp only[Region.wanted,hg];exact h1
    rw[h2]
    exact evG_ok hT hs h (fun E' tag' hv' a' w' hs' hk=>hK' _ _ (ev_ok hT ops rest hs' hk hN))
   ·exact h.elim
end Go.Sm
namespace Go.Sm
open Go.RowKit
variable {P : Program} {ti : TT} {E : Env} {tag tag' tag0 : Nat → Tag} {hv hv' : Hv} {a : Act} {w w' w0 : World} {t d : Nat}
variable {N : Act → World → Prop} {Q : Exit → Act → World → Prop} {K : Env → Prop}
def lks (ops:List Oper) (o:Oper):List Nat:=
 opTmps2 o.op++(match o.guard with
  |some (j,_)=>match ops[j]? with
   |some oj=>match oj.dst with|some t=> [t]|none=> []
   |none=> []
  |none=> [])
where opTmps2:Op→List Nat
 | .pick c x y=>tm c++(tm x++tm y)
 | .buildSlice _ _ parts=>parts.toList.flatMap fun q=>tm q.2
 |op=>opTmps op
abbrev RT:=List (Nat×Md×Lf)
abbrev DK:=SV→RT→List Nat→Prop
def kCallD (R:List Nat) (d:Nat) (dst:Option Nat) (K:DK) (rs:List (Bool×ML)):Prop:=(R= []∨OwRs rs)∧d<1000∧dst.isSome=true∧K (resS d rs) (resRs d 0 rs) []
def kCallDG (R:List Nat) (g:Bool) (K:DK) (rs:List (Bool×ML)):Prop:=(R= []∨OwRs rs)∧FullRs rs∧K (.g g (frzS rs)) [] []
def ksL:Option Nat→Option Nat→List Nat
 |none,none=> []
 |some k,none=> [k]
 |none,some k=> [k]
 |some k,some k'=> [k,k']
def appDS (ti:TT) (E:Env) (d t1 t2:Nat) (s x:Operand):Option (Prop×List Nat×(Md×Lf)):=
 match opd ti E t1 s,opd ti E t2 x,(ti t1).elt with
 |some (.v false [b]),some sv,some e=>match E.appB e b,appZ ti E e b with
  |some (C1,rows,cols,k),some z=>match E.appS ti z t2 sv with
   |some (C2,rows',cols',kill)=>some ((ti t1).ok=true∧(ti t2).ok=true∧(ti e).ok=true∧(ti e).sz=z.length∧d<1000∧C1∧C2∧(rows.length+rows'.length)* (ti e).by_≤140737488355328∧(∀r,kill=some r→k≠some r),
     ksL k kill,(.o e (appC rows.length k cols cols'),.ls z (rows++rows')))
   |none=>none
  |_,_=>none
 |_,_,_=>none
def appDX (ti:TT) (E:Env) (d:Nat) (c:Call):Option (Prop×List Nat×(Md×Lf)):=
 match c.callee,c.args.toList,c.argTypes.toList with
 | .builtin .append,[s,x],[t1,t2]=>appDS ti E d t1 t2 s x
 |_,_,_=>none
def Env.bsD (E:Env) (d e n:Nat) (ms:List Md) (z:List Lf) (F:List LV):Option (Prop×List Nat×(Md×Lf)):=
 match E.yvsR ms (chunks z.length n F) with
 |some ys=>some (((mvsR d 0 (chunks z.length n F)).map (·.1)).Nodup∧F.length=n*z.length,(mvsR d 0 (chunks z.length n F)).map (·.1),(.o e (colsE ms z (ys.map fun r=>r.map (·.1))),.ls z (ys.map fun r=>r.map (·.2))))
 |none=>none
def bsDO (ti:TT) (E:Env) (d t n:Nat) (parts:List (Nat×Operand)):Option (Prop×List Nat×(Md×Lf)):=
 match (ti t).elt with
 |some e=>match bparts ti E (fun i=>some (i* (ti e).sz,e)) parts (List.replicate n ((ti e).z.map zLV)).flatten with
  |some (C,F)=>match E.bsD d e n (ti e).ms (ti e).z F with
   |some (D,r)=>some ((ti t).ok=true∧(ti e).ok=true∧n* (ti e).sz≤16777216∧d<1000∧C∧D,r)
   |none=>none
  |none=>none
 |none=>none
def CallD (P:Program) (k:Nat) (as:List SV) (F:List (Bool×ML)→Prop) (H:List SV→List (Md×Lf)→List (Bool×ML)→Prop):Prop:=(∃rs,VC P k as rs∧F rs)∨ ∃as' ms rs,VX P k as' ms rs∧H as' ms rs
theorem CallD.of {P:Program} {k:Nat} {as:List SV} {F:List (Bool×ML)→Prop} {H:List SV→List (Md×Lf)→List (Bool×ML)→Prop} {rs:List (Bool×ML)} (h:VC P k as rs) (hF:F rs):CallD P k as F H:= .inl ⟨rs,h,hF⟩
theorem CallD.use {P:Program} {k:Nat} {as as':List SV} {F:List (Bool×ML)→Prop} {H:List SV→List (Md×Lf)→List (Bool×ML)→Prop} {ms:List (Md×Lf)} {rs:List (Bool×ML)} (h:VX P k as' ms rs) (hH:H as' ms rs):CallD P k as F H:= .inr ⟨as',ms,rs,h,hH⟩
def kUseD (ti:TT) (c:Call) (d:Nat) (dst:Option Nat) (K:DK) (E:Env) (as':List SV) (ms:List (Md×Lf)) (rs:List (Bool×ML)):Prop:=
 match c.callee with
 | .value f=>match opd ti E 0 f,argsO ti E c.args.toList c.argTypes.toList with
  |some (.fn _ []),some ss=>match E.usS (ss.flatMap SV.pls) ss with
   |some (C,ss')=>C∧as'=ss'∧hdsOk (ss.flatMap SV.pls)∧(∀p∈ss.flatMap SV.pls,hd0 p∉ss.flatMap (SV.lnm E))∧(∀p∈ss.flatMap SV.pls,p.length=1)∧uPre E (ss.flatMap SV.pls) ms∧(ss.flatMap (SV.lnm E)= []∨OwRs rs)∧d<1000∧dst.isSome=true∧
    K (resS d rs) (resRs d 0 rs) ((ss.flatMap SV.pls).map hd0)
   |none=>False
  |_,_=>False
 |_=>False
def dU (P:Program) (ti:TT) (o:Oper) (K:DK) (E:Env):Prop:=
 match o.op with
 | .pick c x y=>match pick3 ti E c x y with
  |some (C,r)=>C∧K (bool r) [] []
  |none=>False
 | .alloc t=>(ti t).ok=true∧msK (ti t).ms (ti t).z=true∧o.dst.isSome=true∧dn o<1000∧K (.p (.pt [dn o] (ti t).z.length 0 0)) [(dn o,.o t (fun _=>msF (ti t).ms (ti t).z),.ls (ti t).z [(ti t).z])] []
 | .buildSlice t n parts=>match bsDO ti E (dn o) t n parts.toList with
  |some (C,ks,m,l)=>C∧o.dst.isSome=true∧dn o<1000∧K (.v false [.r [dn o]]) [(dn o,m,l)] ks
  |none=>False
 | .call c=>match callO ti E c with
  |some (C,k,as,R)=>C∧CallD P k as (kCallD R (dn o) o.dst K) (kUseD ti c (dn o) o.dst K E)
  |none=>match pur ti E o with
   |some (C,sv)=>C∧K sv [] []
   |none=>match appDX ti E (dn o) c with
    |some (C,ks,m,l)=>C∧o.dst.isSome=true∧dn o<1000∧K (.v false [.r [dn o]]) [(dn o,m,l)] ks
    |none=>False
 |_=>match pur ti E o with
  |some (C,sv)=>C∧K sv [] []
  |none=>match cvB ti E o with
   |some (C,sv)=>C∧K sv [] []
   |none=>False
def dG (P:Program) (ti:TT) (g:Bool) (o:Oper) (K:DK) (E:Env):Prop:=
 match o.op with
 | .pick c x y=>match pick3 ti E c x y with
  |some (C,r)=>(g=true→C)∧K (.g g (bool r)) [] []
  |none=>False
 | .call c=>match callO ti (E.un (opTmps o.op)) c with
  |some (C,k,as,R)=>CallG P (g=true) (gsOk E (opTmps o.op)∧C) k as (kCallDG R g K)
  |none=>match pur ti (E.un (opTmps o.op)) o with
   |some (C,sv)=>(g=true→gsOk E (opTmps o.op)∧C)∧K (.g g sv) [] []
   |none=>False
 |_=>match pur ti (E.un (opTmps o.op)) o with
  |some (C,sv)=>(g=true→gsOk E (opTmps o.op)∧C)∧K (.g g sv) [] []
  |none=>False
def LV.nms:LV→List Nat
 | .r (k::_)=> [k]
 |_=> []
def PV.nms:PV→List Nat
 | .pt (k::_) _ _ _=> [k]
 | .vw (k::_) _ _ _=> [k]
 | .bx b _=> [b]
 |_=> []
def SV.nms:SV→List Nat
 | .v _ ls=>ls.flatMap LV.nms
 | .tu ps=>ps.flatMap fun q=>q.2.flatMap LV.nms
 | .p q=>q.nms
 | .fn _ caps=>caps.flatMap PV.nms
 | .g _ s=>s.nms
 | .pin r _ _=> [r]
 | .dead=> []
def Env.kp (E : Env) (ts : List Nat) : Env :=
  { E with sl := keepL E.sl ts, bx := keepL E.bx ((keepL E.sl ts).flatMap fun x => x.2.nms),
           rt := keepL E.rt ((keepL E.sl ts).flatMap (fun x => x.2.nms) ++ (keepL E.bx ((keepL E.sl ts).flatMap fun x => x.2.nms)).flatMap fun x => x.2.flatMap LV.nms) }
theorem St.kp (hs:St w0 tag0 E tag hv a w) (ts:List Nat):St w0 tag0 (E.kp ts) tag hv a w:=
 hs.weak rfl (fun t sv h=>lkp_keepL _ t sv ts h) (fun b ls h=>lkp_keepL _ b ls _ h) (fun r y h=>lkp_keepL _ r y _ h)
def Env.addR (E:Env) (rts:RT):Env:= {E with rt:=rts++E.rt}
def isCallO (o:Oper):Bool:=match o.op with
 | .call c=>match c.callee with| .value _=>o.dst.isSome| .builtin .append=>o.dst.isSome|_=>false
 | .buildSlice _ _ _=>o.dst.isSome
 | .alloc _=>o.dst.isSome
 |_=>false
def predB (ops:List Oper) (i j:Nat):Bool:=match ops[i]? with
 |some o=>o.after.toList.any fun e=>Region.binds .any e&&e.on==j
 |none=>false
def closE (rc:Nat→Bool) (i:Nat):List Edge→Bool
 | []=>false
 |e::r=>if Region.binds .any e=true then (if e.on≤i then closE rc i r else if rc e.on=true then true else closE rc i r) else closE rc i r
theorem closE_mem {rc:Nat→Bool} {i:Nat}: ∀ {l:List Edge},closE rc i l=true→ ∃e∈l,Region.binds .any e=true∧rc e.on=true
 | [],h=>by cases h
 |e::r,h=>by
  simp only[closE] at h
  split at h
  ·rename_i hb
   split at h
   ·obtain ⟨e',h1,h2⟩:=closE_mem h
    exact ⟨e',by simp[h1],h2⟩
   ·split at h
    ·rename_i hr
     exact ⟨e,by simp,hb,hr⟩
    ·obtain ⟨e',h1,h2⟩:=closE_mem h
     exact ⟨e',by simp[h1],h2⟩
  ·obtain ⟨e',h1,h2⟩:=closE_mem h
   exact ⟨e',by simp[h1],h2⟩
def closB (ops:List Oper):Nat→Nat→Nat→Bool
 |0,_,_=>false
 |f+1,i,k=>if predB ops k i=true then true else match ops[k]? with
  |some o=>closE (closB ops f i) i o.after.toList
  |none=>false
def LV.hit (d:Nat→Bool):LV→Bool
 | .r (k::_)=>d k
 | .r []=>true
 |_=>false
def SV.hit (d:Nat→Bool):SV→Bool
 | .v _ ls=>ls.any (LV.hit d)
 | .tu ps=>ps.any fun q=>q.2.any (LV.hit d)
 | .p q=>q.hd d
 | .fn _ caps=>caps.any (PV.hd d)
 | .g _ s=>s.hit d
 | .pin r _ _=>d r
 | .dead=>false
def callsOf:List Oper→Nat→List (Nat×Nat)
 | [],_=> []
 |o::r,i=>match isCallO o with
  |true=>(i,dn o)::callsOf r (i+1)
  |false=>callsOf r (i+1)
theorem callsOf_mem: ∀ {l:List Oper} {n i:Nat} {o:Oper},l[i]? =some o→isCallO o=true→(n+i,dn o)∈callsOf l n
 | [],_,_,_,h,_=>by simp at h
 |x::r,n,0,o,h,hc=>by
  simp only[List.getElem?_cons_zero,Option.some.injEq] at h
  subst h
  simp[callsOf,hc]
 |x::r,n,i+1,o,h,hc=>by
  have:=callsOf_mem (l:=r) (n:=n+1) (i:=i) (by simpa using h) hc
  rw[show n+1+i=n+(i+1) by omega] at this
  unfold callsOf
  split
  ·exact List.mem_cons_of_mem _ this
  ·exact this
def clrL (ops:List Oper) (k:Nat) (sv:SV):List (Nat×Nat)→Prop
 | []=>True
 |(i,d)::r=>(if sv.hit (fam d)=true then (if i=k then True else closB ops ops.length i k=true) else True)∧clrL ops k sv r
theorem clrL_mem {ops:List Oper} {k:Nat} {sv:SV}: ∀ {L:List (Nat×Nat)} {i d:Nat},clrL ops k sv L→(i,d)∈L→i≠k→sv.hit (fam d)=true→closB ops ops.length i k=true
 | [],_,_,_,h=>by cases h
 |(i',d')::r,i,d,h,hm=>by
  rcases List.mem_cons.1 hm with e|hm
  ·cases e
   intro h1 h2
   have h3:=h.1
   rwa [if_pos h2,if_neg h1] at h3
  ·exact clrL_mem h.2 hm
theorem clrL_ok {ops:List Oper} {k:Nat} {sv:SV} (h:clrL ops k sv (callsOf ops 0)) (i:Nat) (o:Oper) (ho:ops[i]? =some o) (hc:isCallO o=true) (hne:0+i≠k) (hh:sv.hit (fam (dn o))=true):closB ops ops.length (0+i) k=true:=
 clrL_mem h (callsOf_mem ho hc) hne hh
def inL:List Nat→Nat→Bool
 | [],_=>false
 |k::r,x=>if k=x then true else inL r x
theorem inL_mem: ∀ {l:List Nat} {x:Nat},inL l x=true↔x∈l
 | [],x=>by simp[inL]
 |k::r,x=>by
  simp only[inL]
  split
  ·rename_i h
   simp[h]
  ·rename_i h
   rw[inL_mem,List.mem_cons]
   constructor
   ·exact .inr
   ·rintro (e|h1)
    ·exact absurd e.symm h
    ·exact h1
def klS (D:Nat→Bool):List (Nat×SV)→List (Nat×SV)
 | []=> []
 |(k,x)::r=>if x.nms.any D=true then delL (klS D r) k else (k,x)::klS D r
theorem lkp_klS {D:Nat→Bool} {t:Nat} {sv:SV}: ∀ {l:List (Nat×SV)},lkp (klS D l) t=some sv↔lkp l t=some sv∧sv.nms.any D=false
 | []=>by simp[klS,lkp]
 |(k,x)::r=>by
  simp only[klS]
  split
  ·rename_i h
   rw[lkp_delL]
   simp only[lkp]
   split
   ·constructor
    ·intro h;cases h
    ·rintro ⟨h1,h2⟩
     cases h1
     rw[h2] at h
     cases h
   ·exact lkp_klS
  ·rename_i h
   simp only[lkp]
   split
   ·constructor
    ·intro h1
     cases h1
     exact ⟨rfl,by simpa using h⟩
    ·exact fun h=>h.1
   ·exact lkp_klS
def bxS (D:Nat→Bool):List (Nat×List LV)→List (Nat×List LV)
 | []=> []
 |(k,x)::r=>if D k=true then delL (bxS D r) k else if (x.flatMap LV.nms).any D=true then delL (bxS D r) k else (k,x)::bxS D r
theorem lkp_bxS {D:Nat→Bool} {t:Nat} {ls:List LV}: ∀ {l:List (Nat×List LV)},lkp (bxS D l) t=some ls↔lkp l t=some ls∧D t=false∧(ls.flatMap LV.nms).any D=false
 | []=>by simp[bxS,lkp]
 |(k,x)::r=>by
  simp only[bxS]
  split
  ·rename_i h
   rw[lkp_delL]
   simp only[lkp]
   split
   ·rename_i e
    subst e
    constructor
    ·intro h;cases h
    ·rintro ⟨_,h2,_⟩
     rw[h2] at h
     cases h
   ·exact lkp_bxS
  ·rename_i hk
   split
   ·rename_i h
    rw[lkp_delL]
    simp only[lkp]
    split
    ·constructor
     ·intro h;cases h
     ·rintro ⟨h1,_,h2⟩
      cases h1
      rw[h2] at h
      cases h
    ·exact lkp_bxS
   ·rename_i h
    simp only[lkp]
    split
    ·rename_i e
     subst e
     constructor
     ·intro h1
      cases h1
      exact ⟨rfl,by simpa using hk,by simpa using h⟩
     ·exact fun h=>h.1
    ·exact lkp_bxS
def Env.killD (E:Env) (D:Nat→Bool):Env:= {E with sl:=klS D E.sl,bx:=bxS D E.bx,rt:=delD E.rt D}
def Env.kill (E:Env) (ks:List Nat):Env:=match ks with
 | []=>E
 |_::_=>E.killD (inL ks)
structure Env.le (E1 E2:Env):Prop where
 nt:E1.nt=E2.nt
 sl: ∀t sv,lkp E1.sl t=some sv→lkp E2.sl t=some sv
 bx: ∀b ls,lkp E1.bx b=some ls→lkp E2.bx b=some ls
 rt: ∀r y,lkp E1.rt r=some y→lkp E2.rt r=some y
theorem Env.le.refl (E:Env):E.le E:=⟨rfl,fun _ _ h=>h,fun _ _ h=>h,fun _ _ h=>h⟩
theorem Env.le.trans {E1 E2 E3:Env} (h:E1.le E2) (h':E2.le E3):E1.le E3:=⟨h.nt.trans h'.nt,fun t sv q=>h'.sl t sv (h.sl t sv q),fun t sv q=>h'.bx t sv (h.bx t sv q),fun t sv q=>h'.rt t sv (h.rt t sv q)⟩
theorem St.le {E':Env} (hs:St w0 tag0 E tag hv a w) (h:E'.le E):St w0 tag0 E' tag hv a w:=hs.weak h.nt h.sl h.bx h.rt
theorem lkp_delD' {α:Type} {D:Nat→Bool} {r:Nat} {y:α} {l:List (Nat×α)}:lkp (delD l D) r=some y↔lkp l r=some y∧D r=false:=by
 rw[lkp_delD]
 cases h:D r<;>simp
theorem Env.killD_le (E:Env) (D:Nat→Bool):(E.killD D).le E:=⟨rfl,fun _ _ h=>(lkp_klS.1 h).1,fun _ _ h=>(lkp_bxS.1 h).1,fun _ _ h=>(lkp_delD'.1 h).1⟩
theorem Env.kill_le (E:Env) (ks:List Nat):(E.kill ks).le E:=by
 unfold Env.kill
 split
 ·exact .refl _
 ·exact E.killD_le _
theorem any_mono {D D':Nat→Bool} (h: ∀r,D' r=true→D r=true) {l:List Nat} (hl:l.any D=false):l.any D'=false:=by
 rw[List.any_eq_false] at hl⊢
 exact fun x hx hd=>hl x hx (h x hd)
theorem Env.le.killD {E1 E2:Env} (h:E1.le E2) {D D':Nat→Bool} (hD: ∀r,D' r=true→D r=true):(E1.killD D).le (E2.killD D'):=by
 have hf: ∀r,D r=false→D' r=false:=fun r hr=>by
  cases hq:D' r with
  |false=>rfl
  |true=>have:=hD r hq;simp_all
 refine ⟨h.nt,fun t sv q=> ?_,fun b ls q=> ?_,fun r y q=> ?_⟩
 ·have:=lkp_klS.1 q
  exact lkp_klS.2 ⟨h.sl t sv this.1,any_mono hD this.2⟩
 ·have:=lkp_bxS.1 q
  exact lkp_bxS.2 ⟨h.bx b ls this.1,hf _ this.2.1,any_mono hD this.2.2⟩
 ·have:=lkp_delD'.1 q
  refine lkp_delD'.2 ⟨h.rt r y this.1, ?_⟩
  cases hq:D' r with
  |false=>rfl
  |true=>have:=hD r hq;simp_all
theorem Env.le.kill {E1 E2:Env} (h:E1.le E2) (ks:List Nat):(E1.kill ks).le (E2.kill ks):=by
 unfold Env.kill
 split
 ·exact h
 ·exact h.killD fun _ h=>h
theorem Env.kill_D {E:Env} {ks:List Nat}:(E.kill ks).le (E.killD (inL ks)):=by
 unfold Env.kill
 split
 ·refine ⟨rfl,fun t sv q=>lkp_klS.2 ⟨q, ?_⟩,fun b ls q=>lkp_bxS.2 ⟨q,rfl, ?_⟩,fun r y q=>lkp_delD'.2 ⟨q,rfl⟩⟩
  ·rw[List.any_eq_false]
   intro x _ h
   cases h
  ·rw[List.any_eq_false]
   intro x _ h
   cases h
 ·exact .refl _
theorem Env.kp_le (E:Env) (ts:List Nat):(E.kp ts).le E:=⟨rfl,fun t sv h=>lkp_keepL _ t sv ts h,fun b ls h=>lkp_keepL _ b ls _ h,fun r y h=>lkp_keepL _ r y _ h⟩
def kilB:List Oper→Bool
 | []=>false
 |o::r=>match o.op with
  | .call c=>match c.callee with
   | .builtin .append=>true
   | .value _=>true
   |_=>kilB r
  | .buildSlice _ _ _=>true
  |_=>kilB r
abbrev HL:=List (Nat×List Nat)
def hcons (b:Bool) (k:Nat) (E:Env) (H:HL):HL:=match b with
 |true=>(k,(E.sl.flatMap fun x=>x.2.nms)++E.bx.flatMap fun x=>x.2.flatMap LV.nms)::H
 |false=>H
def hOk (ops:List Oper) (k:Nat) (ks:List Nat):HL→Prop
 | []=>True
 |(i,ns)::r=>(if ns.any (inL ks)=true then (if i=k then True else closB ops ops.length i k=true) else True)∧hOk ops k ks r
def kilOk (b:Bool) (ops:List Oper) (k:Nat) (H:HL) (ks:List Nat):Prop:=match ks with
 | []=>True
 |_::_=>b=true∧hOk ops k ks H
def evD (P:Program) (ti:TT) (b:Bool) (ops:List Oper):List Oper→Nat→(Env→Prop)→List Nat→HL→Env→Prop
 | [],_,K,_,_,E=>K E
 |o::rest,k,K,D,H,E=>match o.guard with
  |none=>dU P ti o (fun sv rts ks=>clrL ops k sv (callsOf ops 0)∧kilOk b ops k H ks∧evD P ti b ops rest (k+1) K (ks++D) (hcons b k (E.kp (lks ops o)) H) (((E.addR rts).put o.dst sv).kill (ks++D))) (E.kp (lks ops o))
  |some (j,c)=>match guardB (E.kp (lks ops o)) ops j c with
   |some g=>dG P ti g o (fun sv rts ks=>clrL ops k sv (callsOf ops 0)∧kilOk b ops k H ks∧evD P ti b ops rest (k+1) K (ks++D) (hcons b k (E.kp (lks ops o)) H) (((E.addR rts).put o.dst sv).kill (ks++D))) (E.kp (lks ops o))
   |none=>False
def famA (ops:List Oper):Nat→Bool:=fun r=>ops.any fun o=>isCallO o&&r%1000==dn o
theorem St.ext' {E':Env} (hs:St w0 tag0 E tag hv a w) (h0:E'.nt=E.nt) (h1: ∀t sv,lkp E'.sl t=some sv→lkp E.sl t=some sv) (h2: ∀b ls,lkp E'.bx b=some ls→lkp E.bx b=some ls)
  (h3: ∀r y,lkp E'.rt r=some y→lkp E.rt r=some y):St w0 tag0 E' tag hv a w:=hs.weak h0 h1 h2 h3
theorem LV.hit_fr {d:Nat→Bool} {l:LV} (h:l.hit d=false):l.fr d=l:=by
 cases l with
 |r p=>cases p with
  |nil=>simp[LV.hit] at h
  |cons k p=>
   simp only[LV.hit] at h
   simp[LV.fr,h]
 |_=>rfl
theorem LVs.hit_fr {d:Nat→Bool} {ls:List LV} (h:ls.any (LV.hit d)=false):ls.map (LV.fr d)=ls:=by
 rw[List.any_eq_false] at h
 conv=>rhs;rw[←List.map_id ls]
 exact List.map_congr_left fun l hl=>LV.hit_fr (by simpa using h l hl)
theorem SV.hit_fr {d:Nat→Bool}: ∀ {s:SV},s.hit d=false→s.fr d=s
 | .dead,_=>rfl
 | .v ag ls,h=>by simp only[SV.fr,LVs.hit_fr h]
 | .tu ps,h=>by
  simp only[SV.hit,List.any_eq_false] at h
  simp only[SV.fr]
  congr 1
  conv=>rhs;rw[←List.map_id ps]
  refine List.map_congr_left fun q hq=> ?_
  have:=LVs.hit_fr (by simpa using h q hq)
  simp only[this,id_eq]
 | .p q,h=>by simp only[SV.hit] at h;simp[SV.fr,h]
 | .fn k caps,h=>by simp only[SV.hit] at h;simp[SV.fr,h]
 | .g c s,h=>by simp only[SV.fr,SV.hit_fr (s:=s) h]
 | .pin r q x,h=>by simp only[SV.hit] at h;simp[SV.fr,h]
structure Env.cl (E:Env) (d:Nat→Bool):Prop where
 sl: ∀t sv,lkp E.sl t=some sv→sv.hit d=false
 bx: ∀b ls,lkp E.bx b=some ls→d b=false∧ls.any (LV.hit d)=false
 rt: ∀r y,lkp E.rt r=some y→d r=false
theorem St.of_ret {n:Nat} {rs:List (Bool×ML)} (hc:E.cl (fam n)) (hs:St w0 tag0 (E.ret n rs) tag hv a w):St w0 tag0 (E.addR (resRs n 0 rs)) tag hv a w:=by
 refine hs.ext' rfl (fun t sv h=> ?_) (fun b ls h=> ?_) (fun r y h=> ?_)
 ·have h1:lkp E.sl t=some sv:=h
  simp only[Env.ret,Env.fresh,lkp_map,h1,Option.map_some,SV.hit_fr (hc.sl t sv h1)]
 ·have h0:lkp E.bx b=some ls:=h
  have h1:=hc.bx b ls h0
  simp only[Env.ret,Env.fresh,lkp_map,lkp_delD,h1.1,Bool.false_eq_true,if_false,h0,Option.map_some,LVs.hit_fr h1.2]
 ·simp only[Env.ret,Env.addR,lkp_app] at h⊢
  split at h
  ·exact h
  ·have h1:=hc.rt r y h
   simp only[Env.fresh,lkp_delD,h1,Bool.false_eq_true,if_false]
   exact h
theorem LV.fr_hit {d D:Nat→Bool} (hd: ∀r,d r=true→D r=true) (l:LV):(l.fr D).hit d=false:=by
 cases l with
 |r p=>cases p with
  |nil=>rfl
  |cons k p=>
   by_cases h:D k=true
   ·simp[LV.fr,h,LV.hit]
   ·have:d k=false:=by
     cases hk:d k with
     |false=>rfl
     |true=>exact absurd (hd k hk) h
    simp[LV.fr,h,LV.hit,this]
 |_=>rfl
theorem LVs.fr_hit {d D:Nat→Bool} (hd: ∀r,d r=true→D r=true) (ls:List LV):(ls.map (LV.fr D)).any (LV.hit d)=false:=by
 rw[List.any_eq_false]
 intro x hx
 obtain ⟨l,_,rfl⟩:=List.mem_map.1 hx
 simp[LV.fr_hit hd l]
theorem PV.hd_sub {d D:Nat→Bool} (hd: ∀r,d r=true→D r=true) {q:PV} (h:q.hd D=false):q.hd d=false:=by
 cases hq:q.hd d with
 |false=>rfl
 |true=>
  cases q with
  |pt p sz i off=>cases p with
   |nil=>simp[PV.hd] at h
   |cons k p=>simp only[PV.hd] at h hq;rw[hd k hq] at h;cases h
  |vw p sz lo n=>cases p with
   |nil=>simp[PV.hd] at h
   |cons k p=>simp only[PV.hd] at h hq;rw[hd k hq] at h;cases h
  |bx b off=>simp only[PV.hd] at h hq;rw[hd b hq] at h;cases h
  |ps ds=>simp[PV.hd] at hq
theorem SV.fr_hit {d D:Nat→Bool} (hd: ∀r,d r=true→D r=true): ∀s:SV,(s.fr D).hit d=false
 | .dead=>rfl
 | .v ag ls=>LVs.fr_hit hd ls
 | .tu ps=>by
  simp only[SV.fr,SV.hit,List.any_map,List.any_eq_false]
  intro q _
  have:=LVs.fr_hit hd q.2
  simpa [Function.comp] using this
 | .p q=>by
  simp only[SV.fr]
  by_cases h:q.hd D=true
  ·simp[h,SV.hit]
  ·rw[if_neg h]
   exact PV.hd_sub hd (by simpa using h)
 | .fn k caps=>by
  simp only[SV.fr]
  by_cases h:caps.any (PV.hd D)=true
  ·simp[h,SV.hit]
  ·rw[if_neg h]
   have h1:caps.any (PV.hd D)=false:=by simpa using h
   simp only[SV.hit]
   rw[List.any_eq_false] at h1⊢
   intro q hq
   simp[PV.hd_sub hd (by simpa using h1 q hq)]
 | .g c s=>SV.fr_hit hd s
 | .pin r q x=>by
  simp only[SV.fr]
  by_cases h:D r=true
  ·simp[h,SV.hit]
  ·rw[if_neg h]
   simp only[SV.hit]
   cases hq:d r with
   |false=>rfl
   |true=>exact absurd (hd r hq) h
theorem Env.fresh_cl {d D:Nat→Bool} (hd: ∀r,d r=true→D r=true) (E:Env):(E.fresh D).cl d:=by
 have hn: ∀r,D r≠true→d r=false:=fun r h=>by
  cases hk:d r with
  |false=>rfl
  |true=>exact absurd (hd r hk) h
 refine ⟨fun t sv h=> ?_,fun b ls h=> ?_,fun r y h=> ?_⟩
 ·simp only[Env.fresh,lkp_map] at h
  obtain ⟨s,_,rfl⟩:=Option.map_eq_some_iff.1 h
  exact SV.fr_hit hd s
 ·simp only[Env.fresh,lkp_map,lkp_delD] at h
  obtain ⟨s,h1,rfl⟩:=Option.map_eq_some_iff.1 h
  split at h1
  ·cases h1
  ·rename_i hb
   exact ⟨hn b hb,LVs.fr_hit hd s⟩
 ·simp only[Env.fresh,lkp_delD] at h
  split at h
  ·cases h
  ·rename_i hb
   exact hn r hb
theorem LV.nms_hit {d:Nat→Bool} {l:LV} {r:Nat} (h:r∈l.nms) (hd:d r=true):l.hit d=true:=by
 cases l with
 |r p=>cases p with
  |nil=>rfl
  |cons k p=>
   simp only[LV.nms,List.mem_singleton] at h
   subst h
   exact hd
 |_=>simp[LV.nms] at h
theorem LVs.nms_hit {d:Nat→Bool} {ls:List LV} {r:Nat} (h:r∈ls.flatMap LV.nms) (hd:d r=true):ls.any (LV.hit d)=true:=by
 obtain ⟨l,h1,h2⟩:=List.mem_flatMap.1 h
 exact List.any_eq_true.2 ⟨l,h1,LV.nms_hit h2 hd⟩
theorem PV.nms_hit {d:Nat→Bool} {q:PV} {r:Nat} (h:r∈q.nms) (hd:d r=true):q.hd d=true:=by
 cases q with
 |pt p sz i off=>cases p with
  |nil=>rfl
  |cons k p=>
   simp only[PV.nms,List.mem_singleton] at h
   subst h
   exact hd
 |vw p sz lo n=>cases p with
  |nil=>rfl
  |cons k p=>
   simp only[PV.nms,List.mem_singleton] at h
   subst h
   exact hd
 |bx b off=>
  simp only[PV.nms,List.mem_singleton] at h
  subst h
  exact hd
 |ps ds=>simp[PV.nms] at h
theorem SV.nms_hit {d:Nat→Bool} {r:Nat}: ∀ {s:SV},r∈s.nms→d r=true→s.hit d=true
 | .dead,h,_=>by simp[SV.nms] at h
 | .v ag ls,h,hd=>LVs.nms_hit h hd
 | .tu ps,h,hd=>by
  obtain ⟨q,h1,h2⟩:=List.mem_flatMap.1 h
  exact List.any_eq_true.2 ⟨q,h1,LVs.nms_hit h2 hd⟩
 | .p q,h,hd=>PV.nms_hit h hd
 | .fn k caps,h,hd=>by
  obtain ⟨q,h1,h2⟩:=List.mem_flatMap.1 h
  exact List.any_eq_true.2 ⟨q,h1,PV.nms_hit h2 hd⟩
 | .g c s,h,hd=>SV.nms_hit (s:=s) h hd
 | .pin k q x,h,hd=>by
  simp only[SV.nms,List.mem_singleton] at h
  subst h
  exact hd
end Go.Sm
