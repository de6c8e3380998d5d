import Derived.Test.YteeolohhmfjafaaGreatG5
import Derived.Test.YteeolohhmfjafaaGreatG4
set_option maxHeartbeats 8000000
set_option maxRecDepth 8000
namespace Go.Proofs.YteeolohhmfjafaaGreat
open Go Go.Proofs Go.Sm
attribute [local simp] ti eStr eInt eByte eVal cVal vVal eValS vValS eRow cRow vRow eCol cCol vCol vColS eStrS vStrS eDdl cDdl vDdl cStmt vStmt ePart vPart vPartS eTable cTable vTable vTableS cCat vCat vRowS eRows vRows vRowsS eDb cDb vDb eFol vFol eSnap cSnap vSnap
set_option linter.unusedVariables false
set_option linter.unusedSimpArgs false
set_option maxRecDepth 8000
theorem tableOk_kcol {t:GTable} (h:tableOk t=true) {i:Nat} (hi:i<t.fKeys.length):0≤colAt t (t.fKeys[i]?.getD ⟨#[]⟩)∧colAt t (t.fKeys[i]?.getD ⟨#[]⟩)<t.fCols.length∧(t.fCols[(colAt t (t.fKeys[i]?.getD ⟨#[]⟩)).toNat]?.getD dCol).fNot=true:=by
 simp only[tableOk,keysTo,Bool.and_eq_true,List.all_eq_true,List.mem_range] at h
 have h1:=h.2.2 i hi
 have h2:=lastK_ge t i
 have hb:=idxF_bd (fun c:GCol=>c.fName.toList==(t.fKeys[i]?.getD ⟨#[]⟩).toList) t.fCols
 rw[show idxF (fun c:GCol=>c.fName.toList==(t.fKeys[i]?.getD ⟨#[]⟩).toList) t.fCols=colAt t (t.fKeys[i]?.getD ⟨#[]⟩) from rfl] at hb
 simp only[keyOkAt,Bool.and_eq_true,decide_eq_true_eq] at h1
 exact ⟨by omega,hb.2,h1.2⟩
def kcol (t:GTable) (i:Nat):GCol:=t.fCols[(colAt t (t.fKeys[i]?.getD ⟨#[]⟩)).toNat]?.getD dCol
def kvAt (t:GTable) (key:List GVal) (i:Nat):Bool:=valOk (key[i]?.getD dVal)&&decide ((key[i]?.getD dVal).fTy=(kcol t i).fTy)
def kvTo (t:GTable) (key:List GVal) (n:Nat):Bool:=(List.range n).all (kvAt t key)
def keyOk (t:GTable) (key:List GVal):Bool:=tableOk t&& (decide ((key.length:Int)=t.fKeys.length)&&kvTo t key t.fKeys.length)
theorem keyOk_no {t:GTable} {key:List GVal} {i:Nat} (hi:i<t.fKeys.length) (h:kvAt t key i=false):keyOk t key=false:=by
 simp[keyOk,kvTo,rangeAll_no hi h]
theorem kfits {t:GTable} (h:tableOk t=true) (key:List GVal) {i:Nat} (hi:i<t.fKeys.length):fits (kcol t i) (key[i]?.getD dVal)=kvAt t key i:=by
 obtain ⟨h1,h2,h3⟩:=tableOk_kcol h hi
 have h4:=tableOk_col h (i:=(colAt t (t.fKeys[i]?.getD ⟨#[]⟩)).toNat) (by omega)
 rw[show t.fCols[(colAt t (t.fKeys[i]?.getD ⟨#[]⟩)).toNat]?.getD dCol=kcol t i from rfl] at h3 h4
 have h5:1≤(kcol t i).fTy:=by
  simp only[colOk,within,Bool.and_eq_true,decide_eq_true_eq] at h4
  exact h4.1.2.1
 unfold fits kvAt
 split
 ·rename_i h6
  rw[h3,h6,decide_eq_false (show¬(0:Int)=(kcol t i).fTy by omega)]
  simp
 ·rfl
theorem keyOkI_ok (t:GTable) (key:List GVal) (ht:okTable t) (hk:okM key.length):VC Tryz.prog 318 [vTable t,vValS key] [(false,[(.s,.sc (.bool (keyOk t key)))])]:=by
 have hkl:t.fKeys.length≤9223372036854775807:=ht.2.2.1.1
 refine vc_of_ew good hm [0,1,2,4,17,19,20,21,22,5,6,47] Tryz.func318 rfl (by kernel_rfl) (by kernel_rfl) rfl ?_
 simp[Tryz.f318]
 refine .of (tableOkI_ok t ht) ?_
 simp
 refine ⟨fun h=>by grind[keyOk],fun h1 h2=> ?_⟩
 refine ew_loop (fun E=> ∃i:Nat,i≤t.fKeys.length∧kvTo t key i=true∧E= {nt:=49,sl:= [(1,vValS key),(2,.p (.bx 2 0)),(19,vStrS t.fKeys),(20,int .i64 t.fKeys.length),(21,int .i64 i)],bx:= [(2,cTable t)],rt:= []}) (fun E=>t.fKeys.length- (E.num 21).toNat) _ (Gh.kb _ [1,2,19,20,21] [2] []) ⟨0,by omega,by simp[kvTo],by simp⟩ ?_
 rintro E1 ⟨i,hi,hall,rfl⟩
 simp
 refine ⟨fun h=>⟨h,by omega,.of (valOkI_ok _) ?_⟩,fun h=> ?_⟩
 ·obtain ⟨b1,b2,b3⟩:=tableOk_kcol h1 h
  have hat:kvAt t key i=(valOk (key[i]?.getD dVal)&&decide ((key[i]?.getD dVal).fTy=(kcol t i).fTy)):=rfl
  simp[beqI]
  refine ⟨fun g=>⟨g,by omega⟩,.of (fun g=>⟨g,colAtI_ok t _ ht.2.1.1⟩) ?_⟩
  simp[beqI]
  rw[show t.fCols[(colAt t (t.fKeys[i]?.getD ⟨#[]⟩)).toNat]?.getD dCol=kcol t i from rfl]
  refine ⟨fun g=>⟨g,b1,b2⟩,fun hb=>keyOk_no h (by grind),fun g1 g2=> .of _ (Gh.kb _ [1,2,19,20,21] [2] []) ⟨i+1,by omega, ?_, ?_⟩ ?_⟩
  ·rw[kvTo,rangeAll_succ];unfold kvTo at hall;grind
  ·simp[wrapS (show i<9223372036854775807 by omega)]
  ·simp[wrapS (show i<9223372036854775807 by omega)];omega
 ·have:i=t.fKeys.length:=by omega
  subst this
  grind[keyOk]
theorem keyOkS_ok (t:GTable) (key:List GVal) (ht:okTable t) (hk:okM key.length):VC Tryz.prog 382 [vTable t,vValS key] [(false,[(.s,.sc (.bool (keyOk t key)))])]:=by
 have hkl:t.fKeys.length≤9223372036854775807:=ht.2.2.1.1
 refine vc_of_ew good hm [0,1,2,4,17,19,20,21,22,5,6,38] Tryz.func382 rfl (by kernel_rfl) (by kernel_rfl) rfl ?_
 simp[Tryz.f382]
 refine .of (tableOkS_ok t ht) ?_
 simp
 refine ⟨fun h=>by grind[keyOk],fun h1 h2=> ?_⟩
 refine ew_loop (fun E=> ∃i:Nat,i≤t.fKeys.length∧kvTo t key i=true∧E= {nt:=40,sl:= [(1,vValS key),(2,.p (.bx 2 0)),(19,vStrS t.fKeys),(20,int .i64 t.fKeys.length),(21,int .i64 i)],bx:= [(2,cTable t)],rt:= []}) (fun E=>t.fKeys.length- (E.num 21).toNat) _ (Gh.kb _ [1,2,19,20,21] [2] []) ⟨0,by omega,by simp[kvTo],by simp⟩ ?_
 rintro E1 ⟨i,hi,hall,rfl⟩
 simp
 refine ⟨fun h=>⟨h,.of (colAtS_ok t _ ht.2.1.1) ?_⟩,fun h=> ?_⟩
 ·obtain ⟨b1,b2,b3⟩:=tableOk_kcol h1 h
  simp
  refine ⟨⟨b1,b2⟩,by omega, ?_⟩
  rw[show t.fCols[(colAt t (t.fKeys[i]?.getD ⟨#[]⟩)).toNat]?.getD dCol=kcol t i from rfl]
  refine .of (fits_ok _ _) ?_
  simp
  rw[kfits h1 key h]
  refine ⟨fun hb=>keyOk_no h hb,fun g1=> .of _ (Gh.kb _ [1,2,19,20,21] [2] []) ⟨i+1,by omega, ?_, ?_⟩ ?_⟩
  ·rw[kvTo,rangeAll_succ];unfold kvTo at hall;grind
  ·simp[wrapS (show i<9223372036854775807 by omega)]
  ·simp[wrapS (show i<9223372036854775807 by omega)];omega
 ·have:i=t.fKeys.length:=by omega
  subst this
  grind[keyOk]
end Go.Proofs.YteeolohhmfjafaaGreat
namespace Go.Proofs.YteeolohhmfjafaaGreat
open Go Go.Proofs Go.Sm
attribute [local simp] ti eStr eInt eByte eVal cVal vVal eValS vValS eRow cRow vRow eCol cCol vCol vColS eStrS vStrS eDdl cDdl vDdl cStmt vStmt ePart vPart vPartS eTable cTable vTable vTableS cCat vCat vRowS eRows vRows vRowsS eDb cDb vDb eFol vFol eSnap cSnap vSnap
set_option linter.unusedVariables false
set_option linter.unusedSimpArgs false
set_option maxRecDepth 8000
def has (l:List ByteArray) (s:ByteArray):Bool:=l.any (fun x=>s.toList==x.toList)
theorem has_flip (l:List ByteArray) (s:ByteArray):l.any (fun x=>x.toList==s.toList)=has l s:=by
 unfold has
 congr 1
 funext x
 exact Bool.beq_comm
def onceAt (l:List ByteArray) (i:Nat):Bool:= !has (l.take i) (l[i]?.getD ⟨#[]⟩)
def onceTo (l:List ByteArray) (n:Nat):Bool:=(List.range n).all (onceAt l)
def once (l:List ByteArray):Bool:=onceTo l l.length
def allIn (a b:List ByteArray):Bool:= !a.any (fun s=> !has b s)
theorem okM_take {l:List ByteArray} (h:okStrS l) (i:Nat):okM (l.take i).length:=by
 have:=h.1
 unfold okM at*
 rw[List.length_take]
 omega
theorem l02Has_ok (l:List ByteArray) (s:ByteArray) (hl:okM l.length):VC Tryz.prog 412 [vStrS l,str s] [(false,[(.s,.sc (.bool (has l s)))])]:=by
 unfold okM at hl
 refine vc_of_ew good hm [0,1,4,7,8,9,10,6,15] Tryz.func412 rfl (by kernel_rfl) (by kernel_rfl) rfl ?_
 simp[Tryz.f412]
 refine ew_loop (fun E=> ∃i:Nat,i≤l.length∧anyT (fun x=>x.toList==s.toList) l i=false∧E= {nt:=17,sl:= [(1,str s),(7,vStrS l),(8,int .i64 l.length),(9,int .i64 i)],bx:= [],rt:= []}) (fun E=>l.length- (E.num 9).toNat) _ (Gh.kb _ [1,7,8,9] [] []) ⟨0,by omega,anyT_zero _ _,by simp⟩ ?_
 rintro E1 ⟨i,hi,hall,rfl⟩
 simp
 refine ⟨fun h=>⟨h,fun hp=> ?_,fun hp=> .of _ (Gh.kb _ [1,7,8,9] [] []) ⟨i+1,by omega,by rw[anyT_succ _ ⟨#[]⟩ h,hall];simpa using hp, ?_⟩ ?_⟩,fun h=> ?_⟩
 ·rw[←has_flip,List.any_eq_true]
  exact ⟨_,getD_mem ⟨#[]⟩ h,by simpa using hp⟩
 ·simp[wrapS (show i<9223372036854775807 by omega)]
 ·simp[wrapS (show i<9223372036854775807 by omega)];omega
 ·have:i=l.length:=by omega
  subst this
  rw[anyT_all,has_flip] at hall
  exact hall
theorem l10Once_ok (l:List ByteArray) (hl:okStrS l):VC Tryz.prog 410 [vStrS l] [(false,[(.s,.sc (.bool (once l)))])]:=by
 have hll:l.length≤9223372036854775807:=hl.1
 refine vc_of_ew good hm [0,2,5,6,7,8,3,4,16] Tryz.func410 rfl (by kernel_rfl) (by kernel_rfl) rfl ?_
 simp[Tryz.f410]
 refine ew_loop (fun E=> ∃i:Nat,i≤l.length∧onceTo l i=true∧E= {nt:=18,sl:= [(0,vStrS l),(5,vStrS l),(6,int .i64 l.length),(7,int .i64 i)],bx:= [],rt:= []}) (fun E=>l.length- (E.num 7).toNat) _ (Gh.kb _ [0,5,6,7] [] []) ⟨0,by omega,by simp[onceTo],by simp⟩ ?_
 rintro E1 ⟨i,hi,hall,rfl⟩
 simp
 refine ⟨fun h=>⟨h,hi, ?_⟩,fun h=> ?_⟩
 ·rw[←List.map_take]
  refine .of (l02Has_ok (l.take i) _ (okM_take hl i)) ?_
  simp
  refine ⟨fun hp=> ?_,fun hp=> .of _ (Gh.kb _ [0,5,6,7] [] []) ⟨i+1,by omega, ?_, ?_⟩ ?_⟩
  ·rw[once,onceTo,rangeAll_no h (by simp[onceAt,hp])]
  ·rw[onceTo,rangeAll_succ];unfold onceTo at hall;rw[hall];simp[onceAt,hp]
  ·simp[wrapS (show i<9223372036854775807 by omega)]
  ·simp[wrapS (show i<9223372036854775807 by omega)];omega
 ·have:i=l.length:=by omega
  subst this
  exact hall
theorem isTwice_ok (l:List ByteArray) (hl:okStrS l):VC Tryz.prog 416 [vStrS l] [(false,[(.s,.sc (.bool (!once l)))])]:=by
 have hll:l.length≤9223372036854775807:=hl.1
 refine vc_of_ew good hm [0,2,5,6,7,8,3,4,16] Tryz.func416 rfl (by kernel_rfl) (by kernel_rfl) rfl ?_
 simp[Tryz.f416]
 refine ew_loop (fun E=> ∃i:Nat,i≤l.length∧onceTo l i=true∧E= {nt:=18,sl:= [(0,vStrS l),(5,vStrS l),(6,int .i64 l.length),(7,int .i64 i)],bx:= [],rt:= []}) (fun E=>l.length- (E.num 7).toNat) _ (Gh.kb _ [0,5,6,7] [] []) ⟨0,by omega,by simp[onceTo],by simp⟩ ?_
 rintro E1 ⟨i,hi,hall,rfl⟩
 simp
 refine ⟨fun h=>⟨h,hi, ?_⟩,fun h=> ?_⟩
 ·rw[←List.map_take]
  refine .of (containsStr_ok (l.take i) _ (okM_take hl i)) ?_
  rw[show ((l.take i).any fun x=>(l[i]?.getD (⟨#[]⟩:ByteArray)).toList==x.toList)=has (l.take i) (l[i]?.getD ⟨#[]⟩) from rfl]
  simp
  refine ⟨fun hp=> ?_,fun hp=> .of _ (Gh.kb _ [0,5,6,7] [] []) ⟨i+1,by omega, ?_, ?_⟩ ?_⟩
  ·rw[once,onceTo,rangeAll_no h (by simp[onceAt,hp])]
  ·rw[onceTo,rangeAll_succ];unfold onceTo at hall;rw[hall];simp[onceAt,hp]
  ·simp[wrapS (show i<9223372036854775807 by omega)]
  ·simp[wrapS (show i<9223372036854775807 by omega)];omega
 ·have:i=l.length:=by omega
  subst this
  exact hall
theorem l10All_ok (a b:List ByteArray) (ha:okM a.length) (hb:okM b.length):VC Tryz.prog 411 [vStrS a,vStrS b] [(false,[(.s,.sc (.bool (allIn a b)))])]:=by
 unfold okM at ha
 refine vc_of_ew good hm [0,1,4,7,8,9,10,6,16] Tryz.func411 rfl (by kernel_rfl) (by kernel_rfl) rfl ?_
 simp[Tryz.f411]
 refine ew_loop (fun E=> ∃i:Nat,i≤a.length∧anyT (fun s=> !has b s) a i=false∧E= {nt:=18,sl:= [(1,vStrS b),(7,vStrS a),(8,int .i64 a.length),(9,int .i64 i)],bx:= [],rt:= []}) (fun E=>a.length- (E.num 9).toNat) _ (Gh.kb _ [1,7,8,9] [] []) ⟨0,by omega,anyT_zero _ _,by simp⟩ ?_
 rintro E1 ⟨i,hi,hall,rfl⟩
 simp
 refine ⟨fun h=>⟨h,.of (l02Has_ok b _ hb) ?_⟩,fun h=> ?_⟩
 ·simp
  refine ⟨fun hp=> ?_,fun hp=> .of _ (Gh.kb _ [1,7,8,9] [] []) ⟨i+1,by omega,by rw[anyT_succ _ ⟨#[]⟩ h,hall,hp];rfl, ?_⟩ ?_⟩
  ·have:a.any (fun s=> !has b s)=true:=List.any_eq_true.2 ⟨_,getD_mem ⟨#[]⟩ h,by rw[hp];rfl⟩
   simp[allIn,this]
  ·simp[wrapS (show i<9223372036854775807 by omega)]
  ·simp[wrapS (show i<9223372036854775807 by omega)];omega
 ·have:i=a.length:=by omega
  subst this
  rw[anyT_all] at hall
  simp only[allIn,hall,Bool.not_false]
theorem drift1_ok (cols:List ByteArray) (k:ByteArray) (hc:okM cols.length):VC Tryz.prog 414 [str k,.p (.ps (eStrS cols))] [(false,[(.s,.sc (.bool (!has cols k)))])]:=by
 refine vc_of_ew good hm [0,1,3] Tryz.func414 rfl (by kernel_rfl) (by kernel_rfl) rfl ?_
 simp[Tryz.f414]
 refine .of (containsStr_ok cols k hc) ?_
 simp[has]
theorem areKeys1_ok (cols:List ByteArray) (k:ByteArray) (hc:okM cols.length):VC Tryz.prog 441 [str k,.p (.ps (eStrS cols))] [(false,[(.s,.sc (.bool (!has cols k)))])]:=by
 refine vc_of_ew good hm [0,1,3] Tryz.func441 rfl (by kernel_rfl) (by kernel_rfl) rfl ?_
 simp[Tryz.f441]
 refine .of (containsStr_ok cols k hc) ?_
 simp[has]
theorem isUnknown1_ok (t:GTable) (c:ByteArray) (hc:okM t.fCols.length):VC Tryz.prog 338 [str c,.p (.ps (eTable t))] [(false,[(.s,.sc (.bool (decide (colAt t c<0))))])]:=by
 refine vc_of_ew good hm [0,1,3] Tryz.func338 rfl (by kernel_rfl) (by kernel_rfl) rfl ?_
 simp[Tryz.f338]
 refine .of (colAtI_ok t c hc) ?_
 simp
def unk (t:GTable) (cols:List ByteArray):Bool:=cols.any (fun c=>decide (colAt t c<0))
theorem isUnknown_ok (t:GTable) (cols:List ByteArray) (hc:okM t.fCols.length) (hl:okM cols.length):VC Tryz.prog 223 [vTable t,vStrS cols] [(false,[(.s,.sc (.bool (unk t cols)))])]:=by
 refine vc_of_ew good hm [0,1,2,4] Tryz.func223 rfl (by kernel_rfl) (by kernel_rfl) rfl ?_
 simp[Tryz.f223]
 refine .of (hasStr1_ok cols _ _ (fun c=>decide (colAt t c<0)) hl (fun x _=>isUnknown1_ok t x hc)) ?_
 simp[unk]
def areKeys (t:GTable) (keys:List ByteArray):Bool:=decide ((keys.length:Int)=t.fKeys.length)&&allIn t.fKeys keys
theorem areKeys_ok (t:GTable) (keys:List ByteArray) (hk:okM t.fKeys.length) (hl:okM keys.length):VC Tryz.prog 417 [vTable t,vStrS keys] [(false,[(.s,.sc (.bool (areKeys t keys)))])]:=by
 refine vc_of_ew good hm [0,1,2,3,4] Tryz.func417 rfl (by kernel_rfl) (by kernel_rfl) rfl ?_
 simp[Tryz.f417]
 refine .of (fun h=>⟨h,hasStr1_ok t.fKeys _ _ (fun x=> !has keys x) hk (fun x _=>areKeys1_ok keys x hl)⟩) ?_
 simp[areKeys,allIn]
theorem has_iff {l:List ByteArray} {s:ByteArray}:has l s=true↔s.toList∈l.map ByteArray.toList:=by
 unfold has
 rw[List.any_eq_true,List.mem_map]
 constructor
 ·rintro ⟨x,hx,h⟩
  exact ⟨x,hx,(eq_of_beq h).symm⟩
 ·rintro ⟨x,hx,h⟩
  exact ⟨x,hx,beq_iff_eq.2 h.symm⟩
theorem allIn_iff {a b:List ByteArray}:allIn a b=true↔ ∀s∈a.map ByteArray.toList,s∈b.map ByteArray.toList:=by
 unfold allIn
 rw[Bool.not_eq_true',List.any_eq_false]
 simp only[Bool.not_eq_true',Bool.not_eq_false]
 constructor
 ·intro h s hs
  obtain ⟨x,hx,rfl⟩:=List.mem_map.1 hs
  exact has_iff.1 (h x hx)
 ·intro h x hx
  exact has_iff.2 (h _ (List.mem_map.2 ⟨x,hx,rfl⟩))
theorem once_nodup: ∀ {l:List ByteArray},once l=true→(l.map ByteArray.toList).Nodup:=by
 intro l h
 rw[List.nodup_iff_pairwise_ne,List.pairwise_iff_getElem]
 intro i j hi hj hij he
 simp only[List.length_map] at hi hj
 simp only[once,onceTo,List.all_eq_true,List.mem_range] at h
 have h1:=h j hj
 simp only[onceAt,Bool.not_eq_true',List.getElem?_eq_getElem hj,Option.getD_some] at h1
 rw[←Bool.not_eq_true,has_iff] at h1
 apply h1
 simp only[List.getElem_map] at he
 rw[←he]
 exact List.mem_map.2 ⟨_,List.mem_take_iff_getElem.2 ⟨i,by omega,rfl⟩,rfl⟩
theorem nodup_le {α:Type} [DecidableEq α]: ∀ {a b:List α},a.Nodup→(∀x∈a,x∈b)→a.length≤b.length
 | [],_,_,_=>by simp
 |x::a,b,h,hs=>by
  rw[List.nodup_cons] at h
  have hx:x∈b:=hs x (by simp)
  have h1:=nodup_le (b:=b.erase x) h.2 (fun y hy=>by
   have hne:y≠x:=fun e=>h.1 (e▸hy)
   exact (List.mem_erase_of_ne hne).2 (hs y (by simp[hy])))
  rw[List.length_erase_of_mem hx] at h1
  have:=List.length_pos_of_mem hx
  simp only[List.length_cons]
  omega
theorem nodup_sup {α:Type} [DecidableEq α] {a b:List α} (ha:a.Nodup) (hs: ∀x∈a,x∈b) (hl:b.length≤a.length): ∀x∈b,x∈a:=by
 intro x hx
 apply Classical.byContradiction
 intro hn
 have h1:=nodup_le (a:=a) (b:=b.erase x) ha (fun y hy=>by
  have hne:y≠x:=fun e=>hn (e▸hy)
  exact (List.mem_erase_of_ne hne).2 (hs y hy))
 rw[List.length_erase_of_mem hx] at h1
 have:=List.length_pos_of_mem hx
 omega
theorem keys_inc {t:GTable} (h:keysTo t t.fKeys.length=true): ∀i j,i<j→j<t.fKeys.length→colAt t (t.fKeys[i]?.getD ⟨#[]⟩)<colAt t (t.fKeys[j]?.getD ⟨#[]⟩):=by
 intro i j hij hj
 simp only[keysTo,List.all_eq_true,List.mem_range] at h
 induction j with
 |zero=>omega
 |succ j ih=>
  have h1:=h (j+1) hj
  simp only[keyOkAt,lastK_succ,Bool.and_eq_true,decide_eq_true_eq] at h1
  rcases Nat.lt_or_ge i j with h2|h2
  ·exact Int.lt_trans (ih h2 (by omega)) h1.1
  ·have:i=j:=by omega
   subst this
   exact h1.1
theorem keys_nodup {t:GTable} (h:tableOk t=true):(t.fKeys.map ByteArray.toList).Nodup:=by
 simp only[tableOk,Bool.and_eq_true] at h
 have hk:=keys_inc h.2.2
 rw[List.nodup_iff_pairwise_ne,List.pairwise_iff_getElem]
 intro i j hi hj hij he
 simp only[List.length_map] at hi hj
 have:=hk i j hij hj
 simp only[List.getElem_map] at he
 rw[List.getElem?_eq_getElem hi,List.getElem?_eq_getElem hj,Option.getD_some,Option.getD_some] at this
 unfold colAt at this
 rw[he] at this
 omega
theorem areKeys_same {t:GTable} {keys:List ByteArray} (ht:tableOk t=true) (hk:once keys=true):areKeys t keys=(allIn keys t.fKeys&&allIn t.fKeys keys):=by
 rw[Bool.eq_iff_iff]
 simp only[areKeys,Bool.and_eq_true,decide_eq_true_eq]
 constructor
 ·rintro ⟨h1,h2⟩
  refine ⟨allIn_iff.2 ?_,h2⟩
  exact nodup_sup (keys_nodup ht) (allIn_iff.1 h2) (by simp;omega)
 ·rintro ⟨h1,h2⟩
  refine ⟨?_,h2⟩
  have e1:=nodup_le (once_nodup hk) (allIn_iff.1 h1)
  have e2:=nodup_le (keys_nodup ht) (allIn_iff.1 h2)
  simp at e1 e2
  omega
def lackAt (cols:List ByteArray) (c:GCol):Bool:=c.fNot&& !c.fHas&& !has cols c.fName
def drift (cols keys:List ByteArray) (t:GTable):Int:=
 if !(tableOk t&&once cols&&once keys&&allIn keys cols) then 1 else if unk t cols then 11 else if !(allIn keys t.fKeys&&allIn t.fKeys keys) then 12 else if t.fCols.any (lackAt cols) then 13 else 0
theorem S_Drift_ok (cols keys:List ByteArray) (t:GTable) (o0:okStrS cols) (_: ∀n∈wStrS cols,n≤1048576) (_:(wStrS cols).sum≤1048576) (o1:okStrS keys) (_: ∀n∈wStrS keys,n≤1048576) (_:(wStrS keys).sum≤1048576) (o2:okTable t) (_: ∀n∈wTable t,n≤1048576) (_:(wTable t).sum≤1048576):
  VC Tryz.prog 347 [vStrS cols,vStrS keys,vTable t] [(false,[(.s,.sc (.int .i64 (drift cols keys t)))])]:=by
 have hcl:cols.length≤9223372036854775807:=o0.1
 have htl:t.fCols.length≤9223372036854775807:=o2.2.1.1
 refine vc_of_ew good hm [0,1,2,5,6,29,30,31,32,33,8,39,52,54,55,56,57,10,73] Tryz.func347 rfl (by kernel_rfl) (by kernel_rfl) rfl ?_
 simp[Tryz.f347]
 refine .of (tableOkS_ok t o2) ?_
 simp
 refine .of (fun h=>⟨h,l10Once_ok cols o0⟩) ?_
 simp
 refine .of (fun h=>⟨h,l10Once_ok keys o1⟩) ?_
 simp
 refine .of (fun h=>⟨h,l10All_ok keys cols o1.1 o0.1⟩) ?_
 simp
 refine ⟨fun h=>by grind[drift],fun a1 a2 a3 a4=> ?_⟩
 refine ew_loop (fun E=> ∃i:Nat,i≤cols.length∧anyT (fun c=>decide (colAt t c<0)) cols i=false∧E= {nt:=75,sl:= [(0,vStrS cols),(1,vStrS keys),(5,.p (.bx 5 0)),(30,vStrS cols),(31,int .i64 cols.length),(32,int .i64 i)],bx:= [(5,cTable t)],rt:= []}) (fun E=>cols.length- (E.num 32).toNat) _ (Gh.kb _ [0,1,5,30,31,32] [5] []) ⟨0,by omega,anyT_zero _ _,by simp⟩ ?_
 rintro E1 ⟨i,hi,hall,rfl⟩
 simp
 refine ⟨fun h=>⟨h,.of (colAtS_ok t _ o2.2.1.1) ?_⟩,fun h=> ?_⟩
 ·simp
  refine ⟨fun hp=> ?_,fun hp=> .of _ (Gh.kb _ [0,1,5,30,31,32] [5] []) ⟨i+1,by omega,by rw[anyT_succ _ ⟨#[]⟩ h,hall];simpa using hp, ?_⟩ ?_⟩
  ·have:unk t cols=true:=List.any_eq_true.2 ⟨_,getD_mem ⟨#[]⟩ h,by simpa using hp⟩
   grind[drift]
  ·simp[wrapS (show i<9223372036854775807 by omega)]
  ·simp[wrapS (show i<9223372036854775807 by omega)];omega
 ·have hil:i=cols.length:=by omega
  subst hil
  rw[anyT_all] at hall
  have hu:unk t cols=false:=hall
  refine .of (l10All_ok keys t.fKeys o1.1 o2.2.2.1.1) ?_
  simp
  refine .of (fun h=>⟨h,l10All_ok t.fKeys keys o2.2.2.1.1 o1.1⟩) ?_
  simp
  refine ⟨fun h=>by grind[drift],fun b1 b2=> ?_⟩
  refine ew_loop (fun E=> ∃i:Nat,i≤t.fCols.length∧anyT (lackAt cols) t.fCols i=false∧E= {nt:=75,sl:= [(0,vStrS cols),(54,vColS t.fCols),(55,int .i64 t.fCols.length),(56,int .i64 i)],bx:= [],rt:= []}) (fun E=>t.fCols.length- (E.num 56).toNat) _ (Gh.kb _ [0,54,55,56] [] []) ⟨0,by omega,anyT_zero _ _,by simp⟩ ?_
  rintro E1 ⟨j,hj,hlack,rfl⟩
  simp
  refine ⟨fun h=>⟨h, ?_⟩,fun h=> ?_⟩
  ·refine .of (fun h=>⟨h,l02Has_ok cols _ o0.1⟩) ?_
   simp
   have hat:lackAt cols (t.fCols[j]?.getD dCol)=((t.fCols[j]?.getD dCol).fNot&& !(t.fCols[j]?.getD dCol).fHas&& !has cols (t.fCols[j]?.getD dCol).fName):=rfl
   refine ⟨fun h1 h2 h3=> ?_,fun h1=> .of _ (Gh.kb _ [0,54,55,56] [] []) ⟨j+1,by omega, ?_, ?_⟩ ?_⟩
   ·have:t.fCols.any (lackAt cols)=true:=List.any_eq_true.2 ⟨_,getD_mem dCol h,by rw[hat,h1,h2,h3];rfl⟩
    grind[drift]
   ·rw[anyT_succ _ dCol h,hlack,hat];grind
   ·simp[wrapS (show j<9223372036854775807 by omega)]
   ·simp[wrapS (show j<9223372036854775807 by omega)];omega
  ·have hjl:j=t.fCols.length:=by omega
   subst hjl
   rw[anyT_all] at hlack
   grind[drift]
theorem I_Drift_ok (cols keys:List ByteArray) (t:GTable) (o0:okStrS cols) (_: ∀n∈wStrS cols,n≤1048576) (_:(wStrS cols).sum≤1048576) (o1:okStrS keys) (_: ∀n∈wStrS keys,n≤1048576) (_:(wStrS keys).sum≤1048576) (o2:okTable t) (_: ∀n∈wTable t,n≤1048576) (_:(wTable t).sum≤1048576):
  VC Tryz.prog 353 [vStrS cols,vStrS keys,vTable t] [(false,[(.s,.sc (.int .i64 (drift cols keys t)))])]:=by
 have htl:t.fCols.length≤9223372036854775807:=o2.2.1.1
 refine vc_of_ew good hm [0,1,2,3,5,6,7,13,28,32,38,39,40,41,9,57] Tryz.func353 rfl (by kernel_rfl) (by kernel_rfl) rfl ?_
 simp[Tryz.f353]
 refine .of (hasStr1_ok keys _ _ (fun x=> !has cols x) o1.1 (fun x _=>drift1_ok cols x o0.1)) ?_
 rw[show (keys.any fun x=> !has cols x)= !allIn keys cols by simp[allIn]]
 generalize hq:(!allIn keys cols)=q
 simp
 refine .of (tableOkI_ok t o2) ?_
 simp
 refine .of (fun h=>⟨h,isTwice_ok cols o0⟩) ?_
 generalize hq1:(!once cols)=q1
 simp
 refine .of (fun h=>⟨h,isTwice_ok keys o1⟩) ?_
 generalize hq2:(!once keys)=q2
 simp
 refine ⟨fun h=>by grind[drift],fun a1 a2 a3 a4=> .of (isUnknown_ok t cols o2.2.1.1 o0.1) ?_⟩
 simp
 refine ⟨fun h=>by grind[drift],fun b1=> .of (areKeys_ok t keys o2.2.2.1.1 o1.1) ?_⟩
 have hk:once keys=true:=by grind
 rw[areKeys_same a1 hk]
 generalize hq3:(allIn keys t.fKeys&&allIn t.fKeys keys)=q3
 simp
 refine ⟨fun h=>by grind[drift],fun c1=> ?_⟩
 refine ew_loop (fun E=> ∃i:Nat,i≤t.fCols.length∧anyT (lackAt cols) t.fCols i=false∧E= {nt:=59,sl:= [(3,.p (.bx 3 0)),(38,vColS t.fCols),(39,int .i64 t.fCols.length),(40,int .i64 i)],bx:= [(3,[.s (.ls zStr (cols.map eStr))])],rt:= []}) (fun E=>t.fCols.length- (E.num 40).toNat) _ (Gh.kb _ [3,38,39,40] [3] []) ⟨0,by omega,anyT_zero _ _,by simp⟩ ?_
 rintro E1 ⟨j,hj,hlack,rfl⟩
 simp
 refine ⟨fun h=>⟨h, ?_⟩,fun h=> ?_⟩
 ·refine .of (fun h=>⟨h,containsStr_ok cols _ o0.1⟩) ?_
  have hat:lackAt cols (t.fCols[j]?.getD dCol)=((t.fCols[j]?.getD dCol).fNot&& !(t.fCols[j]?.getD dCol).fHas&& !has cols (t.fCols[j]?.getD dCol).fName):=rfl
  rw[show (cols.any fun x=>(t.fCols[j]?.getD dCol).fName.toList==x.toList)=has cols (t.fCols[j]?.getD dCol).fName from rfl]
  simp
  refine ⟨fun h1 h2 h3=> ?_,fun h1=> .of _ (Gh.kb _ [3,38,39,40] [3] []) ⟨j+1,by omega, ?_, ?_⟩ ?_⟩
  ·have:t.fCols.any (lackAt cols)=true:=List.any_eq_true.2 ⟨_,getD_mem dCol h,by rw[hat,h1,h2,h3];rfl⟩
   grind[drift]
  ·rw[anyT_succ _ dCol h,hlack,hat];grind
  ·simp[wrapS (show j<9223372036854775807 by omega)]
  ·simp[wrapS (show j<9223372036854775807 by omega)];omega
 ·have hjl:j=t.fCols.length:=by omega
  subst hjl
  rw[anyT_all] at hlack
  grind[drift]
end Go.Proofs.YteeolohhmfjafaaGreat
namespace Go.Proofs.YteeolohhmfjafaaGreat
open Go Go.Proofs Go.Sm
attribute [local simp] ti eStr eInt eByte eVal cVal vVal eValS vValS eRow cRow vRow eCol cCol vCol vColS eStrS vStrS eDdl cDdl vDdl cStmt vStmt ePart vPart vPartS eTable cTable vTable vTableS cCat vCat vRowS eRows vRows vRowsS eDb cDb vDb eFol vFol eSnap cSnap vSnap
set_option linter.unusedVariables false
set_option linter.unusedSimpArgs false
set_option maxRecDepth 8000
def idxS (l:List ByteArray) (s:ByteArray):Int:=idxF (fun x=>x.toList==s.toList) l
theorem idxS_flip (l:List ByteArray) (s:ByteArray):idxF (fun x=>s.toList==x.toList) l=idxS l s:=by
 unfold idxS
 congr 1
 funext x
 exact Bool.beq_comm
theorem idxS_bd (l:List ByteArray) (s:ByteArray): -1≤idxS l s∧idxS l s<l.length:=idxF_bd _ _
theorem idxS_has (l:List ByteArray) (s:ByteArray):decide (0≤idxS l s)=has l s:=by
 rw[←has_flip]
 exact idxF_ge _ _
theorem idxS_in {l:List ByteArray} {s:ByteArray} (h:has l s=true):0≤idxS l s:=by
 rw[←idxS_has] at h
 simpa using h
theorem l10At_ok (l:List ByteArray) (s:ByteArray) (hl:okM l.length):VC Tryz.prog 335 [vStrS l,str s] [(false,[(.s,.sc (.int .i64 (idxS l s)))])]:=by
 unfold okM at hl
 refine vc_of_ew good hm [0,1,4,7,8,9,10,5,6,16] Tryz.func335 rfl (by kernel_rfl) (by kernel_rfl) rfl ?_
 simp[Tryz.f335]
 refine ew_loop (fun E=> ∃i:Nat,i≤l.length∧anyT (fun x=>x.toList==s.toList) l i=false∧E= {nt:=19,sl:= [(1,str s),(7,vStrS l),(8,int .i64 l.length),(9,int .i64 i)],bx:= [],rt:= []}) (fun E=>l.length- (E.num 9).toNat) _ (Gh.kb _ [1,7,8,9] [] []) ⟨0,by omega,anyT_zero _ _,by simp⟩ ?_
 rintro E1 ⟨i,hi,hall,rfl⟩
 simp
 refine ⟨fun h=>⟨h,fun hp=>(idxF_at _ ⟨#[]⟩ h hall (by simpa using hp)).symm,fun hp=> .of _ (Gh.kb _ [1,7,8,9] [] []) ⟨i+1,by omega,by rw[anyT_succ _ ⟨#[]⟩ h,hall];simpa using hp, ?_⟩ ?_⟩,fun h=> ?_⟩
 ·simp[wrapS (show i<9223372036854775807 by omega)]
 ·simp[wrapS (show i<9223372036854775807 by omega)];omega
 ·have:i=l.length:=by omega
  subst this
  rw[anyT_all] at hall
  exact (idxF_no _ hall).symm
def keyMap (keys:List ByteArray) (vals:List GVal) (l:List ByteArray):List GVal:=l.map fun k=>vals[(idxS keys k).toNat]?.getD dVal
theorem keyMap_succ (keys:List ByteArray) (vals:List GVal) {l:List ByteArray} {i:Nat} (h:i<l.length):keyMap keys vals (l.take (i+1))=keyMap keys vals (l.take i)++ [vals[(idxS keys (l[i]?.getD ⟨#[]⟩)).toNat]?.getD dVal]:=by
 unfold keyMap
 rw[List.take_succ_eq_append_getElem h,List.map_append,List.getElem?_eq_getElem h]
 rfl
def mapKey (keys:List ByteArray) (t:GTable) (vals:List GVal):List GVal×Int:=
 if !(tableOk t&&once keys&&decide ((keys.length:Int)=vals.length)) then ([],1) else if !areKeys t keys then ([],12) else if keyOk t (keyMap keys vals t.fKeys) then (keyMap keys vals t.fKeys,0) else ([],14)
theorem allIn_at {a b:List ByteArray} (h:allIn a b=true) {i:Nat} (hi:i<a.length):has b (a[i]?.getD ⟨#[]⟩)=true:=by
 unfold allIn at h
 rw[Bool.not_eq_true',List.any_eq_false] at h
 have:=h _ (getD_mem ⟨#[]⟩ hi)
 simpa using this
theorem I_MapKey_ok (keys:List ByteArray) (t:GTable) (vals:List GVal) (o0:okStrS keys) (h0: ∀n∈wStrS keys,n≤1048576) (_:(wStrS keys).sum≤1048576) (o1:okTable t) (h1: ∀n∈wTable t,n≤1048576) (_:(wTable t).sum≤1048576) (o2:okValS vals) (_: ∀n∈wValS vals,n≤1048576) (_:(wValS vals).sum≤1048576):
  VC Tryz.prog 355 [vStrS keys,vTable t,vValS vals] [(false,mValS (mapKey keys t vals).1),(false,[(.s,.sc (.int .i64 (mapKey keys t vals).2))])]:=by
 have hkl:t.fKeys.length≤1048576:=h1 _ (by simp[wTable,wStrS])
 refine vc_of_ew good hm [0,1,2,4,6,7,11,26,8,33,34,35,36,10,52] Tryz.func355 rfl (by kernel_rfl) (by kernel_rfl) rfl ?_
 simp[Tryz.f355,mValS]
 refine .of (tableOkI_ok t o1) ?_
 simp
 refine .of (fun h=>⟨h,isTwice_ok keys o0⟩) ?_
 simp
 refine ⟨fun h=> ?_,fun a1 a2 a3=> .of (areKeys_ok t keys o1.2.2.1.1 o0.1) ?_⟩
 ·have:mapKey keys t vals=([],1):=by grind[mapKey]
  simp[this]
 simp
 refine ⟨fun h=> ?_,fun a4=> ?_⟩
 ·have:mapKey keys t vals=([],12):=by grind[mapKey]
  simp[this]
 have hin:allIn t.fKeys keys=true:=by
  unfold areKeys at a4
  simp only[Bool.and_eq_true] at a4
  exact a4.2
 refine ew_loop (fun E=> ∃i:Nat,i≤t.fKeys.length∧E= {nt:=54,sl:= [(0,vStrS keys),(2,vValS vals),(4,.p (.bx 4 0)),(8,.v false [.r [31]]),(33,vStrS t.fKeys),(34,int .i64 t.fKeys.length),(35,int .i64 i)],bx:= [(4,cTable t)],rt:=(mValS (keyMap keys vals (t.fKeys.take i))).map fun y=>(31,y)}) (fun E=>t.fKeys.length- (E.num 35).toNat) _ (Gh.kb _ [0,2,4,8,33,34,35] [4] [31]) ⟨0,by omega,by simp[mValS,keyMap]⟩ ?_
 rintro E1 ⟨i,hi,rfl⟩
 have hsl:(keyMap keys vals (t.fKeys.take i)).length=i:=by simp[keyMap];omega
 simp[mValS]
 refine ⟨fun h=>⟨h,.of (indexStr_ok keys _ o0.1) ?_⟩,fun h=> ?_⟩
 ·rw[idxS_flip]
  have hb:=idxS_bd keys (t.fKeys[i]?.getD ⟨#[]⟩)
  have hg:=idxS_in (allIn_at hin h)
  simp
  refine ⟨⟨hg,by omega⟩,by omega,.of _ ((Gh.kb _ [0,2,4,8,33,34,35] [4] [47]).trans (Gh.rn _ 47 31)) ⟨i+1,by omega, ?_⟩ ?_⟩
  ·rw[keyMap_succ keys vals h]
   simp[wrapS (show i<9223372036854775807 by omega),mValS]
  ·simp[wrapS (show i<9223372036854775807 by omega)];omega
 ·have:i=t.fKeys.length:=by omega
  subst this
  simp only[List.take_length]
  refine .of (keyOkI_ok t (keyMap keys vals t.fKeys) o1 (by simp[keyMap,okM];omega)) ?_
  simp
  refine ⟨fun h=> ?_,fun h=> ?_⟩
  ·have:mapKey keys t vals=([],14):=by grind[mapKey]
   simp[this]
  ·have:mapKey keys t vals=(keyMap keys vals t.fKeys,0):=by grind[mapKey]
   simp[this]
theorem S_MapKey_ok (keys:List ByteArray) (t:GTable) (vals:List GVal) (o0:okStrS keys) (h0: ∀n∈wStrS keys,n≤1048576) (_:(wStrS keys).sum≤1048576) (o1:okTable t) (h1: ∀n∈wTable t,n≤1048576) (_:(wTable t).sum≤1048576) (o2:okValS vals) (_: ∀n∈wValS vals,n≤1048576) (_:(wValS vals).sum≤1048576):
  VC Tryz.prog 349 [vStrS keys,vTable t,vValS vals] [(false,mValS (mapKey keys t vals).1),(false,[(.s,.sc (.int .i64 (mapKey keys t vals).2))])]:=by
 have hkl:t.fKeys.length≤1048576:=h1 _ (by simp[wTable,wStrS])
 refine vc_of_ew good hm [0,1,2,4,6,7,25,37,8,40,41,42,43,10,59] Tryz.func349 rfl (by kernel_rfl) (by kernel_rfl) rfl ?_
 simp[Tryz.f349,mValS]
 refine .of (tableOkS_ok t o1) ?_
 simp
 refine .of (fun h=>⟨h,l10Once_ok keys o0⟩) ?_
 simp
 refine ⟨fun h=> ?_,fun a1 a2 a3=> .of (l10All_ok keys t.fKeys o0.1 o1.2.2.1.1) ?_⟩
 ·have:mapKey keys t vals=([],1):=by grind[mapKey]
  simp[this]
 simp
 refine .of (fun h=>⟨h,l10All_ok t.fKeys keys o1.2.2.1.1 o0.1⟩) ?_
 simp
 have hsame:=areKeys_same (keys:=keys) a1 a2
 refine ⟨fun h=> ?_,fun a4 a5=> ?_⟩
 ·have:mapKey keys t vals=([],12):=by grind[mapKey]
  simp[this]
 have hin:allIn t.fKeys keys=true:=a5
 have a6:areKeys t keys=true:=by rw[hsame,a4,a5];rfl
 refine ew_loop (fun E=> ∃i:Nat,i≤t.fKeys.length∧E= {nt:=61,sl:= [(0,vStrS keys),(2,vValS vals),(4,.p (.bx 4 0)),(8,.v false [.r [38]]),(40,vStrS t.fKeys),(41,int .i64 t.fKeys.length),(42,int .i64 i)],bx:= [(4,cTable t)],rt:=(mValS (keyMap keys vals (t.fKeys.take i))).map fun y=>(38,y)}) (fun E=>t.fKeys.length- (E.num 42).toNat) _ (Gh.kb _ [0,2,4,8,40,41,42] [4] [38]) ⟨0,by omega,by simp[mValS,keyMap]⟩ ?_
 rintro E1 ⟨i,hi,rfl⟩
 have hsl:(keyMap keys vals (t.fKeys.take i)).length=i:=by simp[keyMap];omega
 simp[mValS]
 refine ⟨fun h=>⟨h,.of (l10At_ok keys _ o0.1) ?_⟩,fun h=> ?_⟩
 ·have hb:=idxS_bd keys (t.fKeys[i]?.getD ⟨#[]⟩)
  have hg:=idxS_in (allIn_at hin h)
  simp
  refine ⟨⟨hg,by omega⟩,by omega,.of _ ((Gh.kb _ [0,2,4,8,40,41,42] [4] [54]).trans (Gh.rn _ 54 38)) ⟨i+1,by omega, ?_⟩ ?_⟩
  ·rw[keyMap_succ keys vals h]
   simp[wrapS (show i<9223372036854775807 by omega),mValS]
  ·simp[wrapS (show i<9223372036854775807 by omega)];omega
 ·have:i=t.fKeys.length:=by omega
  subst this
  simp only[List.take_length]
  refine .of (keyOkS_ok t (keyMap keys vals t.fKeys) o1 (by simp[keyMap,okM];omega)) ?_
  simp
  refine ⟨fun h=> ?_,fun h=> ?_⟩
  ·have:mapKey keys t vals=([],14):=by grind[mapKey]
   simp[this]
  ·have:mapKey keys t vals=(keyMap keys vals t.fKeys,0):=by grind[mapKey]
   simp[this]
end Go.Proofs.YteeolohhmfjafaaGreat
namespace Go.Proofs.YteeolohhmfjafaaGreat
open Go Go.Proofs Go.Sm
attribute [local simp] ti eStr eInt eByte eVal cVal vVal eValS vValS eRow cRow vRow eCol cCol vCol vColS eStrS vStrS eDdl cDdl vDdl cStmt vStmt ePart vPart vPartS eTable cTable vTable vTableS cCat vCat vRowS eRows vRows vRowsS eDb cDb vDb eFol vFol eSnap cSnap vSnap
set_option linter.unusedVariables false
set_option linter.unusedSimpArgs false
set_option maxRecDepth 8000
def byName (cols:List ByteArray) (t:GTable) (vals other:List GVal) (i:Nat):GVal:=
 if 0≤idxS cols (t.fCols[i]?.getD dCol).fName then vals[(idxS cols (t.fCols[i]?.getD dCol).fName).toNat]?.getD dVal else if (other.length:Int)=t.fCols.length then other[i]?.getD dVal else (t.fCols[i]?.getD dCol).fDef
def rowBy (cols:List ByteArray) (t:GTable) (vals other:List GVal) (n:Nat):List GVal:=(List.range n).map (byName cols t vals other)
theorem rowBy_succ (cols:List ByteArray) (t:GTable) (vals other:List GVal) (n:Nat):rowBy cols t vals other (n+1)=rowBy cols t vals other n++ [byName cols t vals other n]:=by
 simp[rowBy,List.range_succ]
theorem rowBy_len (cols:List ByteArray) (t:GTable) (vals other:List GVal) (n:Nat):(rowBy cols t vals other n).length=n:=by simp[rowBy]
theorem l10Row_ok (cols:List ByteArray) (t:GTable) (vals other:List GVal) (hc:okM cols.length) (ht:t.fCols.length≤1048576) (hcv:(cols.length:Int)=vals.length):
  VC Tryz.prog 220 [vStrS cols,vTable t,vValS vals,vRow ⟨other⟩] [(true,mRow ⟨rowBy cols t vals other t.fCols.length⟩)]:=by
 refine vc_of_ew good hm [0,1,2,3,5,7,8,9,16,17,18,19,11,10,12,31,13,42] Tryz.func220 rfl (by kernel_rfl) (by kernel_rfl) rfl ?_
 simp[Tryz.f220,mRow]
 refine ew_loop (fun E=> ∃i:Nat,i≤t.fCols.length∧E= {nt:=55,sl:= [(0,vStrS cols),(2,vValS vals),(5,.p (.bx 5 0)),(7,.p (.bx 7 0)),(8,.p (.bx 8 0)),(9,.p (.bx 9 0)),(16,vColS t.fCols),(17,int .i64 t.fCols.length),(18,int .i64 i)],bx:= [(5,cTable t),(7,cRow ⟨other⟩),(8,[.n [.sc (.int .i64 0),.sc (.int .i64 0),.sc (.string ⟨#[]⟩)]]),(9,[.r [990]])],rt:=(mValS (rowBy cols t vals other i)).map fun y=>(990,y)}) (fun E=>t.fCols.length- (E.num 18).toNat) _ ((Gh.nlB _ 9 0 990 234 (fun _=> [.s,.s,.s]) [.sc (.int .i64 0),.sc (.int .i64 0),.sc (.string ⟨#[]⟩)]).trans (Gh.kb _ [0,2,5,7,8,9,16,17,18] [5,7,8,9] [990])) ⟨0,by omega,by simp[mValS,rowBy]⟩ ?_
 rintro E1 ⟨i,hi,rfl⟩
 have hsl:=rowBy_len cols t vals other i
 simp[mValS]
 refine ⟨fun h=>⟨h, ?_⟩,fun h=> ?_⟩
 ·have hb:=idxS_bd cols (t.fCols[i]?.getD dCol).fName
  have hn:byName cols t vals other i=if 0≤idxS cols (t.fCols[i]?.getD dCol).fName then vals[(idxS cols (t.fCols[i]?.getD dCol).fName).toNat]?.getD dVal else if (other.length:Int)=t.fCols.length then other[i]?.getD dVal else (t.fCols[i]?.getD dCol).fDef:=rfl
  refine ⟨fun ho=>⟨by omega,.of (l10At_ok cols _ hc) ?_⟩,fun ho=> .of (l10At_ok cols _ hc) ?_⟩
  ·simp
   refine ⟨fun hp=>⟨⟨hp,by omega⟩,by omega,.of _ ((Gh.kb _ [0,2,5,7,8,9,16,17,18] [5,7,8,9] [51]).trans (Gh.rn _ 51 990)) ⟨i+1,by omega, ?_⟩ ?_⟩,fun hp=>⟨by omega,.of _ ((Gh.kb _ [0,2,5,7,8,9,16,17,18] [5,7,8,9] [51]).trans (Gh.rn _ 51 990)) ⟨i+1,by omega, ?_⟩ ?_⟩⟩
   ·rw[rowBy_succ,hn,if_pos hp]
    simp[wrapS (show i<9223372036854775807 by omega),mValS]
   ·simp[wrapS (show i<9223372036854775807 by omega)];omega
   ·rw[rowBy_succ,hn,if_neg (by omega),if_pos ho]
    simp[wrapS (show i<9223372036854775807 by omega),mValS]
   ·simp[wrapS (show i<9223372036854775807 by omega)];omega
  ·simp
   refine ⟨fun hp=>⟨⟨hp,by omega⟩,by omega,.of _ ((Gh.kb _ [0,2,5,7,8,9,16,17,18] [5,7,8,9] [51]).trans (Gh.rn _ 51 990)) ⟨i+1,by omega, ?_⟩ ?_⟩,fun hp=>⟨by omega,.of _ ((Gh.kb _ [0,2,5,7,8,9,16,17,18] [5,7,8,9] [51]).trans (Gh.rn _ 51 990)) ⟨i+1,by omega, ?_⟩ ?_⟩⟩
   ·rw[rowBy_succ,hn,if_pos hp]
    simp[wrapS (show i<9223372036854775807 by omega),mValS]
   ·simp[wrapS (show i<9223372036854775807 by omega)];omega
   ·rw[rowBy_succ,hn,if_neg (by omega),if_neg ho]
    simp[wrapS (show i<9223372036854775807 by omega),mValS]
   ·simp[wrapS (show i<9223372036854775807 by omega)];omega
 ·have:i=t.fCols.length:=by omega
  subst this
  simp
def mapRow (cols:List ByteArray) (t:GTable) (vals other:List GVal):GRow×Int:=
 if !(tableOk t&&once cols&&decide ((cols.length:Int)=vals.length)) then (⟨[]⟩,1) else if unk t cols then (⟨[]⟩,11) else if rowFit t ⟨rowBy cols t vals other t.fCols.length⟩ then (⟨rowBy cols t vals other t.fCols.length⟩,0) else (⟨[]⟩,14)
theorem l10Map_ok (cols:List ByteArray) (t:GTable) (vals other:List GVal) (o0:okStrS cols) (o1:okTable t) (ht:t.fCols.length≤1048576):
  VC Tryz.prog 351 [vStrS cols,vTable t,vValS vals,vRow ⟨other⟩] [(true,mRow (mapRow cols t vals other).1),(false,[(.s,.sc (.int .i64 (mapRow cols t vals other).2))])]:=by
 have hcl:cols.length≤9223372036854775807:=o0.1
 refine vc_of_ew good hm [0,1,2,3,5,7,8,9,27,29,30,31,32,11,38,12,49] Tryz.func351 rfl (by kernel_rfl) (by kernel_rfl) rfl ?_
 simp[Tryz.f351,mRow]
 refine .of (tableOkS_ok t o1) ?_
 simp
 refine .of (fun h=>⟨h,l10Once_ok cols o0⟩) ?_
 simp
 refine ⟨fun h=> ?_,fun a1 a2 a3=> ?_⟩
 ·have:mapRow cols t vals other=(⟨[]⟩,1):=by grind[mapRow]
  simp[this]
 refine ew_loop (fun E=> ∃i:Nat,i≤cols.length∧anyT (fun c=>decide (colAt t c<0)) cols i=false∧E= {nt:=52,sl:= [(0,vStrS cols),(2,vValS vals),(5,.p (.bx 5 0)),(7,.p (.bx 7 0)),(8,.p (.bx 8 0)),(29,vStrS cols),(30,int .i64 cols.length),(31,int .i64 i)],bx:= [(5,cTable t),(7,cRow ⟨other⟩),(8,[.n [.sc (.int .i64 0),.sc (.int .i64 0),.sc (.string ⟨#[]⟩)]])],rt:= []}) (fun E=>cols.length- (E.num 31).toNat) _ (Gh.kb _ [0,2,5,7,8,29,30,31] [5,7,8] []) ⟨0,by omega,anyT_zero _ _,by simp⟩ ?_
 rintro E1 ⟨i,hi,hall,rfl⟩
 simp
 refine ⟨fun h=>⟨h,.of (colAtS_ok t _ o1.2.1.1) ?_⟩,fun h=> ?_⟩
 ·simp
  refine ⟨fun hp=> ?_,fun hp=> .of _ (Gh.kb _ [0,2,5,7,8,29,30,31] [5,7,8] []) ⟨i+1,by omega,by rw[anyT_succ _ ⟨#[]⟩ h,hall];simpa using hp, ?_⟩ ?_⟩
  ·have hu:unk t cols=true:=List.any_eq_true.2 ⟨_,getD_mem ⟨#[]⟩ h,by simpa using hp⟩
   have:mapRow cols t vals other=(⟨[]⟩,11):=by simp[mapRow,hu,a1,a2,a3]
   simp[this]
  ·simp[wrapS (show i<9223372036854775807 by omega)]
  ·simp[wrapS (show i<9223372036854775807 by omega)];omega
 ·have:i=cols.length:=by omega
  subst this
  have hu:unk t cols=false:=by rw[anyT_all] at hall;exact hall
  refine .of (l10Row_ok cols t vals other o0.1 ht a3) ?_
  simp[mRow]
  refine .of (rowOkS_ok t ⟨rowBy cols t vals other t.fCols.length⟩ o1 (by simp[rowBy_len,okM];omega)) ?_
  simp[a1]
  refine ⟨fun hf=> ?_,fun hf=> ?_⟩
  ·have:mapRow cols t vals other=(⟨[]⟩,14):=by simp[mapRow,hu,a1,a2,a3,hf]
   simp[this]
  ·have:mapRow cols t vals other=(⟨rowBy cols t vals other t.fCols.length⟩,0):=by simp[mapRow,hu,a1,a2,a3,hf]
   simp[this]
theorem I_MapRow_ok (cols:List ByteArray) (t:GTable) (vals:List GVal) (o0:okStrS cols) (h0: ∀n∈wStrS cols,n≤1048576) (_:(wStrS cols).sum≤1048576) (o1:okTable t) (h1: ∀n∈wTable t,n≤1048576) (_:(wTable t).sum≤1048576) (o2:okValS vals) (_: ∀n∈wValS vals,n≤1048576) (_:(wValS vals).sum≤1048576):
  VC Tryz.prog 356 [vStrS cols,vTable t,vValS vals] [(true,mRow (mapRow cols t vals []).1),(false,[(.s,.sc (.int .i64 (mapRow cols t vals []).2))])]:=by
 have ht:t.fCols.length≤1048576:=h1 _ (by simp[wTable,wColS])
 refine vc_of_ew good hm [0,1,2,4,6,7,13,29,8,36,37,38,39,10,11,12,49,64] Tryz.func356 rfl (by kernel_rfl) (by kernel_rfl) rfl ?_
 simp[Tryz.f356,mRow]
 refine .of (tableOkI_ok t o1) ?_
 simp
 refine .of (fun h=>⟨h,isTwice_ok cols o0⟩) ?_
 simp
 refine ⟨fun h=> ?_,fun a1 a2 a3=> .of (isUnknown_ok t cols o1.2.1.1 o0.1) ?_⟩
 ·have:mapRow cols t vals []=(⟨[]⟩,1):=by grind[mapRow]
  simp[this]
 simp
 refine ⟨fun h=> ?_,fun a4=> ?_⟩
 ·have:mapRow cols t vals []=(⟨[]⟩,11):=by grind[mapRow]
  simp[this]
 have hpos: ¬(([]:List GVal).length:Int)=t.fCols.length:=by
  simp only[tableOk,within,Bool.and_eq_true,decide_eq_true_eq] at a1
  simp
  omega
 refine ew_loop (fun E=> ∃i:Nat,i≤t.fCols.length∧E= {nt:=67,sl:= [(0,vStrS cols),(2,vValS vals),(4,.p (.bx 4 0)),(6,.p (.bx 6 0)),(8,.p (.bx 8 0)),(36,vColS t.fCols),(37,int .i64 t.fCols.length),(38,int .i64 i)],bx:= [(4,cTable t),(6,[.n [.sc (.int .i64 0),.sc (.int .i64 0),.sc (.string ⟨#[]⟩)]]),(8,[.r [990]])],rt:=(mValS (rowBy cols t vals [] i)).map fun y=>(990,y)}) (fun E=>t.fCols.length- (E.num 38).toNat) _ ((Gh.nlB _ 8 0 990 234 (fun _=> [.s,.s,.s]) [.sc (.int .i64 0),.sc (.int .i64 0),.sc (.string ⟨#[]⟩)]).trans (Gh.kb _ [0,2,4,6,8,36,37,38] [4,6,8] [990])) ⟨0,by omega,by simp[mValS,rowBy]⟩ ?_
 rintro E1 ⟨i,hi,rfl⟩
 have hsl:=rowBy_len cols t vals [] i
 simp[mValS]
 refine ⟨fun h=>⟨h,.of (indexStr_ok cols _ o0.1) ?_⟩,fun h=> ?_⟩
 ·rw[idxS_flip]
  have hb:=idxS_bd cols (t.fCols[i]?.getD dCol).fName
  have hn:byName cols t vals [] i=if 0≤idxS cols (t.fCols[i]?.getD dCol).fName then vals[(idxS cols (t.fCols[i]?.getD dCol).fName).toNat]?.getD dVal else if (([]:List GVal).length:Int)=t.fCols.length then ([]:List GVal)[i]?.getD dVal else (t.fCols[i]?.getD dCol).fDef:=rfl
  simp
  refine ⟨fun hp=>⟨⟨hp,by omega⟩,by omega,.of _ ((Gh.kb _ [0,2,4,6,8,36,37,38] [4,6,8] [58]).trans (Gh.rn _ 58 990)) ⟨i+1,by omega, ?_⟩ ?_⟩,fun hp=>⟨by omega,.of _ ((Gh.kb _ [0,2,4,6,8,36,37,38] [4,6,8] [58]).trans (Gh.rn _ 58 990)) ⟨i+1,by omega, ?_⟩ ?_⟩⟩
  ·rw[rowBy_succ,hn,if_pos hp]
   simp[wrapS (show i<9223372036854775807 by omega),mValS]
  ·simp[wrapS (show i<9223372036854775807 by omega)];omega
  ·rw[rowBy_succ,hn,if_neg (by omega),if_neg hpos]
   simp[wrapS (show i<9223372036854775807 by omega),mValS]
  ·simp[wrapS (show i<9223372036854775807 by omega)];omega
 ·have:i=t.fCols.length:=by omega
  subst this
  refine .of (rowOkI_ok t ⟨rowBy cols t vals [] t.fCols.length⟩ o1 (by simp[rowBy_len,okM];omega)) ?_
  simp
  refine ⟨fun hf=> ?_,fun hf=> ?_⟩
  ·have:mapRow cols t vals []=(⟨[]⟩,14):=by grind[mapRow]
   simp[this]
  ·have:mapRow cols t vals []=(⟨rowBy cols t vals [] t.fCols.length⟩,0):=by grind[mapRow]
   simp[this]
end Go.Proofs.YteeolohhmfjafaaGreat
namespace Go.Proofs.YteeolohhmfjafaaGreat
open Go Go.Proofs Go.Sm
attribute [local simp] ti eStr eInt eByte eVal cVal vVal eValS vValS eRow cRow vRow eCol cCol vCol vColS eStrS vStrS eDdl cDdl vDdl cStmt vStmt ePart vPart vPartS eTable cTable vTable vTableS cCat vCat vRowS eRows vRows vRowsS eDb cDb vDb eFol vFol eSnap cSnap vSnap
set_option linter.unusedVariables false
set_option linter.unusedSimpArgs false
set_option maxRecDepth 8000
theorem bl_irrefl: ∀x:List UInt8,Op.bytesLess x x=false
 | []=>rfl
 |a::x=>by simp[Op.bytesLess,bl_irrefl x]
theorem bl_trans: ∀x y z:List UInt8,Op.bytesLess x y=true→Op.bytesLess y z=true→Op.bytesLess x z=true
 |_,[],_,h,_=>by simp[Op.bytesLess] at h
 |_,_::_,[],_,h=>by simp[Op.bytesLess] at h
 | [],_::_,_::_,_,_=>by simp[Op.bytesLess]
 |a::x,b::y,c::z,h1,h2=>by
  simp only[Op.bytesLess,Bool.or_eq_true,decide_eq_true_eq,Bool.and_eq_true,beq_iff_eq] at h1 h2⊢
  rcases h1 with h1|⟨rfl,h1⟩<;>rcases h2 with h2|⟨rfl,h2⟩
  ·left;simp only[UInt8.lt_iff_toNat_lt] at*;omega
  ·left;exact h1
  ·left;exact h2
  ·right;exact ⟨rfl,bl_trans x y z h1 h2⟩
theorem bl_total: ∀x y:List UInt8,x≠y→Op.bytesLess x y=true∨Op.bytesLess y x=true
 | [],[],h=>absurd rfl h
 |_::_,[],_=>by simp[Op.bytesLess]
 | [],_::_,_=>by simp[Op.bytesLess]
 |a::x,b::y,h=>by
  simp only[Op.bytesLess,Bool.or_eq_true,decide_eq_true_eq,Bool.and_eq_true,beq_iff_eq]
  by_cases hab:a=b
  ·subst hab
   have:=bl_total x y (fun e=>h (by rw[e]))
   rcases this with h|h<;>simp[h]
  ·have:a.toNat≠b.toNat:=fun e=>hab (UInt8.toNat_inj.1 e)
   simp only[UInt8.lt_iff_toNat_lt]
   omega
theorem bl_asymm {x y:List UInt8} (h:Op.bytesLess x y=true):Op.bytesLess y x=false:=by
 rw[Bool.eq_false_iff]
 intro h2
 have:=bl_trans _ _ _ h h2
 rw[bl_irrefl] at this
 cases this
theorem tl_inj {x y:ByteArray} (h:x.toList=y.toList):x=y:=by
 rw[Lib.toList_data,Lib.toList_data] at h
 exact ByteArray.ext (Array.toList_inj.1 h)
theorem veq_iff (x y:GVal):veq x y=true↔x=y:=by
 obtain ⟨a,b,c⟩:=x
 obtain ⟨a',b',c'⟩:=y
 simp only[veq,Bool.and_eq_true,beq_iff_eq,GVal.mk.injEq]
 exact ⟨fun ⟨h1,h2,h3⟩=>⟨h1,h2,tl_inj h3⟩,fun ⟨h1,h2,h3⟩=>⟨h1,h2,by rw[h3]⟩⟩
theorem vl_irrefl (x:GVal):valLess x x=false:=by simp[valLess,bl_irrefl]
theorem vl_trans {x y z:GVal} (h1:valLess x y=true) (h2:valLess y z=true):valLess x z=true:=by
 simp only[valLess,Bool.and_eq_true,Bool.or_eq_true,decide_eq_true_eq] at h1 h2⊢
 refine ⟨⟨h1.1.1,h2.1.2⟩, ?_⟩
 rcases h1.2 with a|⟨a,b|⟨b,c⟩⟩<;>rcases h2.2 with a'|⟨a',b'|⟨b',c'⟩⟩<;>try (left;omega)
 ·exact .inr ⟨by omega,.inl (by omega)⟩
 ·exact .inr ⟨by omega,.inl (by omega)⟩
 ·exact .inr ⟨by omega,.inl (by omega)⟩
 ·exact .inr ⟨by omega,.inr ⟨by omega,bl_trans _ _ _ c c'⟩⟩
theorem vl_total {x y:GVal} (hx:valOk x=true) (hy:valOk y=true) (h:x≠y):valLess x y=true∨valLess y x=true:=by
 simp only[valLess,hx,hy,Bool.and_eq_true,Bool.or_eq_true,decide_eq_true_eq,true_and]
 by_cases h1:x.fTy=y.fTy
 ·by_cases h2:x.fN=y.fN
  ·have h3:x.fS.toList≠y.fS.toList:=fun e=>h ((veq_iff x y).1 (by simp[veq,h1,h2,e]))
   rcases bl_total _ _ h3 with h4|h4<;>simp[h1,h2,h4]
  ·omega
 ·omega
theorem kl_same (x:GVal) (a b:List GVal):keyLess (x::a) (x::b)=keyLess a b:=by
 rw[keyLess,if_pos ((veq_iff x x).2 rfl)]
theorem kl_diff {x y:GVal} (h:x≠y) (a b:List GVal):keyLess (x::a) (y::b)=valLess x y:=by
 rw[keyLess,if_neg (fun e=>h ((veq_iff x y).1 e))]
theorem kl_irrefl: ∀a:List GVal,keyLess a a=false
 | []=>rfl
 |x::a=>by rw[kl_same,kl_irrefl a]
open Classical in
theorem kl_trans: ∀a b c:List GVal,keyLess a b=true→keyLess b c=true→keyLess a c=true
 | [],[],_,h,_=>by simp[keyLess] at h
 | [],_::_,[],_,h=>by simp[keyLess] at h
 | [],_::_,_::_,_,_=>by simp[keyLess]
 |_::_,[],_,h,_=>by simp[keyLess] at h
 |_::_,_::_,[],_,h=>by simp[keyLess] at h
 |x::a,y::b,z::c,h1,h2=>by
  by_cases e:x=y
  ·subst e
   rw[kl_same] at h1
   by_cases e:x=z
   ·subst e
    rw[kl_same] at h2⊢
    exact kl_trans a b c h1 h2
   ·rw[kl_diff e] at h2⊢
    exact h2
  ·rw[kl_diff e] at h1
   by_cases e2:y=z
   ·subst e2
    rw[kl_diff e]
    exact h1
   ·rw[kl_diff e2] at h2
    have h3:=vl_trans h1 h2
    rw[kl_diff (fun e=>by subst e;rw[vl_irrefl] at h3;cases h3)]
    exact h3
theorem kl_asymm {a b:List GVal} (h:keyLess a b=true):keyLess b a=false:=by
 rw[Bool.eq_false_iff]
 intro h2
 have:=kl_trans _ _ _ h h2
 rw[kl_irrefl] at this
 cases this
open Classical in
theorem kl_total: ∀a b:List GVal,a.length=b.length→(∀x∈a,valOk x=true)→(∀x∈b,valOk x=true)→a≠b→keyLess a b=true∨keyLess b a=true
 | [],[],_,_,_,h=>absurd rfl h
 | [],_::_,h,_,_,_=>by simp at h
 |_::_,[],h,_,_,_=>by simp at h
 |x::a,y::b,hl,ha,hb,h=>by
  by_cases e:x=y
  ·subst e
   rw[kl_same,kl_same]
   exact kl_total a b (by simpa using hl) (fun u hu=>ha u (by simp[hu])) (fun u hu=>hb u (by simp[hu])) (fun e=>h (by rw[e]))
  ·rw[kl_diff e,kl_diff (Ne.symm e)]
   exact vl_total (ha x (by simp)) (hb y (by simp)) e
theorem adj_pw {α:Type} (R:α→α→Bool) (tr: ∀a b c,R a b=true→R b c=true→R a c=true) (d:α): ∀l:List α,(∀i,i<l.length→0<i→R (l[i-1]?.getD d) (l[i]?.getD d)=true)↔l.Pairwise (fun a b=>R a b=true)
 | []=>by simp
 | [x]=>by
  simp only[List.length_cons,List.length_nil,List.pairwise_cons,List.not_mem_nil,false_imp_iff,implies_true,List.Pairwise.nil,and_self,iff_true]
  intro i h1 h2
  omega
 |x::y::l=>by
  have ih:=adj_pw R tr d (y::l)
  rw[List.pairwise_cons,←ih]
  constructor
  ·intro h
   have h2: ∀i,i< (y::l).length→0<i→R ((y::l)[i-1]?.getD d) ((y::l)[i]?.getD d)=true:=fun i h1 h0=>by
    have:=h (i+1) (by simp only[List.length_cons] at*;omega) (by omega)
    rw[show i+1-1=(i-1)+1 by omega,List.getElem?_cons_succ,List.getElem?_cons_succ] at this
    exact this
   refine ⟨?_,h2⟩
   have hp:=ih.1 h2
   have h01:R x y=true:=by simpa using h 1 (by simp) (by omega)
   intro z hz
   rcases List.mem_cons.1 hz with rfl|hz
   ·exact h01
   ·exact tr _ _ _ h01 ((List.pairwise_cons.1 hp).1 z hz)
  ·rintro ⟨h1,h2⟩ i hi h0
   rcases Nat.lt_or_ge 1 i with hlt|hge
   ·have:=h2 (i-1) (by simp only[List.length_cons] at*;omega) (by omega)
    obtain ⟨k,rfl⟩: ∃k,i=k+2:=⟨i-2,by omega⟩
    simpa using this
   ·have:i=1:=by omega
    subst this
    simpa using h1 y (by simp)
theorem all_iff {α:Type} (p:α→Bool) (d:α) (l:List α):(∀i,i<l.length→p (l[i]?.getD d)=true)↔ ∀x∈l,p x=true:=by
 constructor
 ·intro h x hx
  obtain ⟨i,hi,rfl⟩:=List.getElem_of_mem hx
  simpa [List.getElem?_eq_getElem hi] using h i hi
 ·intro h i hi
  exact h _ (getD_mem d hi)
def rowLt (t:GTable) (a b:GRow):Bool:=keyLess (keyOf t a) (keyOf t b)
theorem rowsOk_iff (t:GTable) (l:List GRow):rowsOk t l=true↔tableOk t=true∧l.length≤60∧(∀r∈l,rowFit t r=true)∧l.Pairwise (fun a b=>rowLt t a b=true):=by
 rw[←adj_pw (rowLt t) (fun a b c=>kl_trans _ _ _) dRow l,←all_iff (rowFit t) dRow l]
 simp only[rowsOk,rowsTo,rowsAt,Bool.and_eq_true,decide_eq_true_eq,List.all_eq_true,List.mem_range,Bool.not_eq_true',rowLt]
 constructor
 ·rintro ⟨h1,h2,h3⟩
  refine ⟨h1,by omega,fun i hi=>(h3 i hi).1,fun i hi h0=> ?_⟩
  have:=(h3 i hi).2
  simpa [h0] using this
 ·rintro ⟨h1,h2,h3,h4⟩
  refine ⟨h1,by omega,fun i hi=>⟨h3 i hi, ?_⟩⟩
  rcases Nat.eq_zero_or_pos i with rfl|h0
  ·simp
  ·simpa [h0] using h4 i hi h0
def tabLt (a b:GTable):Bool:=Op.bytesLess a.fName.toList b.fName.toList
theorem catOk_iff (c:GCat):catOk c=true↔ (∀t∈c.fTables,tableOk t=true)∧c.fTables.length≤6∧c.fTables.Pairwise (fun a b=>tabLt a b=true):=by
 rw[←adj_pw tabLt (fun a b c=>bl_trans _ _ _) dTable c.fTables,←all_iff tableOk dTable c.fTables]
 simp only[catOk,catTo,catAt,Bool.and_eq_true,decide_eq_true_eq,List.all_eq_true,List.mem_range,tabLt,geq]
 constructor
 ·rintro ⟨h1,h2⟩
  refine ⟨fun i hi=>(h1 i hi).1,by omega,fun i hi h0=> ?_⟩
  have:=(h1 i hi).2
  simpa [h0] using this
 ·rintro ⟨h1,h2,h3⟩
  refine ⟨fun i hi=>⟨h1 i hi, ?_⟩,by omega⟩
  rcases Nat.eq_zero_or_pos i with rfl|h0
  ·simp
  ·simpa [h0] using h3 i hi h0
theorem dbOk_iff (d:GDb):dbOk d=true↔catOk d.fCat=true∧d.fData.length=d.fCat.fTables.length∧ ∀i,i<d.fCat.fTables.length→rowsOk (d.fCat.fTables[i]?.getD dTable) (d.fData[i]?.getD dRows).fRows=true:=by
 simp only[dbOk,dbTo,dbAt,Bool.and_eq_true,decide_eq_true_eq,List.all_eq_true,List.mem_range]
 constructor
 ·rintro ⟨h1,h2,h3⟩
  exact ⟨h1,by omega,h3⟩
 ·rintro ⟨h1,h2,h3⟩
  exact ⟨h1,by omega,h3⟩
end Go.Proofs.YteeolohhmfjafaaGreat
namespace Go.Proofs.YteeolohhmfjafaaGreat
open Go Go.Proofs Go.Sm
attribute [local simp] ti eStr eInt eByte eVal cVal vVal eValS vValS eRow cRow vRow eCol cCol vCol vColS eStrS vStrS eDdl cDdl vDdl cStmt vStmt ePart vPart vPartS eTable cTable vTable vTableS cCat vCat vRowS eRows vRows vRowsS eDb cDb vDb eFol vFol eSnap cSnap vSnap
set_option linter.unusedVariables false
set_option linter.unusedSimpArgs false
set_option maxRecDepth 8000
def cnm (l:List GCol):List ByteArray:=l.map (·.fName)
def pos (l:List ByteArray) (s:ByteArray):Nat:=l.findIdx (fun x=>x.toList==s.toList)
theorem tl_beq (x y:ByteArray):(x.toList==y.toList)=true↔x=y:=by
 simp only[beq_iff_eq]
 exact ⟨tl_inj,fun h=>by rw[h]⟩
theorem pos_cons (x:ByteArray) (l:List ByteArray) (s:ByteArray):pos (x::l) s=if x=s then 0 else pos l s+1:=by
 unfold pos
 rw[List.findIdx_cons]
 by_cases h:x=s
 ·rw[if_pos h,(tl_beq x s).2 h];rfl
 ·rw[if_neg h,Bool.eq_false_iff.2 (fun e=>h ((tl_beq x s).1 e))];rfl
theorem pos_lt {l:List ByteArray} {s:ByteArray} (h:s∈l):pos l s<l.length:=
 List.findIdx_lt_length_of_exists ⟨s,h,by simp⟩
theorem pos_get {l:List ByteArray} {s:ByteArray} (h:s∈l):l[pos l s]'(pos_lt h)=s:=by
 have:=List.findIdx_getElem (w:=pos_lt h) (p:=fun x:ByteArray=>x.toList==s.toList)
 exact (tl_beq _ _).1 this
theorem pos_at {l:List ByteArray} (hn:l.Nodup) {i:Nat} (hi:i<l.length):pos l l[i]=i:=by
 have h1:=pos_lt (List.getElem_mem hi)
 have h2:=pos_get (List.getElem_mem hi)
 exact (List.getElem_inj hn).1 h2
open Classical in
theorem colAt_eq (t:GTable) (s:ByteArray):colAt t s=if s∈cnm t.fCols then (pos (cnm t.fCols) s:Int) else-1:=by
 have h1:t.fCols.any (fun c:GCol=>c.fName.toList==s.toList)=true↔s∈cnm t.fCols:=by
  simp only[List.any_eq_true,cnm,List.mem_map,tl_beq]
 have h2:t.fCols.findIdx (fun c:GCol=>c.fName.toList==s.toList)=pos (cnm t.fCols) s:=by
  unfold pos cnm
  rw[List.findIdx_map]
  rfl
 unfold colAt idxF
 rw[h2]
 by_cases h:s∈cnm t.fCols
 ·rw[if_pos h,if_pos (h1.2 h)]
 ·rw[if_neg h,if_neg (fun e=>h (h1.1 e))]
theorem colAt_nn {t:GTable} {s:ByteArray}:0≤colAt t s↔s∈cnm t.fCols:=by
 rw[colAt_eq]
 split<;>rename_i h<;>simp[h]
theorem colAt_toNat {t:GTable} {s:ByteArray} (h:s∈cnm t.fCols):(colAt t s).toNat=pos (cnm t.fCols) s:=by
 rw[colAt_eq,if_pos h];rfl
theorem sub_pos: ∀ (l ks:List ByteArray),(∀k∈ks,k∈l)→ks.Pairwise (fun a b=>pos l a<pos l b)→ks.Sublist l
 |_,[],_,_=>List.nil_sublist _
 | [],k::_,h,_=>by have:=h k (by simp);cases this
 |x::l,k::ks,h,hp=>by
  rw[List.pairwise_cons] at hp
  have hge: ∀a∈ks,a≠x:=fun a ha e=>by
   have:=hp.1 a ha
   rw[pos_cons x l a,if_pos e.symm] at this
   omega
  have hks: ∀a∈ks,a∈l:=fun a ha=>by
   rcases List.mem_cons.1 (h a (by simp[ha])) with e|e
   ·exact absurd e (hge a ha)
   ·exact e
  have hpw:ks.Pairwise (fun a b=>pos l a<pos l b):=by
   refine List.Pairwise.imp_of_mem (fun {a b} ha hb hab=> ?_) hp.2
   rw[pos_cons,pos_cons,if_neg (Ne.symm (hge a ha)),if_neg (Ne.symm (hge b hb))] at hab
   omega
  by_cases hk:x=k
  ·subst hk
   exact (sub_pos l ks hks hpw).cons_cons _
  ·refine (sub_pos l (k::ks) (fun a ha=> ?_) ?_).cons _
   ·rcases List.mem_cons.1 ha with rfl|ha
    ·rcases List.mem_cons.1 (h a (by simp)) with e|e
     ·exact absurd e.symm hk
     ·exact e
    ·exact hks a ha
   ·refine List.pairwise_cons.2 ⟨fun a ha=> ?_,hpw⟩
    have:=hp.1 a ha
    rw[pos_cons,pos_cons,if_neg hk,if_neg (Ne.symm (hge a ha))] at this
    omega
theorem pos_sub {l ks:List ByteArray} (hn:l.Nodup) (h:ks.Sublist l):ks.Pairwise (fun a b=>pos l a<pos l b):=by
 refine List.Pairwise.sublist h (List.pairwise_iff_getElem.2 fun i j hi hj hij=> ?_)
 rw[pos_at hn hi,pos_at hn hj]
 exact hij
theorem colsTo_iff (t:GTable):colsTo t t.fCols.length=true↔ (∀c∈t.fCols,colOk c=true)∧(cnm t.fCols).Nodup:=by
 rw[←all_iff colOk dCol t.fCols]
 simp only[colsTo,colsOkAt,List.all_eq_true,List.mem_range,Bool.and_eq_true,decide_eq_true_eq]
 have hl:(cnm t.fCols).length=t.fCols.length:=by simp[cnm]
 have hg: ∀i (hi:i<t.fCols.length),(t.fCols[i]?.getD dCol).fName=(cnm t.fCols)[i]'(by omega):=fun i hi=>by simp[cnm,List.getElem?_eq_getElem hi]
 constructor
 ·intro h
  refine ⟨fun i hi=>(h i hi).1,List.pairwise_iff_getElem.2 fun i j hi hj hij e=> ?_⟩
  have h1:=(h i (by omega)).2
  have h2:=(h j (by omega)).2
  rw[hg i (by omega)] at h1
  rw[hg j (by omega),←e,h1] at h2
  omega
 ·rintro ⟨h1,h2⟩ i hi
  refine ⟨h1 i hi, ?_⟩
  rw[hg i hi,colAt_eq,if_pos (List.getElem_mem _),pos_at h2]
theorem keysTo_iff (t:GTable) (hn:(cnm t.fCols).Nodup):keysTo t t.fKeys.length=true↔t.fKeys.Sublist (cnm t.fCols)∧ ∀c∈t.fCols,c.fName∈t.fKeys→c.fNot=true:=by
 have hl:(cnm t.fCols).length=t.fCols.length:=by simp[cnm]
 simp only[keysTo,keyOkAt,List.all_eq_true,List.mem_range,Bool.and_eq_true,decide_eq_true_eq]
 have hcol: ∀c∈t.fCols,t.fCols[(colAt t c.fName).toNat]?.getD dCol=c:=fun c hc=>by
  obtain ⟨i,hi,rfl⟩:=List.getElem_of_mem hc
  have hm:t.fCols[i].fName∈cnm t.fCols:=List.mem_map.2 ⟨_,hc,rfl⟩
  have h2:pos (cnm t.fCols) t.fCols[i].fName=i:=by
   have:=pos_at hn (i:=i) (by omega)
   simpa [cnm] using this
  rw[colAt_toNat hm,h2,List.getElem?_eq_getElem hi]
  rfl
 constructor
 ·intro h
  have hnn: ∀i,i<t.fKeys.length→0≤colAt t (t.fKeys[i]?.getD ⟨#[]⟩):=fun i hi=>by
   have h1:=(h i hi).1
   have h2:=lastK_ge t i
   omega
  have hmem: ∀k∈t.fKeys,k∈cnm t.fCols:=fun k hk=>by
   obtain ⟨i,hi,rfl⟩:=List.getElem_of_mem hk
   have:=hnn i hi
   rw[List.getElem?_eq_getElem hi] at this
   exact colAt_nn.1 this
  refine ⟨sub_pos _ _ hmem ?_,fun c hc hk=> ?_⟩
  ·have h1:=(adj_pw (fun a b=>decide (colAt t a<colAt t b)) (fun a b c h1 h2=>by simp only[decide_eq_true_eq] at*;omega) (⟨#[]⟩:ByteArray) t.fKeys).1 (fun i hi h0=>by
    have:=(h i hi).1
    rw[lastK,if_neg (by omega)] at this
    simpa using this)
   refine List.Pairwise.imp_of_mem (fun {a b} ha hb hab=> ?_) h1
   rw[decide_eq_true_eq,colAt_eq,colAt_eq,if_pos (hmem a ha),if_pos (hmem b hb)] at hab
   omega
  ·obtain ⟨i,hi,he⟩:=List.getElem_of_mem hk
   have:=(h i hi).2
   rw[List.getElem?_eq_getElem hi,Option.getD_some,he,hcol c hc] at this
   exact this
 ·rintro ⟨hs,hnot⟩ i hi
  have hmem: ∀k∈t.fKeys,k∈cnm t.fCols:=fun k hk=>hs.subset hk
  have hki:t.fKeys[i]?.getD ⟨#[]⟩∈t.fKeys:=getD_mem _ hi
  refine ⟨?_, ?_⟩
  ·unfold lastK
   split
   ·have:=colAt_nn.2 (hmem _ hki)
    omega
   ·have hkj:t.fKeys[i-1]?.getD ⟨#[]⟩∈t.fKeys:=getD_mem _ (by omega)
    have h1:=List.pairwise_iff_getElem.1 (pos_sub hn hs) (i-1) i (by omega) hi (by omega)
    rw[colAt_eq,colAt_eq,if_pos (hmem _ hki),if_pos (hmem _ hkj),List.getElem?_eq_getElem hi,List.getElem?_eq_getElem (show i-1<t.fKeys.length by omega)]
    simp only[Option.getD_some]
    omega
  ·obtain ⟨c,hc,he⟩:=List.mem_map.1 (hmem _ hki)
   have:=hnot c hc (by rw[he];exact hki)
   rw[←he,hcol c hc]
   exact this
theorem tableOk_iff (t:GTable):tableOk t=true↔wordOk t.fName=true∧1≤t.fCols.length∧t.fCols.length≤8∧t.fKeys≠ []∧(∀c∈t.fCols,colOk c=true)∧(cnm t.fCols).Nodup∧t.fKeys.Sublist (cnm t.fCols)∧ ∀c∈t.fCols,c.fName∈t.fKeys→c.fNot=true:=by
 simp only[tableOk,within,Bool.and_eq_true,decide_eq_true_eq,colsTo_iff]
 constructor
 ·rintro ⟨⟨h1,h2,h3⟩,⟨h4,h5⟩,h6⟩
  refine ⟨h1,by omega,by omega,fun e=>by simp[e] at h3,h4,h5,(keysTo_iff t h5).1 h6⟩
 ·rintro ⟨h1,h2,h3,h4,h5,h6,h7⟩
  refine ⟨⟨h1,by omega,List.length_pos_iff.2 h4⟩,⟨h5,h6⟩,(keysTo_iff t h6).2 h7⟩
theorem rowFit_iff (t:GTable) (r:GRow):rowFit t r=true↔r.fVals.length=t.fCols.length∧ ∀i,i<t.fCols.length→stands (t.fCols[i]?.getD dCol) (r.fVals[i]?.getD dVal)=true:=by
 simp only[rowFit,rowTo,rowAt,Bool.and_eq_true,decide_eq_true_eq,List.all_eq_true,List.mem_range]
 constructor
 ·rintro ⟨h1,h2⟩
  exact ⟨h1,fun i hi=>h2 i (by omega)⟩
 ·rintro ⟨h1,h2⟩
  exact ⟨h1,fun i hi=>h2 i (by omega)⟩
theorem stands_valOk {c:GCol} {v:GVal} (h:stands c v=true):valOk v=true:=by
 simp only[stands,Bool.and_eq_true] at h
 exact h.1
theorem rowFit_vals {t:GTable} {r:GRow} (h:rowFit t r=true): ∀v∈r.fVals,valOk v=true:=by
 rw[rowFit_iff] at h
 intro v hv
 obtain ⟨i,hi,rfl⟩:=List.getElem_of_mem hv
 have:=stands_valOk (h.2 i (by omega))
 rwa [List.getElem?_eq_getElem hi] at this
theorem valOk_d:valOk dVal=true:=by simp[valOk,dVal,em]
theorem key_vals {t:GTable} {r:GRow} (h:rowFit t r=true): ∀v∈keyOf t r,valOk v=true:=by
 intro v hv
 obtain ⟨k,_,rfl⟩:=List.mem_map.1 hv
 cases hx:r.fVals[(colAt t k).toNat]? with
 |none=>exact valOk_d
 |some x=>exact rowFit_vals h x (List.mem_of_getElem? hx)
theorem rowLt_total {t:GTable} {a b:GRow} (ha:rowFit t a=true) (hb:rowFit t b=true) (h:keyOf t a≠keyOf t b):rowLt t a b=true∨rowLt t b a=true:=
 kl_total _ _ (by rw[keyOf_len,keyOf_len]) (key_vals ha) (key_vals hb) h
theorem rowLt_asymm {t:GTable} {a b:GRow} (h:rowLt t a b=true):rowLt t b a=false:=kl_asymm h
theorem rowLt_trans {t:GTable} {a b c:GRow} (h:rowLt t a b=true) (h2:rowLt t b c=true):rowLt t a c=true:=kl_trans _ _ _ h h2
end Go.Proofs.YteeolohhmfjafaaGreat
namespace Go.Proofs.YteeolohhmfjafaaGreat
open Go Go.Proofs Go.Sm
attribute [local simp] ti eStr eInt eByte eVal cVal vVal eValS vValS eRow cRow vRow eCol cCol vCol vColS eStrS vStrS eDdl cDdl vDdl cStmt vStmt ePart vPart vPartS eTable cTable vTable vTableS cCat vCat vRowS eRows vRows vRowsS eDb cDb vDb eFol vFol eSnap cSnap vSnap
set_option linter.unusedVariables false
set_option linter.unusedSimpArgs false
set_option maxRecDepth 8000
def eqVal (a b:GVal):Bool:=a.fTy==b.fTy&& (a.fN==b.fN&&a.fS.toList==b.fS.toList)
def eqCol (a b:GCol):Bool:=a.fName.toList==b.fName.toList&& (a.fTy==b.fTy&& (a.fNot==b.fNot&& (a.fHas==b.fHas&&eqVal a.fDef b.fDef)))
def eqS (a b:ByteArray):Bool:=a.toList==b.toList
def eqTo {α:Type} (eq:α→α→Bool) (d:α) (a b:List α) (n:Nat):Bool:=(List.range n).all (fun i=>eq (a[i]?.getD d) (b[i]?.getD d))
def eqRows {α:Type} (eq:α→α→Bool) (d:α) (a b:List α):Bool:=decide ((a.length:Int)=b.length)&&eqTo eq d a b a.length
theorem eqTo_no {α:Type} {eq:α→α→Bool} {d:α} {a b:List α} {n i:Nat} (hi:i<n) (h:eq (a[i]?.getD d) (b[i]?.getD d)=false):eqTo eq d a b n=false:=rangeAll_no hi h
theorem eqTo_succ {α:Type} (eq:α→α→Bool) (d:α) (a b:List α) (n:Nat):eqTo eq d a b (n+1)=(eqTo eq d a b n&&eq (a[n]?.getD d) (b[n]?.getD d)):=rangeAll_succ _ _
theorem eqRows_nil {α:Type} (eq:α→α→Bool) (d:α) (a:List α):eqRows eq d a []=a.isEmpty:=by
 unfold eqRows
 cases a with
 |nil=>rfl
 |cons x r=>simp;omega
theorem eqRows_self {α:Type} (eq:α→α→Bool) (hr: ∀x,eq x x=true) (d:α) (a:List α):eqRows eq d a a=true:=by
 simp[eqRows,eqTo,hr]
theorem eqVal_self (x:GVal):eqVal x x=true:=by simp[eqVal]
theorem eqCol_self (x:GCol):eqCol x x=true:=by simp[eqCol,eqVal_self]
theorem equalStr_ok (a b:List ByteArray) (ha:okM a.length):VC Tryz.prog 308 [vStrS a,vStrS b] [(false,[(.s,.sc (.bool (eqRows eqS ⟨#[]⟩ a b)))])]:=by
 unfold okM at ha
 refine vc_of_ew good hm [0,1,4,10,12,13,14,5,24] Tryz.func308 rfl (by kernel_rfl) (by kernel_rfl) rfl ?_
 simp[Tryz.f308]
 refine ⟨fun h=>by simp[eqRows,h],fun hl=> ?_⟩
 refine ew_loop (fun E=> ∃i:Nat,i≤a.length∧eqTo eqS ⟨#[]⟩ a b i=true∧E= {nt:=26,sl:= [(0,vStrS a),(1,vStrS b),(12,int .i64 a.length),(13,int .i64 i)],bx:= [],rt:= []}) (fun E=>a.length- (E.num 13).toNat) _ (Gh.kb _ [0,1,12,13] [] []) ⟨0,by omega,by simp[eqTo],by simp⟩ ?_
 rintro E1 ⟨i,hi,hall,rfl⟩
 simp
 refine ⟨fun h=>⟨h,by omega, ?_⟩,fun h=> ?_⟩
 ·refine ⟨fun hp=> ?_,fun hp=> .of _ (Gh.kb _ [0,1,12,13] [] []) ⟨i+1,by omega, ?_, ?_⟩ ?_⟩
  ·have:=eqTo_no (eq:=eqS) (d:=⟨#[]⟩) (a:=a) (b:=b) h (by simpa [eqS] using hp)
   simp[eqRows,this]
  ·rw[eqTo_succ,hall];simpa [eqS] using hp
  ·simp[wrapS (show i<9223372036854775807 by omega)]
  ·simp[wrapS (show i<9223372036854775807 by omega)];omega
 ·have:i=a.length:=by omega
  subst this
  simp[eqRows,hall,hl]
theorem equalCol_ok (a b:List GCol) (ha:okM a.length):VC Tryz.prog 307 [vColS a,vColS b] [(false,[(.s,.sc (.bool (eqRows eqCol dCol a b)))])]:=by
 unfold okM at ha
 refine vc_of_ew good hm [0,1,4,10,12,13,14,5,24] Tryz.func307 rfl (by kernel_rfl) (by kernel_rfl) rfl ?_
 simp[Tryz.f307]
 refine ⟨fun h=>by simp[eqRows,h],fun hl=> ?_⟩
 refine ew_loop (fun E=> ∃i:Nat,i≤a.length∧eqTo eqCol dCol a b i=true∧E= {nt:=26,sl:= [(0,vColS a),(1,vColS b),(12,int .i64 a.length),(13,int .i64 i)],bx:= [],rt:= []}) (fun E=>a.length- (E.num 13).toNat) _ (Gh.kb _ [0,1,12,13] [] []) ⟨0,by omega,by simp[eqTo],by simp⟩ ?_
 rintro E1 ⟨i,hi,hall,rfl⟩
 simp
 have hat:eqCol (a[i]?.getD dCol) (b[i]?.getD dCol)=((a[i]?.getD dCol).fName.toList==(b[i]?.getD dCol).fName.toList&& ((a[i]?.getD dCol).fTy==(b[i]?.getD dCol).fTy&& ((a[i]?.getD dCol).fNot==(b[i]?.getD dCol).fNot&& ((a[i]?.getD dCol).fHas==(b[i]?.getD dCol).fHas&& ((a[i]?.getD dCol).fDef.fTy==(b[i]?.getD dCol).fDef.fTy&& ((a[i]?.getD dCol).fDef.fN==(b[i]?.getD dCol).fDef.fN&& (a[i]?.getD dCol).fDef.fS.toList==(b[i]?.getD dCol).fDef.fS.toList)))))):=rfl
 refine ⟨fun h=>⟨h,by omega, ?_⟩,fun h=> ?_⟩
 ·refine ⟨fun hb=> ?_,fun h1 h2 h3 h4 h5 h6 h7=> .of _ (Gh.kb _ [0,1,12,13] [] []) ⟨i+1,by omega,by rw[eqTo_succ,hall,hat];simp[h1,h2,h3,h4,h5,h6,h7], ?_⟩ ?_⟩
  ·have:=eqTo_no (eq:=eqCol) (d:=dCol) (a:=a) (b:=b) h (by rw[hat];grind)
   simp[eqRows,this]
  ·simp[wrapS (show i<9223372036854775807 by omega)]
  ·simp[wrapS (show i<9223372036854775807 by omega)];omega
 ·have:i=a.length:=by omega
  subst this
  simp[eqRows,hall,hl]
def eqDdl (a b:GDdl):Bool:=a.fKind==b.fKind&& (a.fTable.toList==b.fTable.toList&& (eqRows eqCol dCol a.fCols b.fCols&& (eqRows eqS ⟨#[]⟩ a.fKeys b.fKeys&& (a.fName.toList==b.fName.toList&&a.fTo.toList==b.fTo.toList))))
theorem equalDdl_ok (a b:GDdl) (ha:okDdl a):VC Tryz.prog 200 [vDdl a,vDdl b] [(false,[(.s,.sc (.bool (eqDdl a b)))])]:=by
 refine vc_of_ew good hm [0,1,2,3,4] Tryz.func200 rfl (by kernel_rfl) (by kernel_rfl) rfl ?_
 simp[Tryz.f200]
 refine .of (fun h=>⟨h,equalCol_ok a.fCols b.fCols ha.2.2.1.1⟩) ?_
 simp
 refine .of (fun h=>⟨h,equalStr_ok a.fKeys b.fKeys ha.2.2.2.1.1⟩) ?_
 simp
 grind[eqDdl]
def noDdl (d:GDdl):Bool:=decide (d.fKind=0)&& (em d.fTable&& (d.fCols.isEmpty&& (d.fKeys.isEmpty&& (em d.fName&&em d.fTo))))
theorem l04NoDdl_ok (d:GDdl):VC Tryz.prog 287 [vDdl d] [(false,[(.s,.sc (.bool (noDdl d)))])]:=by
 refine vc_of_ew good hm [0,1,2] Tryz.func287 rfl (by kernel_rfl) (by kernel_rfl) rfl ?_
 simp[Tryz.f287]
 grind[noDdl,em]
theorem copyTexts_ok (l:List ByteArray) (hl:l.length≤1048576):VC Tryz.prog 197 [vStrS l] [(false,mStrS l)]:=by
 refine vc_of_ew good hm [0,2] Tryz.func197 rfl (by kernel_rfl) (by kernel_rfl) rfl ?_
 simp[Tryz.f197,mStrS]
 omega
theorem copyTable_ok (t:GTable) (h1:t.fCols.length≤1048576) (h2:t.fKeys.length≤1048576):VC Tryz.prog 249 [vTable t] [(true,mTable t)]:=by
 refine vc_of_ew good hm [0,1,2] Tryz.func249 rfl (by kernel_rfl) (by kernel_rfl) rfl ?_
 simp[Tryz.f249,mTable]
 refine ⟨by omega,.of (copyTexts_ok _ h2) ?_⟩
 simp[mStrS]
def madeT (d:GDdl):GTable:=⟨d.fTable,d.fCols,d.fKeys⟩
theorem made_ok (d:GDdl) (h1:d.fCols.length≤1048576) (h2:d.fKeys.length≤1048576):VC Tryz.prog 305 [vDdl d] [(true,mTable (madeT d))]:=by
 refine vc_of_ew good hm [0,1,2] Tryz.func305 rfl (by kernel_rfl) (by kernel_rfl) rfl ?_
 simp[Tryz.f305,mTable]
 refine .of (copyTable_ok (madeT d) h1 h2) ?_
 simp[mTable,madeT]
def plain (d:GDdl):Bool:=d.fCols.isEmpty&&d.fKeys.isEmpty
def addOk (d:GDdl):Bool:=decide ((d.fCols.length:Int)=1)&& (colOk (d.fCols[0]?.getD dCol)&& ((d.fCols[0]?.getD dCol).fHas|| !(d.fCols[0]?.getD dCol).fNot))
def ddlOk (d:GDdl):Bool:=wordOk d.fTable&& ((decide (d.fKind=1)&& (tableOk (madeT d)&& (em d.fName&&em d.fTo)))||(decide (d.fKind=2)&& (plain d&& (em d.fName&&em d.fTo)))||(decide (d.fKind=3)&& (addOk d&& (d.fKeys.isEmpty&& (em d.fName&&em d.fTo))))||(decide (d.fKind=4)&& (plain d&& (wordOk d.fName&&em d.fTo)))||(decide (d.fKind=5)&& (plain d&& (wordOk d.fName&&wordOk d.fTo))))
theorem okMade {d:GDdl} (h:okDdl d):okTable (madeT d):=⟨h.2.1,h.2.2.1,h.2.2.2.1,trivial⟩
theorem okC0 {d:GDdl} (h:okDdl d) (hl:d.fCols.length=1):okCol (d.fCols[0]?.getD dCol):=h.2.2.1.2 _ (getD_mem dCol (by omega))
theorem ddlOkS_ok (d:GDdl) (hd:okDdl d):VC Tryz.prog 288 [vDdl d] [(false,[(.s,.sc (.bool (ddlOk d)))])]:=by
 refine vc_of_ew good hm [0,1,2,7,3,19,20,40,53,97,110] Tryz.func288 rfl (by kernel_rfl) (by kernel_rfl) rfl ?_
 simp[Tryz.f288]
 refine .of (wordOkS_ok _ hd.2.1) ?_
 simp[beqI]
 refine ⟨fun h=>by grind[ddlOk],fun hw=>⟨fun k1=> .of (fun h=>⟨h,tableOkS_ok (madeT d) (okMade hd)⟩) ?_,fun k1=>⟨fun k2=> ?_,fun k2=>⟨fun k3=>⟨fun h=>⟨h,by omega⟩,.of (fun h=>⟨h,colOkS_ok _ (okC0 hd (by omega))⟩) ?_⟩,fun k3=>⟨fun k4=> .of (fun h=>⟨h,wordOkS_ok _ hd.2.2.2.2.1⟩) ?_,fun k4=>⟨fun k5=> .of (fun h=>⟨h,wordOkS_ok _ hd.2.2.2.2.1⟩) ?_,fun k5=>by grind[ddlOk]⟩⟩⟩⟩⟩⟩
 ·simp
  grind[ddlOk,em]
 ·grind[ddlOk,em,plain]
 ·simp
  refine ⟨by grind,by grind,by grind, ?_⟩
  grind[ddlOk,em,addOk]
 ·simp
  grind[ddlOk,em,plain]
 ·simp
  refine .of (fun h=>⟨h,wordOkS_ok _ hd.2.2.2.2.2.1⟩) ?_
  simp
  grind[ddlOk,em,plain]
theorem ddlOkI_ok (d:GDdl) (hd:okDdl d) (h1:d.fCols.length≤1048576) (h2:d.fKeys.length≤1048576):VC Tryz.prog 198 [vDdl d] [(false,[(.s,.sc (.bool (ddlOk d)))])]:=by
 refine vc_of_ew good hm [0,1,2,7,3,14,15,30,35,71,84] Tryz.func198 rfl (by kernel_rfl) (by kernel_rfl) rfl ?_
 simp[Tryz.f198]
 refine .of (wordOkI_ok _ hd.2.1) ?_
 simp[beqI]
 refine ⟨fun h=>by grind[ddlOk],fun hw=>⟨fun k1=> .of (made_ok d h1 h2) ?_,fun k1=>⟨fun k2=> ?_,fun k2=>⟨fun k3=> ?_,fun k3=>⟨fun k4=> ?_,fun k4=>⟨fun k5=> ?_,fun k5=>by grind[ddlOk]⟩⟩⟩⟩⟩⟩
 ·simp[mTable]
  refine .of (tableOkI_ok (madeT d) (okMade hd)) ?_
  simp
  grind[ddlOk,em]
 ·refine .of (equalDdl_ok d ⟨d.fKind,d.fTable,[],[],⟨#[]⟩,⟨#[]⟩⟩ hd) ?_
  simp[eqDdl,eqRows_nil]
  grind[ddlOk,em,plain]
 ·refine .of (equalDdl_ok d ⟨d.fKind,d.fTable,d.fCols,[],⟨#[]⟩,⟨#[]⟩⟩ hd) ?_
  rw[show eqDdl d ⟨d.fKind,d.fTable,d.fCols,[],⟨#[]⟩,⟨#[]⟩⟩=(d.fKeys.isEmpty&& (em d.fName&&em d.fTo)) by simp[eqDdl,eqRows_nil,eqRows_self eqCol eqCol_self,em]]
  generalize hq:(d.fKeys.isEmpty&& (em d.fName&&em d.fTo))=q
  simp
  refine ⟨fun a b=>⟨⟨a,b⟩,by omega⟩,.of (fun h=>⟨h,colOkI_ok _ (okC0 hd (by omega))⟩) ?_⟩
  simp
  refine ⟨by grind,by grind,by grind, ?_⟩
  grind[ddlOk,em,addOk]
 ·refine .of (equalDdl_ok d ⟨d.fKind,d.fTable,[],[],d.fName,⟨#[]⟩⟩ hd) ?_
  rw[show eqDdl d ⟨d.fKind,d.fTable,[],[],d.fName,⟨#[]⟩⟩=(plain d&&em d.fTo) by simp[eqDdl,eqRows_nil,em,plain,Bool.and_assoc]]
  generalize hq:(plain d&&em d.fTo)=q
  simp
  refine .of (fun h=>⟨h,wordOkI_ok _ hd.2.2.2.2.1⟩) ?_
  simp
  grind[ddlOk,em]
 ·refine .of (equalDdl_ok d ⟨d.fKind,d.fTable,[],[],d.fName,d.fTo⟩ hd) ?_
  rw[show eqDdl d ⟨d.fKind,d.fTable,[],[],d.fName,d.fTo⟩=plain d by simp[eqDdl,eqRows_nil,em,plain,Bool.and_assoc]]
  generalize hq:plain d=q
  simp
  refine .of (fun h=>⟨h,wordOkI_ok _ hd.2.2.2.2.1⟩) ?_
  simp
  refine .of (fun h=>⟨h,wordOkI_ok _ hd.2.2.2.2.2.1⟩) ?_
  simp
  grind[ddlOk,em]
end Go.Proofs.YteeolohhmfjafaaGreat
namespace Go.Proofs.YteeolohhmfjafaaGreat
open Go Go.Proofs Go.Sm
attribute [local simp] ti eStr eInt eByte eVal cVal vVal eValS vValS eRow cRow vRow eCol cCol vCol vColS eStrS vStrS eDdl cDdl vDdl cStmt vStmt ePart vPart vPartS eTable cTable vTable vTableS cCat vCat vRowS eRows vRows vRowsS eDb cDb vDb eFol vFol eSnap cSnap vSnap
set_option linter.unusedVariables false
set_option linter.unusedSimpArgs false
set_option maxRecDepth 8000
def insW {α:Type} (p:α→Bool) (x:α) (l:List α):List α:=l.takeWhile p++x::l.dropWhile p
def layTo {α:Type} (q:α→Bool) (x:α) (l:List α) (i:Nat):List α:=if (l.take i).any q=true then insW (fun y=> !q y) x (l.take i) else l.take i
theorem insW_len {α:Type} (p:α→Bool) (x:α) (l:List α):(insW p x l).length=l.length+1:=by
 have:=congrArg List.length (List.takeWhile_append_dropWhile (p:=p) (l:=l))
 simp only[List.length_append] at this
 simp only[insW,List.length_append,List.length_cons]
 omega
theorem insW_mem {α:Type} {p:α→Bool} {x:α} {l:List α} {y:α}:y∈insW p x l↔y=x∨y∈l:=by
 have h:l=l.takeWhile p++l.dropWhile p:=List.takeWhile_append_dropWhile.symm
 have h2:y∈l↔y∈l.takeWhile p∨y∈l.dropWhile p:=by
  conv=>lhs;rw[h]
  exact List.mem_append
 simp only[insW,List.mem_append,List.mem_cons,h2]
 grind
theorem insW_congr {α:Type} {p q:α→Bool} (x:α) {l:List α} (h: ∀y∈l,p y=q y):insW p x l=insW q x l:=by
 have h1: ∀l:List α,(∀y∈l,p y=q y)→l.takeWhile p=l.takeWhile q∧l.dropWhile p=l.dropWhile q:=by
  intro l
  induction l with
  |nil=>intro _;exact ⟨rfl,rfl⟩
  |cons a l ih=>
   intro h
   have ha:=h a (by simp)
   obtain ⟨i1,i2⟩:=ih (fun y hy=>h y (by simp[hy]))
   simp only[List.takeWhile_cons,List.dropWhile_cons,ha]
   cases q a<;>simp[i1,i2]
 unfold insW
 rw[(h1 l h).1,(h1 l h).2]
theorem takeW_len {α:Type} (p:α→Bool) (l:List α):(l.takeWhile p).length≤l.length:=(List.takeWhile_sublist p).length_le
theorem insW_at {α:Type} (p:α→Bool) (x:α) (l:List α):insW p x l=l.take (l.takeWhile p).length++x::l.drop (l.takeWhile p).length:=by
 have h:l=l.takeWhile p++l.dropWhile p:=List.takeWhile_append_dropWhile.symm
 unfold insW
 conv=>rhs;rw[h]
 congr 1
 ·rw[List.takeWhile_append_dropWhile]
  conv=>rhs;arg 2;rw[h]
  rw[List.take_left]
 ·rw[List.takeWhile_append_dropWhile]
  conv=>rhs;arg 2;arg 2;rw[h]
  rw[List.drop_left]
theorem takeW_at {α:Type} (p:α→Bool) (d:α): ∀ {l:List α} {i:Nat},i≤(l.takeWhile p).length→(i< (l.takeWhile p).length↔i<l.length∧p (l[i]?.getD d)=true)
 | [],i,h=>by simp
 |a::l,0,h=>by
  by_cases ha:p a=true<;>simp[List.takeWhile_cons,ha]
 |a::l,i+1,h=>by
  by_cases ha:p a=true
  ·simp only[List.takeWhile_cons,ha,if_true,List.length_cons] at h⊢
   have:=takeW_at p d (l:=l) (i:=i) (by omega)
   rw[List.getElem?_cons_succ,Nat.add_lt_add_iff_right,Nat.add_lt_add_iff_right]
   exact this
  ·simp[List.takeWhile_cons,ha] at h
theorem takeW_all {α:Type} {p:α→Bool}: ∀ {l:List α},l.any (fun y=> !p y)=false→l.takeWhile p=l∧l.dropWhile p= []
 | [],_=>⟨rfl,rfl⟩
 |a::l,h=>by
  simp only[List.any_cons,Bool.or_eq_false_iff,Bool.not_eq_false'] at h
  obtain ⟨i1,i2⟩:=takeW_all h.2
  simp[List.takeWhile_cons,List.dropWhile_cons,h.1,i1,i2]
theorem takeW_app {α:Type} {p:α→Bool} {m:List α}: ∀ {l:List α},l.any (fun y=> !p y)=true→(l++m).takeWhile p=l.takeWhile p∧(l++m).dropWhile p=l.dropWhile p++m
 | [],h=>by simp at h
 |a::l,h=>by
  simp only[List.any_cons,Bool.or_eq_true] at h
  by_cases ha:p a=true
  ·have h2:l.any (fun y=> !p y)=true:=by simpa [ha] using h
   obtain ⟨i1,i2⟩:=takeW_app (m:=m) h2
   simp[List.takeWhile_cons,List.dropWhile_cons,ha,i1,i2]
  ·simp[List.takeWhile_cons,List.dropWhile_cons,ha]
theorem layTo_zero {α:Type} (q:α→Bool) (x:α) (l:List α):layTo q x l 0= []:=by simp[layTo]
theorem layTo_succ {α:Type} (q:α→Bool) (x:α) (d:α) {l:List α} {i:Nat} (h:i<l.length):layTo q x l (i+1)=if (l.take i).any q=false∧q (l[i]?.getD d)=true then (layTo q x l i++ [x])++ [l[i]?.getD d] else layTo q x l i++ [l[i]?.getD d]:=by
 have e:l.take (i+1)=l.take i++ [l[i]?.getD d]:=by rw[List.take_succ_eq_append_getElem h,List.getElem?_eq_getElem h];rfl
 unfold layTo
 rw[e,List.any_append]
 simp only[List.any_cons,List.any_nil,Bool.or_false]
 cases h1:(l.take i).any q with
 |true=>
  have h2:(l.take i).any (fun y=> !(!q y))=true:=by simpa using h1
  obtain ⟨i1,i2⟩:=takeW_app (p:=fun y=> !q y) (m:= [l[i]?.getD d]) h2
  simp[insW,i1,i2]
 |false=>
  have h2:(l.take i).any (fun y=> !(!q y))=false:=by simpa using h1
  obtain ⟨i1,i2⟩:=takeW_all (p:=fun y=> !q y) h2
  cases h3:q (l[i]?.getD d) with
  |true=>
   have h4:(l.take i).takeWhile (fun y=> !q y)=l.take i:=i1
   have: ∀a:List α,a.any (fun y=> !(!q y))=false→insW (fun y=> !q y) x (a++ [l[i]?.getD d])=a++ [x]++ [l[i]?.getD d]:=by
    intro a
    induction a with
    |nil=>intro _;simp[insW,List.takeWhile_cons,List.dropWhile_cons,h3]
    |cons b a ih=>
     intro hb
     simp only[List.any_cons,Bool.or_eq_false_iff,Bool.not_eq_false'] at hb
     have:=ih hb.2
     simp only[insW] at this⊢
     simp[List.takeWhile_cons,List.dropWhile_cons,hb.1] at this⊢
     exact this
   simp[this _ h2]
  |false=>simp
theorem layTo_end {α:Type} (q:α→Bool) (x:α) (l:List α):insW (fun y=> !q y) x l=if l.any q=true then layTo q x l l.length else layTo q x l l.length++ [x]:=by
 unfold layTo
 rw[List.take_length]
 split
 ·rfl
 ·rename_i h
  have h2:l.any (fun y=> !(!q y))=false:=by simpa using h
  obtain ⟨i1,i2⟩:=takeW_all (p:=fun y=> !q y) h2
  simp[insW,i1,i2]
theorem layTo_len {α:Type} (q:α→Bool) (x:α) (l:List α) (i:Nat):(layTo q x l i).length≤min i l.length+1:=by
 unfold layTo
 split
 ·rw[insW_len,List.length_take];omega
 ·rw[List.length_take];omega
theorem insW_pw {α:Type} {R:α→α→Bool} (tr: ∀a b c,R a b=true→R b c=true→R a c=true) (x:α): ∀ {l:List α},l.Pairwise (fun a b=>R a b=true)→(∀y∈l,R y x=true∨R x y=true)→(insW (fun y=>R y x) x l).Pairwise (fun a b=>R a b=true)
 | [],_,_=>by simp[insW]
 |a::l,hp,ht=>by
  rw[List.pairwise_cons] at hp
  by_cases ha:R a x=true
  ·have ih:=insW_pw tr x hp.2 (fun y hy=>ht y (by simp[hy]))
   have e:insW (fun y=>R y x) x (a::l)=a::insW (fun y=>R y x) x l:=by simp[insW,List.takeWhile_cons,List.dropWhile_cons,ha]
   rw[e,List.pairwise_cons]
   refine ⟨fun y hy=> ?_,ih⟩
   rcases insW_mem.1 hy with rfl|hy
   ·exact ha
   ·exact hp.1 y hy
  ·have e:insW (fun y=>R y x) x (a::l)=x::a::l:=by simp[insW,List.takeWhile_cons,List.dropWhile_cons,ha]
   have hx:R x a=true:=(ht a (by simp)).resolve_left ha
   rw[e,List.pairwise_cons,List.pairwise_cons]
   refine ⟨fun y hy=> ?_,hp⟩
   rcases List.mem_cons.1 hy with rfl|hy
   ·exact hx
   ·exact tr _ _ _ hx (hp.1 y hy)
theorem eqVs_iff (a b:List GVal):eqRows veq dVal a b=true↔a=b:=by
 simp only[eqRows,eqTo,Bool.and_eq_true,decide_eq_true_eq,List.all_eq_true,List.mem_range,veq_iff]
 constructor
 ·rintro ⟨h1,h2⟩
  refine List.ext_getElem (by omega) fun i hi hj=> ?_
  have:=h2 i hi
  rwa [List.getElem?_eq_getElem hi,List.getElem?_eq_getElem hj] at this
 ·rintro rfl
  exact ⟨rfl,fun _ _=>rfl⟩
def keyAt (t:GTable) (l:List GRow) (key:List GVal):Int:=idxF (fun r=>eqRows veq dVal (keyOf t r) key) l
theorem keyAt_bd (t:GTable) (l:List GRow) (key:List GVal): -1≤keyAt t l key∧keyAt t l key<l.length:=idxF_bd _ _
theorem keyAt_nn (t:GTable) (l:List GRow) (key:List GVal):0≤keyAt t l key↔ ∃r∈l,keyOf t r=key:=by
 have:=idxF_ge (fun r=>eqRows veq dVal (keyOf t r) key) l
 rw[Bool.eq_iff_iff,decide_eq_true_eq,List.any_eq_true] at this
 simp only[eqVs_iff] at this
 exact this
theorem keyAt_get {t:GTable} {l:List GRow} {key:List GVal} (h:0≤keyAt t l key):keyOf t (l[(keyAt t l key).toNat]?.getD dRow)=key:=by
 have h2:l.any (fun r=>eqRows veq dVal (keyOf t r) key)=true:=by
  have:=idxF_ge (fun r=>eqRows veq dVal (keyOf t r) key) l
  rw[←this]
  exact decide_eq_true h
 have hlt:l.findIdx (fun r=>eqRows veq dVal (keyOf t r) key)<l.length:=List.findIdx_lt_length_of_exists (by simpa using h2)
 have e:(keyAt t l key).toNat=l.findIdx (fun r=>eqRows veq dVal (keyOf t r) key):=by
  unfold keyAt idxF
  rw[if_pos h2]
  rfl
 rw[e,List.getElem?_eq_getElem hlt]
 have:=List.findIdx_getElem (w:=hlt) (p:=fun r=>eqRows veq dVal (keyOf t r) key)
 exact (eqVs_iff _ _).1 this
def rowPut (t:GTable) (l:List GRow) (r:GRow):List GRow×Int:=
 if rowsOk t l=false then ([],1) else if rowFit t r=false then ([],2) else if 0≤keyAt t l (keyOf t r) then ([],3) else if l.length=60 then ([],4) else (insW (fun x=>rowLt t x r) r l,0)
def rowSet (t:GTable) (l:List GRow) (key:List GVal) (r:GRow):List GRow×Int:=
 if rowsOk t l=false then ([],1) else if rowFit t r=false then ([],2) else if keyOk t key=false∨keyAt t l key<0 then ([],5) else
 if eqRows veq dVal (keyOf t r) key=false∧0≤keyAt t l (keyOf t r) then ([],3) else (insW (fun x=>rowLt t x r) r (l.eraseIdx (keyAt t l key).toNat),0)
def rowOut (t:GTable) (l:List GRow) (key:List GVal):List GRow×Int:=
 if rowsOk t l=false then ([],1) else if keyOk t key=false∨keyAt t l key<0 then ([],5) else (l.eraseIdx (keyAt t l key).toNat,0)
theorem rowsOk_erase {t:GTable} {l:List GRow} (h:rowsOk t l=true) (k:Nat):rowsOk t (l.eraseIdx k)=true:=by
 rw[rowsOk_iff] at h⊢
 have hs:=List.eraseIdx_sublist (l:=l) (k:=k)
 exact ⟨h.1,by have:=hs.length_le;omega,fun r hr=>h.2.2.1 r (hs.subset hr),h.2.2.2.sublist hs⟩
theorem rowsOk_ins {t:GTable} {l:List GRow} {r:GRow} (h:rowsOk t l=true) (hr:rowFit t r=true) (hk: ∀x∈l,keyOf t x≠keyOf t r) (hl:l.length<60):rowsOk t (insW (fun x=>rowLt t x r) r l)=true:=by
 rw[rowsOk_iff] at h⊢
 refine ⟨h.1,by rw[insW_len];omega,fun x hx=> ?_, ?_⟩
 ·rcases insW_mem.1 hx with rfl|hx
  ·exact hr
  ·exact h.2.2.1 x hx
 ·exact insW_pw (R:=rowLt t) (fun a b c=>rowLt_trans) r h.2.2.2 (fun y hy=>rowLt_total (h.2.2.1 y hy) hr (hk y hy))
theorem lay_ins {t:GTable} {l:List GRow} {r:GRow} (hf: ∀x∈l,rowFit t x=true) (hr:rowFit t r=true) (hk: ∀x∈l,keyOf t x≠keyOf t r):insW (fun y=> !rowLt t r y) r l=insW (fun x=>rowLt t x r) r l:=by
 refine insW_congr r fun y hy=> ?_
 rcases rowLt_total (hf y hy) hr (hk y hy) with h|h
 ·rw[h,rowLt_asymm h];rfl
 ·rw[h,rowLt_asymm h];rfl
theorem key_once {t:GTable} {l:List GRow} (h:l.Pairwise (fun a b=>rowLt t a b=true)) {i j:Nat} (hi:i<l.length) (hj:j<l.length) (e:keyOf t (l[i]?.getD dRow)=keyOf t (l[j]?.getD dRow)):i=j:=by
 rw[List.getElem?_eq_getElem hi,List.getElem?_eq_getElem hj] at e
 simp only[Option.getD_some] at e
 have h2:=List.pairwise_iff_getElem.1 h
 rcases Nat.lt_trichotomy i j with hlt|he|hgt
 ·have:=h2 i j hi hj hlt
  rw[rowLt,e,kl_irrefl] at this
  cases this
 ·exact he
 ·have:=h2 j i hj hi hgt
  rw[rowLt,e,kl_irrefl] at this
  cases this
theorem key_rest {t:GTable} {l:List GRow} {key key2:List GVal} (h:rowsOk t l=true) (hk:0≤keyAt t l key):(∃x∈l.eraseIdx (keyAt t l key).toNat,keyOf t x=key2)↔key2≠key∧ ∃x∈l,keyOf t x=key2:=by
 have hg:=keyAt_get hk
 have hb:=keyAt_bd t l key
 have hp:=((rowsOk_iff t l).1 h).2.2.2
 simp only[List.mem_eraseIdx_iff_getElem?]
 constructor
 ·rintro ⟨x,⟨i,hne,hx⟩,rfl⟩
  obtain ⟨hi,rfl⟩:=List.getElem?_eq_some_iff.1 hx
  refine ⟨fun e=>hne ?_,_,List.getElem_mem hi,rfl⟩
  refine key_once hp hi (by omega) ?_
  rw[hg,←e,List.getElem?_eq_getElem hi]
  rfl
 ·rintro ⟨hne,x,hx,rfl⟩
  obtain ⟨i,hi,rfl⟩:=List.getElem_of_mem hx
  refine ⟨_,⟨i,fun e=>hne ?_,List.getElem?_eq_getElem hi⟩,rfl⟩
  rw[←hg,←e,List.getElem?_eq_getElem hi]
  rfl
theorem rowPut_ok {t:GTable} {l:List GRow} {r:GRow} (h:(rowPut t l r).2=0):rowsOk t (rowPut t l r).1=true:=by
 unfold rowPut at h⊢
 split at h
 ·simp at h
 split at h
 ·simp at h
 split at h
 ·simp at h
 split at h
 ·simp at h
 rename_i h1 h2 h3 h4
 rw[if_neg h1,if_neg h2,if_neg h3,if_neg h4]
 simp only[Bool.not_eq_false] at h1 h2
 have h5:=((rowsOk_iff t l).1 h1).2.1
 refine rowsOk_ins h1 h2 (fun x hx e=>h3 ?_) (by omega)
 exact (keyAt_nn t l _).2 ⟨x,hx,e⟩
theorem rowOut_ok {t:GTable} {l:List GRow} {key:List GVal} (h:(rowOut t l key).2=0):rowsOk t (rowOut t l key).1=true:=by
 unfold rowOut at h⊢
 split at h
 ·simp at h
 split at h
 ·simp at h
 rename_i h1 h2
 rw[if_neg h1,if_neg h2]
 exact rowsOk_erase (by simpa using h1) _
theorem rowSet_ok {t:GTable} {l:List GRow} {key:List GVal} {r:GRow} (h:(rowSet t l key r).2=0):rowsOk t (rowSet t l key r).1=true:=by
 unfold rowSet at h⊢
 split at h
 ·simp at h
 split at h
 ·simp at h
 split at h
 ·simp at h
 split at h
 ·simp at h
 rename_i h1 h2 h3 h4
 rw[if_neg h1,if_neg h2,if_neg h3,if_neg h4]
 simp only[Bool.not_eq_false] at h1 h2
 have h5:0≤keyAt t l key:=by
  have:=(keyAt_bd t l key).1
  by_cases hx:0≤keyAt t l key
  ·exact hx
  ·exact absurd (.inr (by omega)) h3
 have h6:=((rowsOk_iff t l).1 h1).2.1
 have hb:=keyAt_bd t l key
 refine rowsOk_ins (rowsOk_erase h1 _) h2 (fun x hx e=> ?_) ?_
 ·have:=(key_rest h1 h5).1 ⟨x,hx,e⟩
  exact h4 ⟨Bool.eq_false_iff.2 fun e=>this.1 ((eqVs_iff _ _).1 e),(keyAt_nn t l _).2 this.2⟩
 ·rw[List.length_eraseIdx_of_lt (by omega)];omega
end Go.Proofs.YteeolohhmfjafaaGreat
namespace Go.Proofs.YteeolohhmfjafaaGreat
open Go Go.Proofs Go.Sm
attribute [local simp] ti eStr eInt eByte eVal cVal vVal eValS vValS eRow cRow vRow eCol cCol vCol vColS eStrS vStrS eDdl cDdl vDdl cStmt vStmt ePart vPart vPartS eTable cTable vTable vTableS cCat vCat vRowS eRows vRows vRowsS eDb cDb vDb eFol vFol eSnap cSnap vSnap
set_option linter.unusedVariables false
set_option linter.unusedSimpArgs false
set_option maxRecDepth 8000
def tabAt (l:List GTable) (s:ByteArray):Int:=idxF (fun t:GTable=>t.fName.toList==s.toList) l
theorem tabAt_bd (l:List GTable) (s:ByteArray): -1≤tabAt l s∧tabAt l s<l.length:=idxF_bd _ _
theorem at1_ok (t:GTable) (s:ByteArray):VC Tryz.prog 304 [vTable t,.p (.ps [.sc (.string s)])] [(false,[(.s,.sc (.bool (t.fName.toList==s.toList)))])]:=by
 refine vc_of_ew good hm [0,1,2,3] Tryz.func304 rfl (by kernel_rfl) (by kernel_rfl) rfl ?_
 simp[Tryz.f304]
theorem at_ok (c:GCat) (s:ByteArray) (hl:okM c.fTables.length):VC Tryz.prog 196 [vCat c,str s] [(false,[(.s,.sc (.int .i64 (tabAt c.fTables s)))])]:=by
 refine vc_of_ew good hm [0,1,2,3,4] Tryz.func196 rfl (by kernel_rfl) (by kernel_rfl) rfl ?_
 simp[Tryz.f196]
 refine .of (idxTable1_ok c.fTables _ _ (fun t:GTable=>t.fName.toList==s.toList) hl (fun x _=>at1_ok x s)) ?_
 simp[tabAt]
theorem l02At_ok (c:GCat) (s:ByteArray) (hl:okM c.fTables.length):VC Tryz.prog 184 [vCat c,str s] [(false,[(.s,.sc (.int .i64 (tabAt c.fTables s)))])]:=by
 unfold okM at hl
 refine vc_of_ew good hm [0,1,2,4,8,9,10,11,6,5,18] Tryz.func184 rfl (by kernel_rfl) (by kernel_rfl) rfl ?_
 simp[Tryz.f184]
 refine ew_loop (fun E=> ∃i:Nat,i≤c.fTables.length∧anyT (fun t:GTable=>t.fName.toList==s.toList) c.fTables i=false∧E= {nt:=21,sl:= [(1,str s),(8,vTableS c.fTables),(9,int .i64 c.fTables.length),(10,int .i64 i)],bx:= [],rt:= []}) (fun E=>c.fTables.length- (E.num 10).toNat) _ (Gh.kb _ [1,8,9,10] [] []) ⟨0,by omega,anyT_zero _ _,by simp⟩ ?_
 rintro E1 ⟨i,hi,hall,rfl⟩
 simp
 refine ⟨fun h=>⟨h,fun hp=>(idxF_at _ dTable h hall (by simpa using hp)).symm,fun hp=> .of _ (Gh.kb _ [1,8,9,10] [] []) ⟨i+1,by omega,by rw[anyT_succ _ dTable h,hall];simpa using hp, ?_⟩ ?_⟩,fun h=> ?_⟩
 ·simp[wrapS (show i<9223372036854775807 by omega)]
 ·simp[wrapS (show i<9223372036854775807 by omega)];omega
 ·have:i=c.fTables.length:=by omega
  subst this
  rw[anyT_all] at hall
  exact (idxF_no _ hall).symm
def bdTable (t:GTable):Prop:=t.fCols.length≤1048576∧t.fKeys.length≤1048576
theorem l02Table_ok (t:GTable) (h:bdTable t):VC Tryz.prog 284 [vTable t] [(true,mTable t)]:=by
 obtain ⟨h1,h2⟩:=h
 refine vc_of_ew good hm [0,1,2] Tryz.func284 rfl (by kernel_rfl) (by kernel_rfl) rfl ?_
 simp[Tryz.f284,mTable]
 omega
def colNames (l:List GCol):List ByteArray:=l.map (·.fName)
theorem colNames_succ {l:List GCol} {i:Nat} (h:i<l.length):colNames (l.take (i+1))=colNames (l.take i)++ [(l[i]?.getD dCol).fName]:=by
 unfold colNames
 rw[List.take_succ_eq_append_getElem h,List.map_append,List.getElem?_eq_getElem h]
 rfl
theorem names_ok (t:GTable) (h1:t.fCols.length≤1048576):VC Tryz.prog 150 [vTable t] [(false,mStrS (colNames t.fCols))]:=by
 refine vc_of_ew good hm [0,1,2,3,8,9,10,11,5] Tryz.func150 rfl (by kernel_rfl) (by kernel_rfl) rfl ?_
 simp[Tryz.f150,mStrS]
 refine ew_loop (fun E=> ∃i:Nat,i≤t.fCols.length∧E= {nt:=21,sl:= [(3,.v false [.r [6]]),(8,vColS t.fCols),(9,int .i64 t.fCols.length),(10,int .i64 i)],bx:= [],rt:=(mStrS (colNames (t.fCols.take i))).map fun y=>(6,y)}) (fun E=>t.fCols.length- (E.num 10).toNat) _ (Gh.kb _ [3,8,9,10] [] [6]) ⟨0,by omega,by simp[mStrS,colNames]⟩ ?_
 rintro E1 ⟨i,hi,rfl⟩
 have hsl:(colNames (t.fCols.take i)).length=i:=by simp[colNames];omega
 simp[mStrS]
 refine ⟨fun h=>⟨h,by omega,.of _ ((Gh.kb _ [3,8,9,10] [] [18]).trans (Gh.rn _ 18 6)) ⟨i+1,by omega, ?_⟩ ?_⟩,fun h=> ?_⟩
 ·rw[colNames_succ h]
  simp[wrapS (show i<9223372036854775807 by omega),mStrS]
 ·simp[wrapS (show i<9223372036854775807 by omega)];omega
 ·have:i=t.fCols.length:=by omega
  subst this
  simp
def theTab (d:GDb) (s:ByteArray):GTable:=d.fCat.fTables[(tabAt d.fCat.fTables s).toNat]?.getD dTable
def namesP (d:GDb) (s:ByteArray):List ByteArray×List ByteArray:=if 0≤tabAt d.fCat.fTables s then (colNames (theTab d s).fCols,(theTab d s).fKeys) else ([],[])
theorem getD_all {α:Type} {p:α→Prop} {l:List α} {d:α} (h: ∀x∈l,p x) (hd:p d) (i:Nat):p (l[i]?.getD d):=by
 cases hx:l[i]? with
 |none=>exact hd
 |some x=>exact h x (List.mem_of_getElem? hx)
theorem bdTable_d:bdTable dTable:=by simp[bdTable,dTable]
theorem tableOf_ok (c:GCat) (s:ByteArray) (hc:okCat c) (hb: ∀t∈c.fTables,bdTable t) (T:GTable) (hT:T=if catOk c=true∧0≤tabAt c.fTables s then c.fTables[(tabAt c.fTables s).toNat]?.getD dTable else dTable):VC Tryz.prog 182 [vCat c,str s] [(true,mTable T),(false,[(.s,.sc (.bool (catOk c&&decide (0≤tabAt c.fTables s))))])]:=by
 refine vc_of_ew good hm [0,1,2,4,5,6,16] Tryz.func182 rfl (by kernel_rfl) (by kernel_rfl) rfl ?_
 simp[Tryz.f182,mTable]
 refine .of (l02At_ok c s hc.1.1) ?_
 have hbd:=tabAt_bd c.fTables s
 simp
 refine .of (catOkS_ok c hc) ?_
 simp
 refine ⟨fun h=> ?_,fun a1 a2=>⟨⟨a2,hbd.2⟩,.of (l02Table_ok _ (getD_all hb bdTable_d _)) ?_⟩⟩
 ·have: ¬(catOk c=true∧0≤tabAt c.fTables s):=by grind
  rw[if_neg this] at hT
  subst hT
  simp[dTable]
  grind
 ·rw[if_pos ⟨a1,a2⟩] at hT
  simp[mTable,a1,a2,hT]
theorem catOk_of_dbOk {d:GDb} (h:dbOk d=true):catOk d.fCat=true:=by
 simp only[dbOk,Bool.and_eq_true] at h
 exact h.1
def namesOf (d:GDb) (s:ByteArray):List ByteArray×List ByteArray:=if dbOk d=true then namesP d s else ([],[])
theorem dbB {d:GDb} (hs: ∀n∈wDb d,n≤1048576): ∀t∈d.fCat.fTables,bdTable t:=fun t ht=>
 ⟨hs _ (by
  simp only[wDb,wCat,wTableS,List.append_nil]
  refine List.mem_append_left _ (List.mem_cons_of_mem _ (List.mem_flatMap.2 ⟨t,ht, ?_⟩))
  simp[wTable,wColS]),hs _ (by
  simp only[wDb,wCat,wTableS,List.append_nil]
  refine List.mem_append_left _ (List.mem_cons_of_mem _ (List.mem_flatMap.2 ⟨t,ht, ?_⟩))
  simp[wTable,wStrS])⟩
theorem S_NamesOf_ok (d:GDb) (s:ByteArray) (o0:okDb d) (hs: ∀n∈wDb d,n≤1048576) (_:(wDb d).sum≤1048576) (o1:okM s.size) (h1:s.size≤1048576):VC Tryz.prog 87 [vDb d,str s] [(false,mStrS (namesOf d s).1),(false,mStrS (namesOf d s).2)]:=by
 refine vc_of_ew good hm [0,1,2,4,5,6,7,8,25,27,28,29,30,10] Tryz.func87 rfl (by kernel_rfl) (by kernel_rfl) rfl ?_
 simp[Tryz.f87,mStrS]
 obtain ⟨T,hT⟩: ∃T,T=if catOk d.fCat=true∧0≤tabAt d.fCat.fTables s then d.fCat.fTables[(tabAt d.fCat.fTables s).toNat]?.getD dTable else dTable:=⟨_,rfl⟩
 have hTb:bdTable T:=by rw[hT];split;exact getD_all (dbB hs) bdTable_d _;exact bdTable_d
 refine .of (tableOf_ok d.fCat s o0.1 (dbB hs) T hT) ?_
 simp[mTable]
 refine .of (fun h=>⟨h,dbOkS_ok d o0 (fun t ht=>(dbB hs t ht).2)⟩) ?_
 simp
 refine ⟨fun h=> ?_,fun a1 a2 a3=> ?_⟩
 ·have:namesOf d s=([],[]):=by
   have:= @catOk_of_dbOk d
   grind[namesOf,namesP]
  simp[this]
 have hTe:T=theTab d s:=by rw[hT,if_pos ⟨a1,a2⟩];rfl
 have hres:namesOf d s=(colNames T.fCols,T.fKeys):=by simp[namesOf,namesP,a2,a3,hTe]
 rw[hres]
 obtain ⟨b1,b2⟩:=hTb
 refine ew_loop (fun E=> ∃i:Nat,i≤T.fCols.length∧E= {nt:=44,sl:= [(6,.p (.bx 6 0)),(8,.v false [.r [18]]),(27,.v false [.r [1015]]),(28,int .i64 T.fCols.length),(29,int .i64 i)],bx:= [(6,[.s (.sc (.string T.fName)),.r [1015],.r [2015]])],rt:=((mStrS (colNames (T.fCols.take i))).map fun y=>(18,y))++(((mColS T.fCols).map fun y=>(1015,y))++((mStrS T.fKeys).map fun y=>(2015,y)))}) (fun E=>T.fCols.length- (E.num 29).toNat) _ (Gh.kb _ [6,8,27,28,29] [6] [18,1015,2015]) ⟨0,by omega,by simp[mStrS,mColS,colNames]⟩ ?_
 rintro E1 ⟨i,hi,rfl⟩
 have hsl:(colNames (T.fCols.take i)).length=i:=by simp[colNames];omega
 simp[mStrS,mColS,md,lf,List.range']
 refine ⟨fun h=>⟨h,by omega,.of _ ((Gh.kb _ [6,8,27,28,29] [6] [37,1015,2015]).trans (Gh.rn _ 37 18)) ⟨i+1,by omega, ?_⟩ ?_⟩,fun h=> ?_⟩
 ·rw[colNames_succ h]
  simp[wrapS (show i<9223372036854775807 by omega),mStrS,mColS]
 ·simp[wrapS (show i<9223372036854775807 by omega)];omega
 ·have:i=T.fCols.length:=by omega
  subst this
  simp
  omega
end Go.Proofs.YteeolohhmfjafaaGreat
namespace Go.Proofs.YteeolohhmfjafaaGreat
open Go Go.Proofs Go.Sm
attribute [local simp] ti eStr eInt eByte eVal cVal vVal eValS vValS eRow cRow vRow eCol cCol vCol vColS eStrS vStrS eDdl cDdl vDdl cStmt vStmt ePart vPart vPartS eTable cTable vTable vTableS cCat vCat vRowS eRows vRows vRowsS eDb cDb vDb eFol vFol eSnap cSnap vSnap
set_option linter.unusedVariables false
set_option linter.unusedSimpArgs false
set_option maxRecDepth 8000
def renS (a b s:ByteArray):ByteArray:=if s.toList==a.toList then b else s
def renC (a b:ByteArray) (c:GCol):GCol:=if c.fName.toList==a.toList then ⟨b,c.fTy,c.fNot,c.fHas,c.fDef⟩ else c
theorem renS_eq (a b s:ByteArray):(s=a→renS a b s=b)∧(s≠a→renS a b s=s):=by
 unfold renS
 by_cases h:s=a
 ·subst h;simp
 ·have:(s.toList==a.toList)=false:=Bool.eq_false_iff.2 fun e=>h ((tl_beq _ _).1 e)
  simp[this,h]
theorem renC_name (a b:ByteArray) (c:GCol):(renC a b c).fName=renS a b c.fName:=by
 unfold renC renS
 split<;>rfl
theorem cnm_ren (a b:ByteArray) (l:List GCol):cnm (l.map (renC a b))=(cnm l).map (renS a b):=by
 unfold cnm
 rw[List.map_map,List.map_map]
 exact List.map_congr_left fun c _=>renC_name a b c
theorem hasS_iff (l:List ByteArray) (s:ByteArray):has l s=true↔s∈l:=by
 simp only[has,List.any_eq_true,tl_beq]
 exact ⟨fun ⟨x,h,e⟩=>e▸h,fun h=>⟨s,h,rfl⟩⟩
def col0 (d:GDdl):GCol:=d.fCols[0]?.getD dCol
def tabCh (t:GTable) (d:GDdl):GTable:=
 if d.fKind=3 then ⟨t.fName,t.fCols++ [col0 d],t.fKeys⟩
 else if d.fKind=4 then ⟨t.fName,t.fCols.filter (fun c=> !(c.fName.toList==d.fName.toList)),t.fKeys⟩
 else if d.fKind=5 then ⟨t.fName,t.fCols.map (renC d.fName d.fTo),t.fKeys.map (renS d.fName d.fTo)⟩ else t
def tabCode (t:GTable) (d:GDdl):Int:=
 if (d.fKind=3∧0≤colAt t (col0 d).fName)∨(d.fKind=5∧0≤colAt t d.fTo) then 5 else
 if d.fKind=3∧t.fCols.length=8 then 6 else
 if (d.fKind=4∨d.fKind=5)∧colAt t d.fName<0 then 7 else
 if d.fKind=4∧has t.fKeys d.fName=true then 8 else 0
def tabOf (c:GCat) (s:ByteArray):GTable:=c.fTables[(tabAt c.fTables s).toNat]?.getD dTable
def ddlCode (c:GCat) (d:GDdl):Int:=
 if d.fKind=1 then (if 0≤tabAt c.fTables d.fTable then 2 else if c.fTables.length=6 then 3 else 0) else
 if tabAt c.fTables d.fTable<0 then 4 else tabCode (tabOf c d.fTable) d
def catCh (c:GCat) (d:GDdl):GCat:=
 if d.fKind=1 then ⟨insW (fun y=>tabLt y (madeT d)) (madeT d) c.fTables⟩ else
 if d.fKind=2 then ⟨c.fTables.eraseIdx (tabAt c.fTables d.fTable).toNat⟩ else
 ⟨c.fTables.set (tabAt c.fTables d.fTable).toNat (tabCh (tabOf c d.fTable) d)⟩
def ddlApply (c:GCat) (d:GDdl):GCat×Int:=if catOk c=false∨ddlOk d=false then (⟨[]⟩,1) else if ddlCode c d≠0 then (⟨[]⟩,ddlCode c d) else (catCh c d,0)
theorem ddlOk_wd {d:GDdl} (h:ddlOk d=true):wordOk d.fTable=true:=by
 simp only[ddlOk,Bool.and_eq_true] at h
 exact h.1
theorem ddlOk_kind {d:GDdl} (h:ddlOk d=true):d.fKind=1∨d.fKind=2∨d.fKind=3∨d.fKind=4∨d.fKind=5:=by
 simp only[ddlOk,Bool.and_eq_true,Bool.or_eq_true,decide_eq_true_eq] at h
 grind
theorem ddlOk_1 {d:GDdl} (h:ddlOk d=true) (k:d.fKind=1):tableOk (madeT d)=true:=by
 simp only[ddlOk,Bool.and_eq_true,Bool.or_eq_true,decide_eq_true_eq] at h
 grind
theorem ddlOk_3 {d:GDdl} (h:ddlOk d=true) (k:d.fKind=3):d.fCols.length=1∧colOk (col0 d)=true∧((col0 d).fHas=true∨(col0 d).fNot=false):=by
 simp only[ddlOk,addOk,Bool.and_eq_true,Bool.or_eq_true,decide_eq_true_eq] at h
 unfold col0
 grind
theorem ddlOk_5 {d:GDdl} (h:ddlOk d=true) (k:d.fKind=5):wordOk d.fName=true∧wordOk d.fTo=true:=by
 simp only[ddlOk,Bool.and_eq_true,Bool.or_eq_true,decide_eq_true_eq] at h
 grind
theorem nodup_ren {a b:ByteArray} {l:List ByteArray} (h:l.Nodup) (hb:b∉l):(l.map (renS a b)).Nodup:=by
 unfold List.Nodup at h⊢
 rw[List.pairwise_map]
 refine List.Pairwise.imp_of_mem (fun {x y} hx hy hne e=> ?_) h
 by_cases h1:x=a<;>by_cases h2:y=a
 ·exact hne (h1.trans h2.symm)
 ·rw[(renS_eq a b x).1 h1,(renS_eq a b y).2 h2] at e
  exact hb (e▸hy)
 ·rw[(renS_eq a b x).2 h1,(renS_eq a b y).1 h2] at e
  exact hb (e▸hx)
 ·rw[(renS_eq a b x).2 h1,(renS_eq a b y).2 h2] at e
  exact hne e
theorem renC_ok {a b:ByteArray} {c:GCol} (hb:wordOk b=true) (h:colOk c=true):colOk (renC a b c)=true:=by
 unfold renC
 split
 ·unfold colOk at h⊢
  simp only[Bool.and_eq_true] at h⊢
  exact ⟨⟨hb,h.1.2⟩,h.2⟩
 ·exact h
theorem cnm_filter (s:ByteArray) (l:List GCol):cnm (l.filter (fun c=> !(c.fName.toList==s.toList)))=(cnm l).filter (fun x=> !(x.toList==s.toList)):=by
 unfold cnm
 rw[List.filter_map]
 rfl
theorem tabCh_name (t:GTable) (d:GDdl):(tabCh t d).fName=t.fName:=by
 unfold tabCh
 split
 ·rfl
 split
 ·rfl
 split<;>rfl
theorem tabCode_0 {t:GTable} {d:GDdl} (h:tabCode t d=0):(d.fKind=3→(col0 d).fName∉cnm t.fCols∧t.fCols.length≠8)∧(d.fKind=5→d.fTo∉cnm t.fCols∧d.fName∈cnm t.fCols)∧(d.fKind=4→d.fName∈cnm t.fCols∧d.fName∉t.fKeys):=by
 unfold tabCode at h
 split at h
 ·cases h
 rename_i h1
 split at h
 ·cases h
 rename_i h2
 split at h
 ·cases h
 rename_i h3
 split at h
 ·cases h
 rename_i h4
 simp only[colAt_nn,not_or,not_and,hasS_iff] at h1 h2 h3 h4
 have h5: ∀s,¬colAt t s<0→s∈cnm t.fCols:=fun s hs=>colAt_nn.1 (by omega)
 exact ⟨fun k=>⟨h1.1 k,h2 k⟩,fun k=>⟨h1.2 k,h5 _ (h3 (.inr k))⟩,fun k=>⟨h5 _ (h3 (.inl k)),h4 k⟩⟩
theorem tabCh_ok {t:GTable} {d:GDdl} (ht:tableOk t=true) (hd:ddlOk d=true) (hc:tabCode t d=0):tableOk (tabCh t d)=true:=by
 have ht0:=ht
 rw[tableOk_iff] at ht⊢
 obtain ⟨h1,h2,h3,h4,h5,h6,h7,h8⟩:=ht
 obtain ⟨c3,c5,c4⟩:=tabCode_0 hc
 unfold tabCh
 by_cases k3:d.fKind=3
 ·obtain ⟨c31,c32⟩:=c3 k3
  obtain ⟨d1,d2,d3⟩:=ddlOk_3 hd k3
  rw[if_pos k3]
  have hn:cnm (t.fCols++ [col0 d])=cnm t.fCols++ [(col0 d).fName]:=by simp[cnm]
  refine ⟨h1,by simp,by simp;omega,h4,fun c hc=> ?_, ?_, ?_,fun c hc hk=> ?_⟩
  ·rcases List.mem_append.1 hc with hc|hc
   ·exact h5 c hc
   ·rw[List.mem_singleton.1 hc];exact d2
  ·rw[hn,List.nodup_append]
   refine ⟨h6,by simp,fun x hx y hy e=> ?_⟩
   rw[List.mem_singleton.1 hy] at e
   exact c31 (e▸hx)
  ·rw[hn]
   exact h7.trans (List.sublist_append_left _ _)
  ·rcases List.mem_append.1 hc with hc|hc
   ·exact h8 c hc hk
   ·rw[List.mem_singleton.1 hc] at hk
    exact absurd (h7.subset hk) c31
 rw[if_neg k3]
 by_cases k4:d.fKind=4
 ·obtain ⟨c41,c42⟩:=c4 k4
  rw[if_pos k4]
  have hsub:t.fKeys.Sublist (cnm (t.fCols.filter (fun c=> !(c.fName.toList==d.fName.toList)))):=by
   rw[cnm_filter]
   have:t.fKeys.filter (fun x=> !(x.toList==d.fName.toList))=t.fKeys:=List.filter_eq_self.2 fun k hk=>by
    rw[Bool.not_eq_true',Bool.eq_false_iff]
    exact fun e=>c42 ((tl_beq _ _).1 e▸hk)
   rw[←this]
   exact h7.filter _
  refine ⟨h1, ?_, ?_,h4,fun c hc=>h5 c (List.mem_filter.1 hc).1, ?_,hsub,fun c hc hk=>h8 c (List.mem_filter.1 hc).1 hk⟩
  ·have:=hsub.length_le
   have h9:=List.length_pos_iff.2 h4
   simp only[cnm,List.length_map] at this
   show 1≤(t.fCols.filter _).length
   omega
  ·have:=List.length_filter_le (fun c:GCol=> !(c.fName.toList==d.fName.toList)) t.fCols
   show (t.fCols.filter _).length≤8
   omega
  ·rw[cnm_filter]
   exact h6.filter _
 rw[if_neg k4]
 by_cases k5:d.fKind=5
 ·obtain ⟨c51,c52⟩:=c5 k5
  obtain ⟨d1,d2⟩:=ddlOk_5 hd k5
  rw[if_pos k5]
  refine ⟨h1,by simpa using h2,by simpa using h3,by simpa using h4,fun c hc=> ?_, ?_, ?_,fun c hc hk=> ?_⟩
  ·obtain ⟨c',hc',rfl⟩:=List.mem_map.1 hc
   exact renC_ok d2 (h5 c' hc')
  ·rw[cnm_ren]
   exact nodup_ren h6 c51
  ·rw[cnm_ren]
   exact h7.map _
  ·obtain ⟨c',hc',rfl⟩:=List.mem_map.1 hc
   rw[renC_name] at hk
   obtain ⟨k,hk1,hk2⟩:=List.mem_map.1 hk
   have hkm:=h7.subset hk1
   have hcm:c'.fName∈cnm t.fCols:=List.mem_map.2 ⟨c',hc',rfl⟩
   have he:k=c'.fName:=by
    by_cases e1:k=d.fName<;>by_cases e2:c'.fName=d.fName
    ·rw[e1,e2]
    ·rw[(renS_eq _ _ k).1 e1,(renS_eq _ _ c'.fName).2 e2] at hk2
     exact absurd (hk2▸hcm) c51
    ·rw[(renS_eq _ _ k).2 e1,(renS_eq _ _ c'.fName).1 e2] at hk2
     exact absurd (hk2▸hkm) c51
    ·rw[(renS_eq _ _ k).2 e1,(renS_eq _ _ c'.fName).2 e2] at hk2
     exact hk2
   have:=h8 c' hc' (he▸hk1)
   unfold renC
   split<;>exact this
 ·rw[if_neg k5]
  exact (tableOk_iff t).1 ht0
def rowCh (t:GTable) (d:GDdl) (r:GRow):GRow:=
 if d.fKind=3 then ⟨r.fVals++ [(col0 d).fDef]⟩ else if d.fKind=4 then ⟨r.fVals.eraseIdx (colAt t d.fName).toNat⟩ else r
theorem pos_app {l m:List ByteArray} {s:ByteArray} (h:s∈l):pos (l++m) s=pos l s:=by
 unfold pos
 rw[List.findIdx_append,if_pos (show List.findIdx _ l<l.length from pos_lt h)]
theorem filterC_erase {l:List GCol} (hn:(cnm l).Nodup) {s:ByteArray} (h:s∈cnm l):l.filter (fun c=> !(c.fName.toList==s.toList))=l.eraseIdx (pos (cnm l) s):=by
 induction l with
 |nil=>cases h
 |cons x l ih=>
  have hc:cnm (x::l)=x.fName::cnm l:=rfl
  rw[hc] at h hn⊢
  rw[pos_cons]
  rw[List.nodup_cons] at hn
  by_cases e:x.fName=s
  ·subst e
   have:l.filter (fun y=> !(y.fName.toList==x.fName.toList))=l:=List.filter_eq_self.2 fun k hk=>by
    rw[Bool.not_eq_true',Bool.eq_false_iff]
    exact fun e=>hn.1 ((tl_beq _ _).1 e▸List.mem_map.2 ⟨k,hk,rfl⟩)
   simp[this]
  ·have h1:(x.fName.toList==s.toList)=false:=Bool.eq_false_iff.2 fun e2=>e ((tl_beq _ _).1 e2)
   have h2:s∈cnm l:=by
    rcases List.mem_cons.1 h with e2|e2
    ·exact absurd e2.symm e
    ·exact e2
   simp[h1,e,ih hn.2 h2]
theorem pos_filter {l:List ByteArray} {s k:ByteArray} (hs:s∈l) (hk:k∈l) (hne:k≠s) (hn:l.Nodup):pos (l.filter (fun x=> !(x.toList==s.toList))) k=if pos l k<pos l s then pos l k else pos l k-1:=by
 induction l with
 |nil=>cases hs
 |cons x l ih=>
  rw[List.nodup_cons] at hn
  by_cases e:x=s
  ·subst e
   have hf:l.filter (fun y=> !(y.toList==x.toList))=l:=List.filter_eq_self.2 fun k hk=>by
    rw[Bool.not_eq_true',Bool.eq_false_iff]
    exact fun e=>hn.1 ((tl_beq _ _).1 e▸hk)
   rw[pos_cons x l k,pos_cons x l x,if_pos rfl,if_neg (Ne.symm hne)]
   simp[hf]
  ·have h1:(x.toList==s.toList)=false:=Bool.eq_false_iff.2 fun e2=>e ((tl_beq _ _).1 e2)
   have hs':s∈l:=(List.mem_cons.1 hs).resolve_left fun e2=>e e2.symm
   simp only[List.filter_cons,h1,Bool.not_false,if_true]
   rw[pos_cons x l s,if_neg e,pos_cons x l k,pos_cons]
   by_cases e2:x=k
   ·simp[e2]
   ·have hk':k∈l:=(List.mem_cons.1 hk).resolve_left fun e3=>e2 e3.symm
    rw[if_neg e2,if_neg e2,ih hs' hk' hn.2]
    have hp:pos l k≠pos l s:=fun e3=>by
     have a:=pos_get hs'
     have b:=pos_get hk'
     simp only[e3] at b
     exact hne (b.symm.trans a)
    split<;>rename_i h3
    ·rw[if_pos (by omega)]
    ·rw[if_neg (by omega)];omega
theorem pos_ren {a b k:ByteArray} {l:List ByteArray} (hb:b∉l) (hk:k∈l):pos (l.map (renS a b)) (renS a b k)=pos l k:=by
 induction l with
 |nil=>cases hk
 |cons x l ih=>
  rw[List.map_cons,pos_cons,pos_cons]
  have hinj:renS a b x=renS a b k↔x=k:=by
   constructor
   ·intro e
    by_cases e1:x=a<;>by_cases e2:k=a
    ·rw[e1,e2]
    ·rw[(renS_eq _ _ x).1 e1,(renS_eq _ _ k).2 e2] at e
     exact absurd (e▸hk) hb
    ·rw[(renS_eq _ _ x).2 e1,(renS_eq _ _ k).1 e2] at e
     exact absurd (List.mem_cons.2 (.inl e.symm)) hb
    ·rw[(renS_eq _ _ x).2 e1,(renS_eq _ _ k).2 e2] at e
     exact e
   ·intro e;rw[e]
  by_cases e:x=k
  ·rw[if_pos e,if_pos (hinj.2 e)]
  ·rw[if_neg e,if_neg (fun h=>e (hinj.1 h)),ih (fun h=>hb (List.mem_cons.2 (.inr h))) ((List.mem_cons.1 hk).resolve_left fun e3=>e e3.symm)]
theorem rowCh_key {t:GTable} {d:GDdl} {r:GRow} (ht:tableOk t=true) (hd:ddlOk d=true) (hc:tabCode t d=0) (hr:rowFit t r=true):keyOf (tabCh t d) (rowCh t d r)=keyOf t r:=by
 rw[tableOk_iff] at ht
 obtain ⟨h1,h2,h3,h4,h5,h6,h7,h8⟩:=ht
 obtain ⟨c3,c5,c4⟩:=tabCode_0 hc
 have hrl:=((rowFit_iff t r).1 hr).1
 have hcl:(cnm t.fCols).length=t.fCols.length:=by simp[cnm]
 unfold tabCh rowCh
 by_cases k3:d.fKind=3
 ·rw[if_pos k3,if_pos k3]
  unfold keyOf
  refine List.map_congr_left fun k hk=> ?_
  have hkm:=h7.subset hk
  have hn:cnm (t.fCols++ [col0 d])=cnm t.fCols++ [(col0 d).fName]:=by simp[cnm]
  have hp:=pos_lt hkm
  rw[colAt_toNat hkm,colAt_toNat (t:=⟨t.fName,t.fCols++ [col0 d],t.fKeys⟩) (by rw[hn];exact List.mem_append_left _ hkm)]
  show (r.fVals++ [(col0 d).fDef])[pos (cnm (t.fCols++ [col0 d])) k]?.getD dVal=_
  rw[hn,pos_app hkm,List.getElem?_append_left (by omega)]
 rw[if_neg k3,if_neg k3]
 by_cases k4:d.fKind=4
 ·obtain ⟨c41,c42⟩:=c4 k4
  rw[if_pos k4,if_pos k4]
  unfold keyOf
  refine List.map_congr_left fun k hk=> ?_
  have hkm:=h7.subset hk
  have hne:k≠d.fName:=fun e=>c42 (e▸hk)
  have hkf:k∈(cnm t.fCols).filter (fun x=> !(x.toList==d.fName.toList)):=List.mem_filter.2 ⟨hkm,by rw[Bool.not_eq_true',Bool.eq_false_iff];exact fun e=>hne ((tl_beq _ _).1 e)⟩
  rw[colAt_toNat hkm,colAt_toNat c41,colAt_toNat (t:=⟨t.fName,t.fCols.filter (fun c=> !(c.fName.toList==d.fName.toList)),t.fKeys⟩) (by rw[cnm_filter];exact hkf)]
  show (r.fVals.eraseIdx (pos (cnm t.fCols) d.fName))[pos (cnm (t.fCols.filter (fun c=> !(c.fName.toList==d.fName.toList)))) k]?.getD dVal=_
  rw[cnm_filter,pos_filter c41 hkm hne h6]
  have hp:pos (cnm t.fCols) k≠pos (cnm t.fCols) d.fName:=fun e3=>by
   have a:=pos_get c41
   have b:=pos_get hkm
   simp only[e3] at b
   exact hne (b.symm.trans a)
  rw[List.getElem?_eraseIdx]
  split<;>rename_i h9
  ·first|rfl|rw[if_pos h9]
  ·rw[if_neg (by omega),show pos (cnm t.fCols) k-1+1=pos (cnm t.fCols) k by omega]
 rw[if_neg k4,if_neg k4]
 by_cases k5:d.fKind=5
 ·obtain ⟨c51,c52⟩:=c5 k5
  rw[if_pos k5]
  unfold keyOf
  show (t.fKeys.map (renS d.fName d.fTo)).map _=_
  rw[List.map_map]
  refine List.map_congr_left fun k hk=> ?_
  have hkm:=h7.subset hk
  show r.fVals[(colAt _ (renS d.fName d.fTo k)).toNat]?.getD dVal=_
  rw[colAt_toNat hkm,colAt_toNat (t:=⟨t.fName,t.fCols.map (renC d.fName d.fTo),t.fKeys.map (renS d.fName d.fTo)⟩) (by rw[cnm_ren];exact List.mem_map.2 ⟨k,hkm,rfl⟩)]
  show r.fVals[pos (cnm (t.fCols.map (renC d.fName d.fTo))) _]?.getD dVal=_
  rw[cnm_ren,pos_ren c51 hkm]
 ·rw[if_neg k5]
theorem stands_def {c:GCol} (hc:colOk c=true) (h:c.fHas=true∨c.fNot=false):stands c c.fDef=true:=by
 simp only[colOk,nullV,Bool.and_eq_true] at hc
 obtain ⟨_,h2⟩:=hc
 unfold stands
 split at h2
 ·exact h2
 ·rename_i h3
  simp only[Bool.and_eq_true,decide_eq_true_eq] at h2
  have h4:c.fNot=false:=by
   rcases h with h|h
   ·exact absurd h h3
   ·exact h
  simp[h4,h2.1,valOk,h2.2.1,h2.2.2]
theorem rowCh_fit {t:GTable} {d:GDdl} {r:GRow} (ht:tableOk t=true) (hd:ddlOk d=true) (hc:tabCode t d=0) (hr:rowFit t r=true):rowFit (tabCh t d) (rowCh t d r)=true:=by
 rw[tableOk_iff] at ht
 obtain ⟨h1,h2,h3,h4,h5,h6,h7,h8⟩:=ht
 obtain ⟨c3,c5,c4⟩:=tabCode_0 hc
 have hr0:=hr
 rw[rowFit_iff] at hr⊢
 have hcl:(cnm t.fCols).length=t.fCols.length:=by simp[cnm]
 unfold tabCh rowCh
 by_cases k3:d.fKind=3
 ·obtain ⟨d1,d2,d3⟩:=ddlOk_3 hd k3
  rw[if_pos k3,if_pos k3]
  refine ⟨by simp[hr.1],fun i hi=> ?_⟩
  simp only[List.length_append,List.length_cons,List.length_nil] at hi
  show stands ((t.fCols++ [col0 d])[i]?.getD dCol) ((r.fVals++ [(col0 d).fDef])[i]?.getD dVal)=true
  rcases Nat.lt_or_ge i t.fCols.length with hlt|hge
  ·rw[List.getElem?_append_left hlt,List.getElem?_append_left (by omega)]
   exact hr.2 i hlt
  ·have e1:i-t.fCols.length=0:=by omega
   rw[List.getElem?_append_right hge,List.getElem?_append_right (by omega),hr.1,e1]
   exact stands_def d2 d3
 rw[if_neg k3,if_neg k3]
 by_cases k4:d.fKind=4
 ·obtain ⟨c41,c42⟩:=c4 k4
  rw[if_pos k4,if_pos k4]
  have hp:=pos_lt c41
  rw[colAt_toNat c41]
  show (r.fVals.eraseIdx _).length=(t.fCols.filter _).length∧_
  rw[filterC_erase h6 c41]
  refine ⟨by rw[List.length_eraseIdx_of_lt (by omega),List.length_eraseIdx_of_lt (by omega),hr.1],fun i hi=> ?_⟩
  have hi2:i<t.fCols.length-1:=by
   have h9:i< (t.fCols.eraseIdx (pos (cnm t.fCols) d.fName)).length:=hi
   rwa [List.length_eraseIdx_of_lt (by omega)] at h9
  show stands ((t.fCols.eraseIdx _)[i]?.getD dCol) ((r.fVals.eraseIdx _)[i]?.getD dVal)=true
  rw[List.getElem?_eraseIdx,List.getElem?_eraseIdx]
  split
  ·exact hr.2 i (by omega)
  ·exact hr.2 (i+1) (by omega)
 rw[if_neg k4,if_neg k4]
 by_cases k5:d.fKind=5
 ·rw[if_pos k5]
  refine ⟨by simp[hr.1],fun i hi=> ?_⟩
  simp only[List.length_map] at hi
  have:=hr.2 i hi
  show stands ((t.fCols.map (renC d.fName d.fTo))[i]?.getD dCol) _=true
  rw[List.getElem?_map,List.getElem?_eq_getElem hi]
  rw[List.getElem?_eq_getElem hi] at this
  simp only[Option.map_some,Option.getD_some] at this⊢
  unfold renC
  split<;>exact this
 ·rw[if_neg k5]
  exact (rowFit_iff t r).1 hr0
theorem rowsCh_ok {t:GTable} {d:GDdl} {l:List GRow} (hd:ddlOk d=true) (hc:tabCode t d=0) (h:rowsOk t l=true):rowsOk (tabCh t d) (l.map (rowCh t d))=true:=by
 rw[rowsOk_iff] at h⊢
 obtain ⟨h1,h2,h3,h4⟩:=h
 refine ⟨tabCh_ok h1 hd hc,by simpa using h2,fun r hr=> ?_, ?_⟩
 ·obtain ⟨r',hr',rfl⟩:=List.mem_map.1 hr
  exact rowCh_fit h1 hd hc (h3 r' hr')
 ·rw[List.pairwise_map]
  refine List.Pairwise.imp_of_mem (fun {a b} ha hb hab=> ?_) h4
  unfold rowLt at hab⊢
  rw[rowCh_key h1 hd hc (h3 a ha),rowCh_key h1 hd hc (h3 b hb)]
  exact hab
end Go.Proofs.YteeolohhmfjafaaGreat
namespace Go.Proofs.YteeolohhmfjafaaGreat
open Go Go.Proofs Go.Sm
attribute [local simp] ti eStr eInt eByte eVal cVal vVal eValS vValS eRow cRow vRow eCol cCol vCol vColS eStrS vStrS eDdl cDdl vDdl cStmt vStmt ePart vPart vPartS eTable cTable vTable vTableS cCat vCat vRowS eRows vRows vRowsS eDb cDb vDb eFol vFol eSnap cSnap vSnap
set_option linter.unusedVariables false
set_option linter.unusedSimpArgs false
set_option maxRecDepth 8000
def valsOk (l:List GVal):Bool:=within l.length 1 8&& !l.any (fun v=> !valOk v)
theorem l04Vals_ok (l:List GVal) (hl:okM l.length):VC Tryz.prog 286 [vValS l] [(false,[(.s,.sc (.bool (valsOk l)))])]:=by
 unfold okM at hl
 refine vc_of_ew good hm [0,2,5,6,7,8,4,13] Tryz.func286 rfl (by kernel_rfl) (by kernel_rfl) rfl ?_
 simp[Tryz.f286]
 refine ew_loop (fun E=> ∃i:Nat,i≤l.length∧anyT (fun v=> !valOk v) l i=false∧E= {nt:=23,sl:= [(0,vValS l),(5,vValS l),(6,int .i64 l.length),(7,int .i64 i)],bx:= [],rt:= []}) (fun E=>l.length- (E.num 7).toNat) _ (Gh.kb _ [0,5,6,7] [] []) ⟨0,by omega,anyT_zero _ _,by simp⟩ ?_
 rintro E1 ⟨i,hi,hall,rfl⟩
 simp
 refine ⟨fun h=>⟨h,.of (valOkS_ok _) ?_⟩,fun h=> ?_⟩
 ·simp
  refine ⟨fun hp=> ?_,fun hp=> .of _ (Gh.kb _ [0,5,6,7] [] []) ⟨i+1,by omega,by rw[anyT_succ _ dVal h,hall,hp];rfl, ?_⟩ ?_⟩
  ·have:l.any (fun v=> !valOk v)=true:=List.any_eq_true.2 ⟨_,getD_mem dVal h,by rw[hp];rfl⟩
   simp only[valsOk,this,Bool.not_true,Bool.and_false]
  ·simp[wrapS (show i<9223372036854775807 by omega)]
  ·simp[wrapS (show i<9223372036854775807 by omega)];omega
 ·have:i=l.length:=by omega
  subst this
  rw[anyT_all] at hall
  simp only[valsOk,hall,within]
  grind
def stmtOk (s:GStmt):Bool:=wordOk s.fTable&& ((decide (s.fKind=1)&& (s.fKey.isEmpty&&valsOk s.fRow.fVals&&noDdl s.fDdl))||(decide (s.fKind=2)&& (valsOk s.fKey&&valsOk s.fRow.fVals&&noDdl s.fDdl))||(decide (s.fKind=3)&& (valsOk s.fKey&&s.fRow.fVals.isEmpty&&noDdl s.fDdl))||(decide (s.fKind=4)&& (s.fKey.isEmpty&&s.fRow.fVals.isEmpty&&noDdl s.fDdl))||(decide (s.fKind=5)&& (s.fKey.isEmpty&&s.fRow.fVals.isEmpty&&ddlOk s.fDdl&&s.fDdl.fTable.toList==s.fTable.toList)))
theorem stmtOkS_ok (s:GStmt) (hs:okStmt s):VC Tryz.prog 183 [vStmt s] [(false,[(.s,.sc (.bool (stmtOk s)))])]:=by
 obtain ⟨_,hn,hk,hr,hd,_⟩:=hs
 refine vc_of_ew good hm [0,1,2,3,4,17,19,20,34,50,63,74] Tryz.func183 rfl (by kernel_rfl) (by kernel_rfl) rfl ?_
 simp[Tryz.f183]
 refine .of (wordOkS_ok _ hn) ?_
 simp[beqI]
 refine ⟨fun h=>by grind[stmtOk],fun hw=>⟨fun k1=> .of (fun h=>⟨h,l04Vals_ok _ hr.1.1⟩) ?_,fun k1=>⟨fun k2=> .of (l04Vals_ok _ hk.1) ?_,fun k2=>⟨fun k3=> .of (l04Vals_ok _ hk.1) ?_,fun k3=>⟨fun k4=> ?_,fun k4=>⟨fun k5=> ?_,fun k5=>by grind[stmtOk]⟩⟩⟩⟩⟩⟩
 ·simp
  refine .of (fun h=>⟨h,l04NoDdl_ok _⟩) ?_
  simp
  grind[stmtOk]
 ·simp
  refine .of (fun h=>⟨h,l04Vals_ok _ hr.1.1⟩) ?_
  simp
  refine .of (fun h=>⟨h,l04NoDdl_ok _⟩) ?_
  simp
  grind[stmtOk]
 ·simp
  refine .of (fun h=>⟨h,l04NoDdl_ok _⟩) ?_
  simp
  grind[stmtOk]
 ·refine .of (fun h=>⟨h,l04NoDdl_ok _⟩) ?_
  simp
  grind[stmtOk]
 ·refine .of (fun h=>⟨h,ddlOkS_ok _ hd⟩) ?_
  simp
  grind[stmtOk]
def noStmt (s:GStmt):Bool:=decide (s.fKind=0)&& (em s.fTable&& (s.fKey.isEmpty&& (s.fRow.fVals.isEmpty&&noDdl s.fDdl)))
def recOk (r:GRec):Bool:=within r.fKind 1 4&& (within r.fXid 1 1000000&& (if r.fKind=2 then stmtOk r.fStmt else noStmt r.fStmt))
end Go.Proofs.YteeolohhmfjafaaGreat
namespace Go.Proofs.YteeolohhmfjafaaGreat
open Go Go.Proofs Go.Sm
attribute [local simp] ti eStr eInt eByte eVal cVal vVal eValS vValS eRow cRow vRow eCol cCol vCol vColS eStrS vStrS eDdl cDdl vDdl cStmt vStmt ePart vPart vPartS eTable cTable vTable vTableS cCat vCat vRowS eRows vRows vRowsS eDb cDb vDb eFol vFol eSnap cSnap vSnap
set_option linter.unusedVariables false
set_option linter.unusedSimpArgs false
set_option maxRecDepth 8000
theorem tabAt_nn (l:List GTable) (s:ByteArray):0≤tabAt l s↔ ∃t∈l,t.fName=s:=by
 have:=idxF_ge (fun t:GTable=>t.fName.toList==s.toList) l
 rw[Bool.eq_iff_iff,decide_eq_true_eq,List.any_eq_true] at this
 simp only[tl_beq] at this
 exact this
theorem tabAt_get {l:List GTable} {s:ByteArray} (h:0≤tabAt l s):(l[(tabAt l s).toNat]?.getD dTable).fName=s:=by
 have h2:l.any (fun t:GTable=>t.fName.toList==s.toList)=true:=by
  have:=idxF_ge (fun t:GTable=>t.fName.toList==s.toList) l
  rw[←this]
  exact decide_eq_true h
 have hlt:l.findIdx (fun t:GTable=>t.fName.toList==s.toList)<l.length:=List.findIdx_lt_length_of_exists (by simpa using h2)
 have e:(tabAt l s).toNat=l.findIdx (fun t:GTable=>t.fName.toList==s.toList):=by
  unfold tabAt idxF
  rw[if_pos h2]
  rfl
 rw[e,List.getElem?_eq_getElem hlt]
 have:=List.findIdx_getElem (w:=hlt) (p:=fun t:GTable=>t.fName.toList==s.toList)
 exact (tl_beq _ _).1 this
def tabPw (l:List GTable):Prop:=l.Pairwise (fun a b=>tabLt a b=true)
theorem tab_once {l:List GTable} (h:tabPw l) {i j:Nat} (hi:i<l.length) (hj:j<l.length) (e:(l[i]?.getD dTable).fName=(l[j]?.getD dTable).fName):i=j:=by
 rw[List.getElem?_eq_getElem hi,List.getElem?_eq_getElem hj] at e
 simp only[Option.getD_some] at e
 have h2:=List.pairwise_iff_getElem.1 h
 rcases Nat.lt_trichotomy i j with hlt|he|hgt
 ·have:=h2 i j hi hj hlt
  rw[tabLt,e,bl_irrefl] at this
  cases this
 ·exact he
 ·have:=h2 j i hj hi hgt
  rw[tabLt,e,bl_irrefl] at this
  cases this
theorem tabAt_at {l:List GTable} (h:tabPw l) {i:Nat} (hi:i<l.length):tabAt l (l[i]?.getD dTable).fName=i:=by
 have h1:0≤tabAt l (l[i]?.getD dTable).fName:=(tabAt_nn l _).2 ⟨_,getD_mem dTable hi,rfl⟩
 have hb:=tabAt_bd l (l[i]?.getD dTable).fName
 have:=tab_once h (i:=(tabAt l (l[i]?.getD dTable).fName).toNat) (by omega) hi (tabAt_get h1)
 omega
theorem tabLt_total {a b:GTable} (h:a.fName≠b.fName):tabLt a b=true∨tabLt b a=true:=bl_total _ _ fun e=>h (tl_inj e)
theorem tabLt_asymm {a b:GTable} (h:tabLt a b=true):tabLt b a=false:=bl_asymm h
theorem names_pw (l:List GTable):tabPw l↔ (l.map (·.fName)).Pairwise (fun a b=>Op.bytesLess a.toList b.toList=true):=by
 rw[List.pairwise_map]
 rfl
theorem names_set {l:List GTable} {k:Nat} {y:GTable} (h:y.fName=(l[k]?.getD dTable).fName):(l.set k y).map (·.fName)=l.map (·.fName):=by
 rw[List.map_set,h]
 rcases Nat.lt_or_ge k l.length with hlt|hge
 ·rw[List.getElem?_eq_getElem hlt]
  apply List.ext_getElem
  ·simp
  ·intro i h1 h2
   rw[List.getElem_set]
   split
   ·rename_i e;subst e;simp
   ·rfl
 ·rw[List.set_eq_of_length_le (by simpa using hge)]
theorem ddlCode_0 {c:GCat} {d:GDdl} (h:ddlCode c d=0):(d.fKind=1→(∀t∈c.fTables,t.fName≠d.fTable)∧c.fTables.length≠6)∧(d.fKind≠1→0≤tabAt c.fTables d.fTable∧tabCode (tabOf c d.fTable) d=0):=by
 unfold ddlCode at h
 split at h
 ·rename_i k
  split at h
  ·cases h
  rename_i h1
  split at h
  ·cases h
  rename_i h2
  exact ⟨fun _=>⟨fun t ht e=>h1 ((tabAt_nn _ _).2 ⟨t,ht,e⟩),h2⟩,fun k2=>absurd k k2⟩
 ·rename_i k
  split at h
  ·cases h
  rename_i h1
  exact ⟨fun k2=>absurd k2 k,fun _=>⟨by omega,h⟩⟩
theorem catCh_ok {c:GCat} {d:GDdl} (hc:catOk c=true) (hd:ddlOk d=true) (h0:ddlCode c d=0):catOk (catCh c d)=true:=by
 obtain ⟨z1,z2⟩:=ddlCode_0 h0
 rw[catOk_iff] at hc⊢
 obtain ⟨h1,h2,h3⟩:=hc
 unfold catCh
 by_cases k1:d.fKind=1
 ·obtain ⟨z3,z4⟩:=z1 k1
  rw[if_pos k1]
  refine ⟨fun t ht=> ?_, ?_, ?_⟩
  ·rcases insW_mem.1 ht with rfl|ht
   ·exact ddlOk_1 hd k1
   ·exact h1 t ht
  ·show (insW _ _ _).length≤6
   rw[insW_len];omega
  ·exact insW_pw (R:=tabLt) (fun a b c=>bl_trans _ _ _) _ h3 (fun y hy=>tabLt_total (b:=madeT d) (z3 y hy))
 rw[if_neg k1]
 obtain ⟨z3,z4⟩:=z2 k1
 have hb:=tabAt_bd c.fTables d.fTable
 by_cases k2:d.fKind=2
 ·rw[if_pos k2]
  have hs:=List.eraseIdx_sublist (l:=c.fTables) (k:=(tabAt c.fTables d.fTable).toNat)
  exact ⟨fun t ht=>h1 t (hs.subset ht),by have:=hs.length_le;exact Nat.le_trans this h2,h3.sublist hs⟩
 ·rw[if_neg k2]
  have hm:tabOf c d.fTable∈c.fTables:=getD_mem dTable (by omega)
  refine ⟨fun t ht=> ?_,by simpa using h2, ?_⟩
  ·rcases List.mem_or_eq_of_mem_set ht with ht|rfl
   ·exact h1 t ht
   ·exact tabCh_ok (h1 _ hm) hd z4
  ·show tabPw (c.fTables.set (tabAt c.fTables d.fTable).toNat (tabCh (tabOf c d.fTable) d))
   rw[names_pw,names_set (k:=(tabAt c.fTables d.fTable).toNat) (y:=tabCh (tabOf c d.fTable) d) (tabCh_name _ _),←names_pw]
   exact h3
theorem ddlApply_ok {c:GCat} {d:GDdl} (h:(ddlApply c d).2=0):catOk c=true∧ddlOk d=true∧ddlCode c d=0∧ddlApply c d=(catCh c d,0):=by
 unfold ddlApply at h⊢
 split at h
 ·cases h
 rename_i h1
 split at h
 ·rename_i h2;exact absurd h h2
 rename_i h2
 rw[if_neg h1,if_neg h2]
 simp only[not_or,Bool.not_eq_false] at h1
 exact ⟨h1.1,h1.2,by omega,rfl⟩
def insAt {α:Type} (l:List α) (n:Nat) (x:α):List α:=l.take n++x::l.drop n
def rowsDdl (t:GTable) (l:List GRow) (d:GDdl):List GRow×Int:=
 if rowsOk t l=false∨ddlOk d=false∨(d.fTable.toList==t.fName.toList)=false∨d.fKind=1 then ([],1) else if ddlCode ⟨[t]⟩ d≠0 then ([],ddlCode ⟨[t]⟩ d) else (if d.fKind=2 then [] else l.map (rowCh t d),0)
def dataOf (d:GDb) (k:Nat):List GRow:=(d.fData[k]?.getD dRows).fRows
def dbIx (d:GDb) (s:ByteArray):Nat:=(tabAt d.fCat.fTables s).toNat
def dataCh (d:GDb) (x:GDdl):List GRows:=
 if x.fKind=1 then insAt d.fData (tabAt (catCh d.fCat x).fTables x.fTable).toNat ⟨[]⟩ else if x.fKind=2 then d.fData.eraseIdx (dbIx d x.fTable) else
 d.fData.set (dbIx d x.fTable) ⟨(rowsDdl (tabOf d.fCat x.fTable) (dataOf d (dbIx d x.fTable)) x).1⟩
def dbCh (d:GDb) (x:GDdl):GDb×Int:=
 if (ddlApply d.fCat x).2≠0 then (dDb,(ddlApply d.fCat x).2) else (⟨catCh d.fCat x,dataCh d x⟩,0)
def stRows (t:GTable) (l:List GRow) (s:GStmt):List GRow×Int:=
 if s.fKind=1 then rowPut t l s.fRow else if s.fKind=2 then rowSet t l s.fKey s.fRow else if s.fKind=3 then rowOut t l s.fKey else ([],0)
def dbExec (d:GDb) (s:GStmt):GDb×Int:=
 if tabAt d.fCat.fTables s.fTable<0∧ ¬(s.fKind=5∧s.fDdl.fKind=1) then (dDb,4) else
 if s.fKind=5 then (if (dbCh d s.fDdl).2≠0 then (dDb,10+(dbCh d s.fDdl).2) else dbCh d s.fDdl) else
 if (stRows (tabOf d.fCat s.fTable) (dataOf d (dbIx d s.fTable)) s).2≠0 then (dDb,10+(stRows (tabOf d.fCat s.fTable) (dataOf d (dbIx d s.fTable)) s).2) else
 (⟨d.fCat,d.fData.set (dbIx d s.fTable) ⟨(stRows (tabOf d.fCat s.fTable) (dataOf d (dbIx d s.fTable)) s).1⟩⟩,0)
theorem insW_tab {c:GCat} {d:GDdl} (hc:catOk c=true) (hd:ddlOk d=true) (k1:d.fKind=1) (h0:ddlCode c d=0):(tabAt (catCh c d).fTables d.fTable).toNat=(c.fTables.takeWhile (fun y=>tabLt y (madeT d))).length:=by
 have hok:=catCh_ok hc hd h0
 rw[catOk_iff] at hok
 have e:(catCh c d).fTables=insW (fun y=>tabLt y (madeT d)) (madeT d) c.fTables:=by unfold catCh;rw[if_pos k1]
 have hl:=takeW_len (fun y=>tabLt y (madeT d)) c.fTables
 have h1:(c.fTables.takeWhile (fun y=>tabLt y (madeT d))).length< (catCh c d).fTables.length:=by rw[e,insW_len];omega
 have h2:=tabAt_at hok.2.2 h1
 have h3:(catCh c d).fTables[(c.fTables.takeWhile (fun y=>tabLt y (madeT d))).length]? =some (madeT d):=by
  rw[e]
  unfold insW
  rw[List.getElem?_append_right (Nat.le_refl _)]
  simp
 rw[h3] at h2
 show (tabAt (catCh c d).fTables (madeT d).fName).toNat=_
 rw[show (madeT d).fName=((some (madeT d)).getD dTable).fName from rfl,h2]
 rfl
theorem rowsOk_nil {t:GTable} (h:tableOk t=true):rowsOk t []=true:=(rowsOk_iff t []).2 ⟨h,by simp,by simp,by simp⟩
theorem ddlCode_one {t:GTable} {d:GDdl} (k:d.fKind≠1) (hn:d.fTable=t.fName):ddlCode ⟨[t]⟩ d=tabCode t d:=by
 have h1:tabAt [t] d.fTable=0:=by
  rw[hn]
  exact tabAt_at (l:= [t]) (by simp[tabPw]) (i:=0) (by simp)
 unfold ddlCode tabOf
 rw[if_neg k]
 simp only[h1]
 rfl
theorem rowsDdl_ok {t:GTable} {l:List GRow} {d:GDdl} (hr:rowsOk t l=true) (hd:ddlOk d=true) (hn:d.fTable=t.fName) (k1:d.fKind≠1) (k2:d.fKind≠2) (hc:tabCode t d=0):rowsDdl t l d=(l.map (rowCh t d),0):=by
 unfold rowsDdl
 rw[if_neg (by simp[hr,hd,hn,k1]),ddlCode_one k1 hn,hc]
 simp[k2]
theorem dbCh_ok {d:GDb} {x:GDdl} (hd:dbOk d=true) (h:(dbCh d x).2=0):dbOk (dbCh d x).1=true:=by
 unfold dbCh at h⊢
 split at h
 ·rename_i h1;exact absurd h h1
 rename_i h1
 rw[if_neg h1]
 obtain ⟨h2,h3,h4,h5⟩:=ddlApply_ok (c:=d.fCat) (d:=x) (by omega)
 rw[dbOk_iff] at hd
 obtain ⟨g1,g2,g3⟩:=hd
 have g1':=(catOk_iff _).1 g1
 have hok:=catCh_ok h2 h3 h4
 obtain ⟨z1,z2⟩:=ddlCode_0 h4
 rw[dbOk_iff]
 refine ⟨hok, ?_⟩
 show (dataCh d x).length=_∧ ∀i,i< (catCh d.fCat x).fTables.length→rowsOk ((catCh d.fCat x).fTables[i]?.getD dTable) ((dataCh d x)[i]?.getD dRows).fRows=true
 unfold dataCh
 by_cases k1:x.fKind=1
 ·rw[if_pos k1,insW_tab h2 h3 k1 h4]
  have e:(catCh d.fCat x).fTables=insAt d.fCat.fTables (d.fCat.fTables.takeWhile (fun y=>tabLt y (madeT x))).length (madeT x):=by unfold catCh;rw[if_pos k1];exact insW_at _ _ _
  rw[e]
  have hl:=takeW_len (fun y=>tabLt y (madeT x)) d.fCat.fTables
  generalize (d.fCat.fTables.takeWhile (fun y=>tabLt y (madeT x))).length=n at hl⊢
  unfold insAt
  refine ⟨by simp;omega,fun i hi=> ?_⟩
  simp only[List.length_append,List.length_take,List.length_cons,List.length_drop] at hi
  rcases Nat.lt_trichotomy i n with hlt|he|hgt
  ·rw[List.getElem?_append_left (by simp;omega),List.getElem?_append_left (by simp;omega),List.getElem?_take_of_lt hlt,List.getElem?_take_of_lt hlt]
   exact g3 i (by omega)
  ·subst he
   rw[List.getElem?_append_right (by simp;omega),List.getElem?_append_right (by simp;omega)]
   simp only[List.length_take]
   rw[show i-min i d.fCat.fTables.length=0 by omega,show i-min i d.fData.length=0 by omega]
   exact rowsOk_nil (ddlOk_1 h3 k1)
  ·rw[List.getElem?_append_right (by simp;omega),List.getElem?_append_right (by simp;omega)]
   simp only[List.length_take]
   rw[show i-min n d.fCat.fTables.length=(i-n-1)+1 by omega,show i-min n d.fData.length=(i-n-1)+1 by omega,List.getElem?_cons_succ,List.getElem?_cons_succ,List.getElem?_drop,List.getElem?_drop,show n+(i-n-1)=i-1 by omega]
   exact g3 (i-1) (by omega)
 rw[if_neg k1]
 obtain ⟨z3,z4⟩:=z2 k1
 have hb:=tabAt_bd d.fCat.fTables x.fTable
 have hix:dbIx d x.fTable<d.fCat.fTables.length:=by unfold dbIx;omega
 by_cases k2:x.fKind=2
 ·rw[if_pos k2]
  have e:(catCh d.fCat x).fTables=d.fCat.fTables.eraseIdx (dbIx d x.fTable):=by unfold catCh;rw[if_neg k1,if_pos k2];rfl
  rw[e]
  refine ⟨by rw[List.length_eraseIdx_of_lt (by omega),List.length_eraseIdx_of_lt hix,g2],fun i hi=> ?_⟩
  rw[List.length_eraseIdx_of_lt hix] at hi
  rw[List.getElem?_eraseIdx,List.getElem?_eraseIdx]
  split
  ·exact g3 i (by omega)
  ·exact g3 (i+1) (by omega)
 ·rw[if_neg k2]
  have e:(catCh d.fCat x).fTables=d.fCat.fTables.set (dbIx d x.fTable) (tabCh (tabOf d.fCat x.fTable) x):=by unfold catCh;rw[if_neg k1,if_neg k2];rfl
  have hg:=g3 _ hix
  have hnm:(tabOf d.fCat x.fTable).fName=x.fTable:=tabAt_get z3
  have hrd:=rowsDdl_ok (t:=tabOf d.fCat x.fTable) (l:=dataOf d (dbIx d x.fTable)) hg h3 hnm.symm k1 k2 z4
  rw[e,hrd]
  refine ⟨by simp[g2],fun i hi=> ?_⟩
  simp only[List.length_set] at hi
  rw[List.getElem?_set,List.getElem?_set]
  by_cases hi2:dbIx d x.fTable=i
  ·subst hi2
   rw[if_pos rfl,if_pos rfl,if_pos hix,if_pos (by omega)]
   exact rowsCh_ok h3 z4 hg
  ·rw[if_neg hi2,if_neg hi2]
   exact g3 i hi
theorem stRows_ok {t:GTable} {l:List GRow} {s:GStmt} (ht:tableOk t=true) (h:(stRows t l s).2=0):rowsOk t (stRows t l s).1=true:=by
 unfold stRows at h⊢
 split at h
 ·rename_i k;rw[if_pos k];exact rowPut_ok h
 rename_i k
 rw[if_neg k]
 split at h
 ·rename_i k;rw[if_pos k];exact rowSet_ok h
 rename_i k
 rw[if_neg k]
 split at h
 ·rename_i k;rw[if_pos k];exact rowOut_ok h
 rename_i k
 rw[if_neg k]
 exact rowsOk_nil ht
theorem dbExec_ok {d:GDb} {s:GStmt} (hd:dbOk d=true) (h:(dbExec d s).2=0):dbOk (dbExec d s).1=true:=by
 unfold dbExec at h⊢
 split at h
 ·cases h
 rename_i h1
 rw[if_neg h1]
 split at h
 ·rename_i k
  rw[if_pos k]
  split at h
  ·rename_i h2
   have hn:0≤(dbCh d s.fDdl).2:=by
    unfold dbCh
    split
    ·show 0≤(ddlApply d.fCat s.fDdl).2
     unfold ddlApply
     split
     ·exact (by decide:(0:Int)≤1)
     split
     ·show 0≤ddlCode _ _
      unfold ddlCode tabCode
      grind
     ·exact Int.le_refl 0
    ·exact Int.le_refl 0
   simp only at h
   omega
  rename_i h2
  rw[if_neg h2]
  exact dbCh_ok hd (by omega)
 rename_i k
 rw[if_neg k]
 split at h
 ·rename_i h2
  have hn:0≤(stRows (tabOf d.fCat s.fTable) (dataOf d (dbIx d s.fTable)) s).2:=by
   unfold stRows rowPut rowSet rowOut
   grind
  simp only at h
  omega
 rename_i h2
 rw[if_neg h2]
 have h3:(stRows (tabOf d.fCat s.fTable) (dataOf d (dbIx d s.fTable)) s).2=0:=by omega
 rw[dbOk_iff] at hd⊢
 obtain ⟨g1,g2,g3⟩:=hd
 have hb:=tabAt_bd d.fCat.fTables s.fTable
 have hix:dbIx d s.fTable<d.fCat.fTables.length:=by
  have:0≤tabAt d.fCat.fTables s.fTable:=by
   by_cases hx:0≤tabAt d.fCat.fTables s.fTable
   ·exact hx
   ·exact absurd ⟨by omega,fun hk=>k hk.1⟩ h1
  unfold dbIx;omega
 refine ⟨g1,by simpa using g2,fun i hi=> ?_⟩
 show rowsOk (d.fCat.fTables[i]?.getD dTable) ((d.fData.set (dbIx d s.fTable) _)[i]?.getD dRows).fRows=true
 rw[List.getElem?_set]
 by_cases hi2:dbIx d s.fTable=i
 ·subst hi2
  rw[if_pos rfl,if_pos (by omega)]
  exact stRows_ok ((catOk_iff _).1 g1|>.1 _ (getD_mem dTable hi)) h3
 ·rw[if_neg hi2]
  exact g3 i hi
def execL:GDb→List GStmt→Nat→GDb×Int×Int
 |d,[],_=>(d,0,0)
 |d,s::l,i=>if stmtOk s=false then (dDb,1,(i:Int)) else if (dbExec d s).2≠0 then (dDb,(dbExec d s).2,(i:Int)) else execL (dbExec d s).1 l (i+1)
def execAll (d:GDb) (l:List GStmt):GDb×Int×Int:=if dbOk d=false then (dDb,1,0) else execL d l 0
end Go.Proofs.YteeolohhmfjafaaGreat
namespace Go.Proofs.YteeolohhmfjafaaGreat
open Go Go.Proofs Go.Sm
attribute [local simp] ti eStr eInt eByte eVal cVal vVal eValS vValS eRow cRow vRow eCol cCol vCol vColS eStrS vStrS eDdl cDdl vDdl cStmt vStmt ePart vPart vPartS eTable cTable vTable vTableS cCat vCat vRowS eRows vRows vRowsS eDb cDb vDb eFol vFol eSnap cSnap vSnap
set_option linter.unusedVariables false
set_option linter.unusedSimpArgs false
set_option maxRecDepth 8000
theorem copyVals_ok (l:List GVal) (hl:l.length≤1048576):VC Tryz.prog 194 [vValS l] [(false,mValS l)]:=by
 refine vc_of_ew good hm [0,2] Tryz.func194 rfl (by kernel_rfl) (by kernel_rfl) rfl ?_
 simp[Tryz.f194,mValS]
 omega
def bdDdl (d:GDdl):Prop:=d.fCols.length≤1048576∧d.fKeys.length≤1048576
def bdStmt (s:GStmt):Prop:=s.fKey.length≤1048576∧s.fRow.fVals.length≤1048576∧bdDdl s.fDdl
theorem copyDdl_ok (d:GDdl) (h:bdDdl d):VC Tryz.prog 195 [vDdl d] [(true,mDdl d)]:=by
 refine vc_of_ew good hm [0,1,2] Tryz.func195 rfl (by kernel_rfl) (by kernel_rfl) rfl ?_
 simp[Tryz.f195,mDdl]
 refine ⟨by have:=h.1;omega,.of (copyTexts_ok _ h.2) ?_⟩
 simp[mStrS]
theorem l03Row_ok (r:GRow) (h:r.fVals.length≤1048576):VC Tryz.prog 181 [vRow r] [(true,mRow r)]:=by
 refine vc_of_ew good hm [0,1,2] Tryz.func181 rfl (by kernel_rfl) (by kernel_rfl) rfl ?_
 simp[Tryz.f181,mRow]
 omega
theorem copyStmt_ok (s:GStmt) (h:bdStmt s):VC Tryz.prog 93 [vStmt s] [(true,mStmt s)]:=by
 refine vc_of_ew good hm [0,1,2] Tryz.func93 rfl (by kernel_rfl) (by kernel_rfl) rfl ?_
 simp[Tryz.f93,mStmt]
 refine .of (copyVals_ok _ h.1) ?_
 simp[mValS]
 refine .of (copyVals_ok _ h.2.1) ?_
 simp[mValS]
 refine .of (copyDdl_ok s.fDdl h.2.2) ?_
 simp[mDdl]
theorem l07Stmt_ok (s:GStmt) (h:bdStmt s):VC Tryz.prog 86 [vStmt s] [(true,mStmt s)]:=by
 obtain ⟨h1,h2,h3,h4⟩:=h
 refine vc_of_ew good hm [0,1,2] Tryz.func86 rfl (by kernel_rfl) (by kernel_rfl) rfl ?_
 simp[Tryz.f86,mStmt]
 refine ⟨by omega,.of (l03Row_ok s.fRow h2) ?_⟩
 simp[mRow]
 omega
def recTx (x:Int) (r:GRec):Bool:=decide (r.fKind=2)&&decide (r.fXid=x)
def stmtsOf (l:List GRec) (x:Int):List GStmt:=(l.filter (recTx x)).map (·.fStmt)
end Go.Proofs.YteeolohhmfjafaaGreat
namespace Go.Proofs.YteeolohhmfjafaaGreat
open Go Go.Proofs Go.Sm
attribute [local simp] ti eStr eInt eByte eVal cVal vVal eValS vValS eRow cRow vRow eCol cCol vCol vColS eStrS vStrS eDdl cDdl vDdl cStmt vStmt ePart vPart vPartS eTable cTable vTable vTableS cCat vCat vRowS eRows vRows vRowsS eDb cDb vDb eFol vFol eSnap cSnap vSnap
set_option linter.unusedVariables false
set_option linter.unusedSimpArgs false
set_option maxRecDepth 8000
theorem em_size {s:ByteArray} (h:em s=true):s.size=0:=by
 unfold em at h
 rw[List.isEmpty_iff,Lib.toList_data] at h
 have:=congrArg List.length h
 simpa using this
theorem wordOk_size {s:ByteArray} (h:wordOk s=true):s.size≤8:=by
 simp only[wordOk,within,Bool.and_eq_true,decide_eq_true_eq] at h
 omega
theorem valOk_ok {v:GVal} (h:valOk v=true):okVal v∧v.fS.size≤30:=by
 simp only[valOk,within,Bool.and_eq_true,Bool.or_eq_true,decide_eq_true_eq] at h
 have hs:v.fS.size≤30:=by
  rcases h with ((⟨_,_,h⟩|⟨_,_,h⟩)|⟨_,_,h⟩)|⟨_,_,h⟩
  ·have:=em_size h;omega
  ·have:=em_size h;omega
  ·have:=em_size h;omega
  ·omega
 refine ⟨⟨?_, ?_, ?_,trivial⟩,hs⟩
 ·unfold okI;omega
 ·unfold okI;omega
 ·unfold okM;omega
theorem nullV_ok {v:GVal} (h:nullV v=true):valOk v=true:=by
 simp only[nullV,Bool.and_eq_true,decide_eq_true_eq] at h
 simp[valOk,h.1,h.2.1,h.2.2]
theorem colOk_ok {c:GCol} (h:colOk c=true):okCol c:=by
 simp only[colOk,within,Bool.and_eq_true,decide_eq_true_eq] at h
 obtain ⟨⟨h1,h2⟩,h3⟩:=h
 have hw:=wordOk_size h1
 have hv:valOk c.fDef=true:=by
  split at h3
  ·simp only[Bool.and_eq_true] at h3
   exact h3.1
  ·exact nullV_ok h3
 exact ⟨by unfold okM;omega,by unfold okI;omega,(valOk_ok hv).1,trivial⟩
theorem tableOk_ok {t:GTable} (h:tableOk t=true):okTable t∧bdTable t:=by
 have h0:=(tableOk_iff t).1 h
 obtain ⟨h1,h2,h3,h4,h5,h6,h7,h8⟩:=h0
 have hkl:=h7.length_le
 simp only[cnm,List.length_map] at hkl
 have hw:=wordOk_size h1
 refine ⟨⟨by unfold okM;omega,⟨by unfold okM;omega,fun c hc=>colOk_ok (h5 c hc)⟩,⟨by unfold okM;omega,fun k hk=> ?_⟩,trivial⟩,by omega,by omega⟩
 obtain ⟨c,hc,rfl⟩:=List.mem_map.1 (h7.subset hk)
 exact (colOk_ok (h5 c hc)).1
theorem rowFit_ok {t:GTable} {r:GRow} (ht:tableOk t=true) (h:rowFit t r=true):okRow r∧r.fVals.length≤8:=by
 have h1:=((rowFit_iff t r).1 h).1
 have h2:=((tableOk_iff t).1 ht).2.2.1
 exact ⟨⟨⟨by unfold okM;omega,fun v hv=>(valOk_ok (rowFit_vals h v hv)).1⟩,trivial⟩,by omega⟩
theorem rowsOk_ok {t:GTable} {l:List GRow} (h:rowsOk t l=true):okRowS l∧l.length≤60∧ ∀r∈l,r.fVals.length≤8:=by
 rw[rowsOk_iff] at h
 obtain ⟨h1,h2,h3,_⟩:=h
 exact ⟨⟨by unfold okM;omega,fun r hr=>(rowFit_ok h1 (h3 r hr)).1⟩,h2,fun r hr=>(rowFit_ok h1 (h3 r hr)).2⟩
theorem catOk_ok {c:GCat} (h:catOk c=true):okCat c∧c.fTables.length≤6∧ ∀t∈c.fTables,tableOk t=true∧bdTable t:=by
 rw[catOk_iff] at h
 exact ⟨⟨⟨by unfold okM;omega,fun t ht=>(tableOk_ok (h.1 t ht)).1⟩,trivial⟩,h.2.1,fun t ht=>⟨h.1 t ht,(tableOk_ok (h.1 t ht)).2⟩⟩
theorem dbOk_rows {d:GDb} (h:dbOk d=true): ∀r∈d.fData,∃t∈d.fCat.fTables,rowsOk t r.fRows=true:=by
 rw[dbOk_iff] at h
 intro r hr
 obtain ⟨i,hi,rfl⟩:=List.getElem_of_mem hr
 have:=h.2.2 i (by omega)
 rw[List.getElem?_eq_getElem hi] at this
 exact ⟨_,getD_mem dTable (by omega),this⟩
theorem dbOk_cat {d:GDb} (h:dbOk d=true):catOk d.fCat=true:=((dbOk_iff d).1 h).1
theorem dbOk_len {d:GDb} (h:dbOk d=true):d.fData.length=d.fCat.fTables.length:=((dbOk_iff d).1 h).2.1
theorem dbOk_ok {d:GDb} (h:dbOk d=true):okDb d:=by
 have h1:=(catOk_ok (dbOk_cat h))
 have h2:=dbOk_len h
 refine ⟨h1.1,⟨by unfold okM;omega,fun r hr=> ?_⟩,trivial⟩
 obtain ⟨t,_,h3⟩:=dbOk_rows h r hr
 exact ⟨(rowsOk_ok h3).1,trivial⟩
theorem dbOk_key {d:GDb} (h:dbOk d=true): ∀t∈d.fCat.fTables,t.fKeys.length≤1048576:=fun t ht=>((catOk_ok (dbOk_cat h)).2.2 t ht).2.2
theorem dbOk_tab {d:GDb} (h:dbOk d=true): ∀t∈d.fCat.fTables,tableOk t=true:=fun t ht=>((catOk_ok (dbOk_cat h)).2.2 t ht).1
theorem ddlOk_ok {d:GDdl} (h:ddlOk d=true):okDdl d∧d.fCols.length≤8∧d.fKeys.length≤8:=by
 have hw:=wordOk_size (ddlOk_wd h)
 have hk:=ddlOk_kind h
 have h0:=h
 simp only[ddlOk,addOk,plain,Bool.and_eq_true,Bool.or_eq_true,decide_eq_true_eq,List.isEmpty_iff] at h0
 have hnm:d.fName.size≤8:=by
  rcases h0.2 with (((⟨_,_,a,_⟩|⟨_,_,a,_⟩)|⟨_,_,_,a,_⟩)|⟨_,_,a,_⟩)|⟨_,_,a,_⟩
  ·have:=em_size a;omega
  ·have:=em_size a;omega
  ·have:=em_size a;omega
  ·exact wordOk_size a
  ·exact wordOk_size a
 have hto:d.fTo.size≤8:=by
  rcases h0.2 with (((⟨_,_,_,a⟩|⟨_,_,_,a⟩)|⟨_,_,_,_,a⟩)|⟨_,_,_,a⟩)|⟨_,_,_,a⟩
  ·have:=em_size a;omega
  ·have:=em_size a;omega
  ·have:=em_size a;omega
  ·have:=em_size a;omega
  ·exact wordOk_size a
 have hck:okColS d.fCols∧okStrS d.fKeys∧d.fCols.length≤8∧d.fKeys.length≤8:=by
  by_cases k1:d.fKind=1
  ·have h1:=ddlOk_1 h k1
   have h2:=(tableOk_ok h1).1
   have h3:=(tableOk_iff _).1 h1
   have h4:=h3.2.2.2.2.2.2.1.length_le
   simp only[cnm,List.length_map] at h4
   exact ⟨h2.2.1,h2.2.2.1,h3.2.2.1,Nat.le_trans h4 h3.2.2.1⟩
  ·by_cases k3:d.fKind=3
   ·obtain ⟨h1,h2,_⟩:=ddlOk_3 h k3
    have h3:d.fKeys= []:=by grind
    rw[h3]
    refine ⟨⟨by unfold okM;omega,fun c hc=> ?_⟩,⟨by simp[okM],by simp⟩,by omega,by simp⟩
    obtain ⟨i,hi,rfl⟩:=List.getElem_of_mem hc
    have:i=0:=by omega
    subst this
    have:=colOk_ok h2
    unfold col0 at this
    rwa [List.getElem?_eq_getElem hi] at this
   ·have h3:d.fCols= []∧d.fKeys= []:=by grind
    rw[h3.1,h3.2]
    exact ⟨⟨by simp[okM],by simp⟩,⟨by simp[okM],by simp⟩,by simp,by simp⟩
 exact ⟨⟨by unfold okI;omega,by unfold okM;omega,hck.1,hck.2.1,by unfold okM;omega,by unfold okM;omega,trivial⟩,hck.2.2.1,hck.2.2.2⟩
theorem noDdl_ok {d:GDdl} (h:noDdl d=true):okDdl d∧d.fCols.length≤8∧d.fKeys.length≤8:=by
 simp only[noDdl,Bool.and_eq_true,decide_eq_true_eq,List.isEmpty_iff] at h
 obtain ⟨h1,h2,h3,h4,h5,h6⟩:=h
 rw[h3,h4]
 exact ⟨⟨by unfold okI;omega,by have:=em_size h2;unfold okM;omega,⟨by simp[h3,okM],by simp[h3]⟩,⟨by simp[h4,okM],by simp[h4]⟩,by have:=em_size h5;unfold okM;omega,by have:=em_size h6;unfold okM;omega,trivial⟩,by simp,by simp⟩
theorem valsOk_ok {l:List GVal} (h:valsOk l=true):okValS l∧l.length≤8:=by
 simp only[valsOk,within,Bool.and_eq_true,decide_eq_true_eq,Bool.not_eq_true',List.any_eq_false] at h
 refine ⟨⟨by unfold okM;omega,fun v hv=>(valOk_ok (by simpa using h.2 v hv)).1⟩,by omega⟩
theorem nilVals_ok {l:List GVal} (h:l= []):okValS l∧l.length≤8:=by
 subst h
 exact ⟨⟨by simp[okM],by simp⟩,by simp⟩
theorem stmtOk_ok {s:GStmt} (h:stmtOk s=true):okStmt s∧s.fTable.size≤8∧s.fKey.length≤8∧s.fRow.fVals.length≤8∧s.fDdl.fCols.length≤8∧s.fDdl.fKeys.length≤8:=by
 simp only[stmtOk,Bool.and_eq_true,Bool.or_eq_true,decide_eq_true_eq,List.isEmpty_iff] at h
 obtain ⟨h0,h⟩:=h
 have hw:=wordOk_size h0
 have hk:okI s.fKind:=by unfold okI;omega
 have fin:(okValS s.fKey∧s.fKey.length≤8)→(okValS s.fRow.fVals∧s.fRow.fVals.length≤8)→(okDdl s.fDdl∧s.fDdl.fCols.length≤8∧s.fDdl.fKeys.length≤8)→okStmt s∧s.fTable.size≤8∧s.fKey.length≤8∧s.fRow.fVals.length≤8∧s.fDdl.fCols.length≤8∧s.fDdl.fKeys.length≤8:=fun a b c=>
  ⟨⟨hk,by unfold okM;omega,a.1,⟨b.1,trivial⟩,c.1,trivial⟩,hw,a.2,b.2,c.2.1,c.2.2⟩
 rcases h with (((⟨k,⟨a,b⟩,c⟩|⟨k,⟨a,b⟩,c⟩)|⟨k,⟨a,b⟩,c⟩)|⟨k,⟨a,b⟩,c⟩)|⟨k,⟨⟨a,b⟩,c⟩,e⟩
 ·exact fin (nilVals_ok a) (valsOk_ok b) (noDdl_ok c)
 ·exact fin (valsOk_ok a) (valsOk_ok b) (noDdl_ok c)
 ·exact fin (valsOk_ok a) (nilVals_ok b) (noDdl_ok c)
 ·exact fin (nilVals_ok a) (nilVals_ok b) (noDdl_ok c)
 ·exact fin (nilVals_ok a) (nilVals_ok b) (ddlOk_ok c)
end Go.Proofs.YteeolohhmfjafaaGreat
