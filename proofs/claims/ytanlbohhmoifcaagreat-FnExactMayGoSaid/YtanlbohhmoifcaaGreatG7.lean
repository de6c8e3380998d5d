import Derived.Test.YtanlbohhmoifcaaGreatG6
import Derived.Test.YtanlbohhmoifcaaGreatG4
import Derived.Test.YtanlbohhmoifcaaGreatG5
set_option maxHeartbeats 8000000
set_option maxRecDepth 8000
namespace Go.Proofs.YtanlbohhmoifcaaGreat
open Go Go.Proofs Go.Sm
attribute [local simp] ti eStr eInt eByte eVal vVal eCol vCol vColS vStrS eTable cTable vTable vTableS cCat vCat eValS vValS eRow cRow vRow vRowS eRows vRowsS cDb vDb eDdl cDdl vDdl eStmt cStmt vStmt eRec vRec eSlot vSlot eRecS vRecS eSlotS vSlotS vStmtS
set_option linter.unusedVariables false
set_option linter.unusedSimpArgs false
theorem copyCat_ok (c:GCat) (hl:c.fTables.length≤1048576) (hb: ∀t∈c.fTables,bdTable t):VC Tryz.prog 143 [vCat c] [(true,mCat c)]:=by
 refine vc_of_ew good hm [0,1,2,3,8,9,10,11,5] Tryz.func143 rfl (by kernel_rfl) (by kernel_rfl) rfl ?_
 simp[Tryz.f143,mCat]
 refine ew_loop (fun E=> ∃i:Nat,i≤c.fTables.length∧E= {nt:=23,sl:= [(2,.p (.bx 2 0)),(3,.p (.bx 3 0)),(8,vTableS c.fTables),(9,int .i64 c.fTables.length),(10,int .i64 i)],bx:= [(2,[.n [.sc (.string ⟨#[]⟩),.ls [.sc (.string ⟨#[]⟩),.sc (.int .i64 0),.sc (.bool false),.sc (.bool false),.sc (.int .i64 0),.sc (.int .i64 0),.sc (.string ⟨#[]⟩)] [],.ls [.sc (.string ⟨#[]⟩)] []]]),(3,[.r [990]])],rt:=(mTableS (c.fTables.take i)).map fun y=>(990,y)}) (fun E=>c.fTables.length- (E.num 10).toNat) _ ((Gh.nlB _ 3 0 990 202 (fun _=> [.s,.o 154 (fun _=> [.s,.s,.s,.s,.s,.s,.s]),.o 9 (fun _=> [.s])]) [.sc (.string ⟨#[]⟩),.ls [.sc (.string ⟨#[]⟩),.sc (.int .i64 0),.sc (.bool false),.sc (.bool false),.sc (.int .i64 0),.sc (.int .i64 0),.sc (.string ⟨#[]⟩)] [],.ls [.sc (.string ⟨#[]⟩)] []]).trans (Gh.kb _ [2,3,8,9,10] [2,3] [990])) ⟨0,by omega,by simp[mTableS]⟩ ?_
 rintro E1 ⟨i,hi,rfl⟩
 simp[mTableS]
 refine ⟨fun h=>⟨h,.of (copyTable_ok _ (hb _ (getD_mem dTable h)).1 (hb _ (getD_mem dTable h)).2) ?_⟩,fun h=> ?_⟩
 ·simp[mTable]
  refine ⟨by omega,.of _ ((Gh.kb _ [2,3,8,9,10] [2,3] [19]).trans (Gh.rn _ 19 990)) ⟨i+1,by omega, ?_⟩ ?_⟩
  ·rw[take_rowM dTable h]
   simp[wrapS (show i<9223372036854775807 by omega),mTableS]
  ·simp[wrapS (show i<9223372036854775807 by omega)];omega
 ·have:i=c.fTables.length:=by omega
  subst this
  rw[←List.map_take,List.take_length]
theorem has_flip2 (l:List ByteArray) (s:ByteArray):l.any (fun x=>s.toList==x.toList)=has l s:=rfl
theorem ddlCodeI_ok (c:GCat) (d:GDdl) (hc:okCat c) (hd:okDdl d) (hd2:ddlOk d=true):VC Tryz.prog 266 [vCat c,vDdl d] [(false,[(.s,.sc (.int .i64 (ddlCode c d)))])]:=by
 refine vc_of_ew good hm [0,1,2,3,4,5,13,14,17,23,6,29,55,65,81] Tryz.func266 rfl (by kernel_rfl) (by kernel_rfl) rfl ?_
 simp[Tryz.f266]
 refine .of (at_ok c d.fTable hc.1.1) ?_
 simp
 have hb:=tabAt_bd c.fTables d.fTable
 have hE1:d.fKind=1→ddlCode c d=if 0≤tabAt c.fTables d.fTable then 2 else if c.fTables.length=6 then 3 else 0:=fun h=>by simp[ddlCode,h]
 have hE2:d.fKind≠1→ddlCode c d=if tabAt c.fTables d.fTable<0 then 4 else tabCode (tabOf c d.fTable) d:=fun h=>by simp[ddlCode,h]
 refine ⟨fun h1=>⟨fun h2=>by rw[hE1 h1,if_pos h2],fun h2=>⟨fun h3=>by rw[hE1 h1,if_neg (by omega),if_pos (by omega)],fun h3=>by rw[hE1 h1,if_neg (by omega),if_neg (by omega)]⟩⟩,fun h1=>⟨fun h2=>by rw[hE2 h1,if_pos h2],fun h2=>⟨⟨h2,hb.2⟩,fun h3=>⟨h3,by have:=(ddlOk_3 hd2 h3).1;omega⟩, ?_⟩⟩⟩
 rw[hE2 h1,if_neg (by omega)]
 have hot:=hc.1.2 _ (getD_mem dTable (show (tabAt c.fTables d.fTable).toNat<c.fTables.length by omega))
 show CallG _ _ _ _ [vTable (tabOf c d.fTable),str (col0 d).fName] _
 refine .of (fun g=>⟨g,colAtI_ok (tabOf c d.fTable) (col0 d).fName hot.2.1.1⟩) ?_
 simp
 refine .of (fun g=>⟨g,colAtI_ok (tabOf c d.fTable) d.fTo hot.2.1.1⟩) ?_
 simp
 have hT:tabCode (tabOf c d.fTable) d=if (d.fKind=3∧0≤colAt (tabOf c d.fTable) (col0 d).fName)∨(d.fKind=5∧0≤colAt (tabOf c d.fTable) d.fTo) then 5 else
  if d.fKind=3∧(tabOf c d.fTable).fCols.length=8 then 6 else
  if (d.fKind=4∨d.fKind=5)∧colAt (tabOf c d.fTable) d.fName<0 then 7 else
  if d.fKind=4∧has (tabOf c d.fTable).fKeys d.fName=true then 8 else 0:=rfl
 refine ⟨by grind,by grind,fun q=>by rw[hT,if_pos q],fun q1 q2=> ?_⟩
 rw[if_neg (by grind)] at hT
 refine ⟨fun q3 q4=> ?_,fun q3=> ?_⟩
 ·rw[hT,if_pos ⟨q3,by show (c.fTables[(tabAt c.fTables d.fTable).toNat]?.getD dTable).fCols.length=8;omega⟩]
 rw[if_neg (fun q=>q3 q.1 (by have:=q.2;show ((c.fTables[(tabAt c.fTables d.fTable).toNat]?.getD dTable).fCols.length:Int)=8;unfold tabOf at this;omega))] at hT
 refine .of (fun g=>⟨g,colAtI_ok (tabOf c d.fTable) d.fName hot.2.1.1⟩) ?_
 simp
 refine ⟨fun q4 q5=>by rw[hT,if_pos ⟨q4,q5⟩],fun q4=> ?_⟩
 rw[if_neg (by grind)] at hT
 refine .of (fun g=>⟨g,containsStr_ok (tabOf c d.fTable).fKeys d.fName hot.2.2.1.1⟩) ?_
 simp[has_flip2]
 refine ⟨fun q5 q6=>by rw[hT,if_pos ⟨q5,q6⟩],fun q5=>by rw[hT,if_neg (by grind)]⟩
end Go.Proofs.YtanlbohhmoifcaaGreat
namespace Go.Proofs.YtanlbohhmoifcaaGreat
open Go Go.Proofs Go.Sm
attribute [local simp] ti eStr eInt eByte eVal vVal eCol vCol vColS vStrS eTable cTable vTable vTableS cCat vCat eValS vValS eRow cRow vRow vRowS eRows vRowsS cDb vDb eDdl cDdl vDdl eStmt cStmt vStmt eRec vRec eSlot vSlot eRecS vRecS eSlotS vSlotS vStmtS
set_option linter.unusedVariables false
set_option linter.unusedSimpArgs false
theorem idxF_specC (p:GCol→Bool) (l:List GCol) (h:l.any p=true): ∃i:Nat,idxF p l=i∧i<l.length∧p (l[i]?.getD dCol)=true∧(l.take i).filter (fun x=> !p x)=l.take i:=by
 have hi:l.findIdx p<l.length:=List.findIdx_lt_length.2 (List.any_eq_true.1 h)
 refine ⟨l.findIdx p,by simp[idxF,h],hi, ?_, ?_⟩
 ·rw[List.getElem?_eq_getElem hi,Option.getD_some]
  exact List.findIdx_getElem
 ·rw[List.filter_eq_self]
  intro x hx
  obtain ⟨j,hj,rfl⟩:=List.getElem_of_mem hx
  rw[List.length_take] at hj
  rw[List.getElem_take]
  have:=List.not_of_lt_findIdx (p:=p) (xs:=l) (i:=j) (by omega)
  simpa using this
theorem delFuncCol_ok (l:List GCol) (k:Nat) (ds:List Lf) (p:GCol→Bool) (hl:l.length≤1048576) (hk: ∀x∈l,VC Tryz.prog k [vCol x,.p (.ps ds)] [(false,[(.s,.sc (.bool (p x)))])]):
  VX Tryz.prog 269 [.v false [.r [900]],.fn k [.ps ds]] (mColS l) [(false,mColS (l.filter fun x=> !p x))]:=by
 refine vx_of_ew good hm [0,1,4,5,12,6,19,7,29] Tryz.func269 rfl (by kernel_rfl) (by kernel_rfl) rfl ?_
 simp[Tryz.f269,mColS]
 refine .of (idxCol1_ok l k ds p (by unfold okM;omega) hk) ?_
 simp
 refine ⟨fun h=> ?_,fun h=> ?_⟩
 ·have ha:l.any p=false:=by
   have:=idxF_ge p l
   rw[h] at this
   exact this.symm
  have hf:l.filter (fun x=> !p x)=l:=by
   rw[List.filter_eq_self]
   intro x hx
   have:=List.any_eq_false.1 ha x hx
   simpa using this
  refine .of _ (Gh.refl _) ?_
  simp[hf]
 ·have ha:l.any p=true:=by
   cases hx:l.any p with
   |true=>rfl
   |false=>exact absurd (idxF_no p hx) h
  obtain ⟨i0,e0,hi0,hp0,hf0⟩:=idxF_specC p l ha
  rw[e0]
  refine ew_loop (fun E=> ∃ (a j:Nat) (M:List GCol),a<j∧j≤l.length∧M.length=l.length∧M.take a=(l.take j).filter (fun x=> !p x)∧(∀x,j≤x→M[x]? =l[x]?)∧E= {nt:=42,sl:= [(0,.v false [.r [900]]),(1,.fn k [.ps ds]),(5,int .i64 a),(6,int .i64 j)],bx:= [],rt:=(mColS M).map fun y=>(900,y)}) (fun E=>l.length- (E.num 6).toNat) _ (Gh.kb _ [0,1,5,6] [] [900]) ⟨i0,i0+1,l,by omega,by omega,rfl, ?_,fun _ _=>rfl, ?_⟩ ?_
  ·rw[List.take_succ_eq_append_getElem hi0,List.filter_append,hf0]
   rw[List.getElem?_eq_getElem hi0,Option.getD_some] at hp0
   simp[hp0]
  ·simp[wrapS (show i0<9223372036854775807 by omega),mColS]
  rintro E1 ⟨a,j,M,haj,hj,hM,hta,htl,rfl⟩
  simp[mColS,hM]
  refine ⟨fun h1=> ?_,fun h1=> ?_⟩
  ·have hmj:M[j]? =l[j]? :=htl j (Nat.le_refl _)
   have hg: ∀h',M[j]'h'=l[j]'h1:=fun h'=>by
    rw[List.getElem?_eq_getElem h',List.getElem?_eq_getElem h1] at hmj
    exact Option.some.inj hmj
   simp[md,lf,hM,h1,hg,List.range',eCol]
   refine .of (hk l[j] (List.getElem_mem h1)) ?_
   simp[md,lf,hM,h1,List.range',eCol]
   have hft: ∀b,p l[j]=b→(l.take (j+1)).filter (fun x=> !p x)=(l.take j).filter (fun x=> !p x)++(if b=true then [] else [l[j]]):=fun b hb=>by
    rw[List.take_succ_eq_append_getElem h1,List.filter_append]
    congr 1
    cases b<;>simp[hb]
   refine ⟨fun hp=>⟨by omega,.of _ (Gh.kb _ [0,1,5,6] [] [900]) ⟨a+1,j+1,by omega,by omega,M.set a l[j],by simp[hM], ?_,fun x hx=> ?_, ?_⟩ ?_⟩,fun hp=> .of _ (Gh.kb _ [0,1,5,6] [] [900]) ⟨a,j+1,by omega,by omega,M,hM, ?_,fun x hx=>htl x (by omega), ?_⟩ ?_⟩
   ·rw[hft _ hp,←hta,List.take_succ_eq_append_getElem (by simp[hM];omega),List.take_set_of_le (Nat.le_refl _)]
    simp
   ·rw[List.getElem?_set_ne (by omega)]
    exact htl x (by omega)
   ·simp[wrapS (show j<9223372036854775807 by omega),wrapS (show a<9223372036854775807 by omega),mColS,List.map_set,eCol]
   ·simp[wrapS (show j<9223372036854775807 by omega)];omega
   ·rw[hft _ hp,←hta]
    simp
   ·simp[wrapS (show j<9223372036854775807 by omega),mColS]
   ·simp[wrapS (show j<9223372036854775807 by omega)];omega
  ·have:j=l.length:=by omega
   subst this
   refine ⟨by omega,by omega,by omega,.of _ (Gh.trunc (t:=4) (r:=900) (n:=a) (sz:=7) rfl rfl (by simp;omega)) ?_⟩
   rw[List.take_length] at hta
   simp[←hta]
   rw[List.take_append_of_le_length (by simp[hM];omega),List.take_take,Nat.min_self]
end Go.Proofs.YtanlbohhmoifcaaGreat
namespace Go.Proofs.YtanlbohhmoifcaaGreat
open Go Go.Proofs Go.Sm
attribute [local simp] ti eStr eInt eByte eVal vVal eCol vCol vColS vStrS eTable cTable vTable vTableS cCat vCat eValS vValS eRow cRow vRow vRowS eRows vRowsS cDb vDb eDdl cDdl vDdl eStmt cStmt vStmt eRec vRec eSlot vSlot eRecS vRecS eSlotS vSlotS vStmtS
set_option linter.unusedVariables false
set_option linter.unusedSimpArgs false
theorem ddlApply1_ok (d:GDdl) (c:GCol):VC Tryz.prog 270 [vCol c,.p (.ps (eDdl d))] [(false,[(.s,.sc (.bool (c.fName.toList==d.fName.toList)))])]:=by
 refine vc_of_ew good hm [0,1,2,3] Tryz.func270 rfl (by kernel_rfl) (by kernel_rfl) rfl ?_
 simp[Tryz.f270,eDdl]
theorem renC_no {a b:ByteArray} {c:GCol} (h:c.fName≠a):renC a b c=c:=by
 have:(c.fName.toList==a.toList)=false:=Bool.eq_false_iff.2 fun e=>h ((tl_beq _ _).1 e)
 simp[renC,this]
theorem ren_cols (a b:ByteArray): ∀ {l:List GCol},(cnm l).Nodup→a∈cnm l→l.map (renC a b)=l.set (pos (cnm l) a) ⟨b,(l[pos (cnm l) a]?.getD dCol).fTy,(l[pos (cnm l) a]?.getD dCol).fNot,(l[pos (cnm l) a]?.getD dCol).fHas,(l[pos (cnm l) a]?.getD dCol).fDef⟩
 | [],_,h=>by cases h
 |x::l,hn,h=>by
  have hc:cnm (x::l)=x.fName::cnm l:=rfl
  rw[hc] at hn h⊢
  rw[List.nodup_cons] at hn
  rw[pos_cons]
  by_cases e:x.fName=a
  ·rw[if_pos e]
   have h1:renC a b x=⟨b,x.fTy,x.fNot,x.fHas,x.fDef⟩:=by
    have:(x.fName.toList==a.toList)=true:=(tl_beq _ _).2 e
    simp[renC,this]
   have h2:l.map (renC a b)=l:=by
    conv=>rhs;rw[←List.map_id l]
    refine List.map_congr_left fun y hy=>renC_no fun e2=> ?_
    exact hn.1 (by rw[e,←e2];exact List.mem_map.2 ⟨y,hy,rfl⟩)
   rw[List.map_cons,h1,h2]
   rfl
  ·rw[if_neg e,List.map_cons,renC_no e,ren_cols a b hn.2 ((List.mem_cons.1 h).resolve_left fun e2=>e e2.symm)]
   rfl
theorem ren_keys (a b:ByteArray): ∀ {l:List ByteArray},l.Nodup→l.map (renS a b)=l.set (l.findIdx (fun x=>a.toList==x.toList)) b
 | [],_=>rfl
 |x::l,hn=>by
  rw[List.nodup_cons] at hn
  by_cases e:x=a
  ·subst e
   have h2:l.map (renS x b)=l:=by
    conv=>rhs;rw[←List.map_id l]
    exact List.map_congr_left fun y hy=>(renS_eq x b y).2 fun e2=>hn.1 (e2▸hy)
   rw[List.map_cons,h2,(renS_eq x b x).1 rfl,List.findIdx_cons]
   simp
  ·have h1:(a.toList==x.toList)=false:=Bool.eq_false_iff.2 fun e2=>e (((tl_beq _ _).1 e2).symm)
   rw[List.map_cons,ren_keys a b hn.2,(renS_eq a b x).2 e,List.findIdx_cons,h1]
   rfl
theorem idxF_find {α:Type} (p:α→Bool) (l:List α):(idxF p l= -1∧l.findIdx p=l.length)∨idxF p l=l.findIdx p:=by
 unfold idxF
 split
 ·exact .inr rfl
 ·rename_i h
  refine .inl ⟨rfl, ?_⟩
  rw[List.findIdx_eq_length]
  simpa using h
theorem ddlApplyI_ok (c:GCat) (d:GDdl) (hc:okCat c) (hd:okDdl d) (h1:d.fCols.length≤1048576) (h2:d.fKeys.length≤1048576):VC Tryz.prog 246 [vCat c,vDdl d] [(true,mCat (ddlApply c d).1),(false,[(.s,.sc (.int .i64 (ddlApply c d).2))])]:=by
 refine vc_of_ew good hm [0,1,2,3,4,5,20,6,26,7,8,36,37,9,54,65,74,93,10,108,11,12,136] Tryz.func246 rfl (by kernel_rfl) (by kernel_rfl) rfl ?_
 simp[Tryz.f246,mCat]
 refine .of (catOkI_ok c hc) ?_
 simp
 refine .of (fun g=>⟨g,ddlOkI_ok d hd h1 h2⟩) ?_
 simp
 have hE:ddlApply c d=if catOk c=false∨ddlOk d=false then (⟨[]⟩,1) else if ddlCode c d≠0 then (⟨[]⟩,ddlCode c d) else (catCh c d,0):=rfl
 refine ⟨fun h=>by rw[hE,if_pos h];simp,fun h3 h4=> ?_⟩
 rw[if_neg (by simp[h3,h4])] at hE
 obtain ⟨hcl,hct⟩:=(catOk_ok h3).2
 refine .of (ddlCodeI_ok c d hc hd h4) ?_
 simp
 refine ⟨fun h=>by rw[hE,if_pos h];simp,fun h5=> .of (copyCat_ok c (by omega) (fun t ht=>(hct t ht).2)) ?_⟩
 rw[if_neg (by simp[h5])] at hE
 rw[hE]
 simp[mCat]
 have hz:=ddlCode_0 h5
 by_cases k1:d.fKind=1
 ·refine .of (at_ok c d.fTable hc.1.1) ?_
  simp (maxSteps:=1000000) [k1]
  refine ew_loop (fun E=> ∃i:Nat,i≤(c.fTables.takeWhile (fun y=>tabLt y (madeT d))).length∧E= {nt:=146,sl:= [(3,.p (.bx 3 0)),(4,.p (.bx 4 0)),(7,.p (.bx 7 0)),(9,int .i64 i)],bx:= [(3,cDdl d),(4,[.n [.sc (.string ⟨#[]⟩),.ls [.sc (.string ⟨#[]⟩),.sc (.int .i64 0),.sc (.bool false),.sc (.bool false),.sc (.int .i64 0),.sc (.int .i64 0),.sc (.string ⟨#[]⟩)] [],.ls [.sc (.string ⟨#[]⟩)] []]]),(7,[.r [30]])],rt:=(mTableS c.fTables).map fun y=>(30,y)}) (fun E=>c.fTables.length- (E.num 9).toNat) _ (Gh.kb _ [3,4,7,9] [3,4,7] [30]) ⟨0,by omega,by simp[mTableS,k1]⟩ ?_
  rintro E1 ⟨i,hi,rfl⟩
  have htw:=takeW_len (fun y=>tabLt y (madeT d)) c.fTables
  have hat:=takeW_at (fun y=>tabLt y (madeT d)) dTable hi
  simp[mTableS,md,lf,eTable]
  refine ⟨fun q1 q2=> .of _ (Gh.kb _ [3,4,7,9] [3,4,7] [30]) ⟨i+1,hat.2 ⟨q1,q2⟩, ?_⟩ ?_,fun q2=> ?_⟩
  ·simp[wrapS (show i<9223372036854775807 by omega),mTableS]
  ·simp[wrapS (show i<9223372036854775807 by omega)];omega
  ·have hiq:i=(c.fTables.takeWhile (fun y=>tabLt y (madeT d))).length:=by
    rcases Nat.lt_or_ge i (c.fTables.takeWhile (fun y=>tabLt y (madeT d))).length with hlt|hge
    ·obtain ⟨g1,g2⟩:=hat.1 hlt
     have:=q2 g1
     rw[show Op.bytesLess (c.fTables[i]?.getD dTable).fName.toList d.fTable.toList=true from g2] at this
     cases this
    ·omega
   refine .of (made_ok d h1 h2) ?_
   simp[mTable]
   refine ⟨of_eq_true (full_TableS [madeT d]),.use (vx_ins (i:=i) (rows:=c.fTables.map eTable) (row:=eTable (madeT d)) (z:= [.sc (.string ⟨#[]⟩),.ls [.sc (.string ⟨#[]⟩),.sc (.int .i64 0),.sc (.bool false),.sc (.bool false),.sc (.int .i64 0),.sc (.int .i64 0),.sc (.string ⟨#[]⟩)] [],.ls [.sc (.string ⟨#[]⟩)] []]) (cols:=fun _=> [.s,.o 154 (fun _=> [.s,.s,.s,.s,.s,.s,.s]),.o 9 (fun _=> [.s])]) (cols':=fun _=> [.s,.o 154 (fun _=> [.s,.s,.s,.s,.s,.s,.s]),.o 9 (fun _=> [.s])]) ⟨_,_,Tryz.func267,rfl,by kernel_rfl⟩ rawIns_Table (by decide) (by decide) rfl (by simp;omega) (by simp;omega)) ?_⟩
   simp[colsI_const]
   unfold catCh
   rw[if_pos k1,insW_at,←hiq]
   simp[eTable]
 ·obtain ⟨z1,z2⟩:=hz.2 k1
  obtain ⟨k,hk⟩: ∃k:Nat,tabAt c.fTables d.fTable=k:=⟨_,(Int.toNat_of_nonneg z1).symm⟩
  have hat:=at_ok c d.fTable hc.1.1
  have hb:=tabAt_bd c.fTables d.fTable
  have hkl:k<c.fTables.length:=by omega
  rw[hk] at hat
  refine .of hat ?_
  simp (maxSteps:=1000000) [k1,md,lf,eTable,List.range',hkl]
  have htk:tabOf c d.fTable=c.fTables[k]:=by
   unfold tabOf
   rw[hk]
   simp[hkl]
  have hm:c.fTables[k]∈c.fTables:=List.getElem_mem hkl
  have hbt:=(hct _ hm).2
  have hok:=(hct _ hm).1
  have hset:d.fKind≠2→(catCh c d).fTables=c.fTables.set k (tabCh c.fTables[k] d):=fun k2=>by
   unfold catCh
   rw[if_neg k1,if_neg k2,hk,htk]
   rfl
  have hmd:(fun k_1=>if k_1=k then [Md.s,Md.o 154 fun x=> [Md.s,Md.s,Md.s,Md.s,Md.s,Md.s,Md.s],Md.o 9 fun x=> [Md.s]] else if k_1=k then [Md.s,Md.x,Md.o 9 fun x=> [Md.s]] else [Md.s,Md.o 154 fun x=> [Md.s,Md.s,Md.s,Md.s,Md.s,Md.s,Md.s],Md.o 9 fun x=> [Md.s]])=fun x=> [Md.s,Md.o 154 fun x=> [Md.s,Md.s,Md.s,Md.s,Md.s,Md.s,Md.s],Md.o 9 fun x=> [Md.s]]:=by
   funext j
   by_cases hj:j=k<;>simp[hj]
  obtain ⟨cd3,cd5,cd4⟩:=tabCode_0 (htk▸z2)
  refine ⟨fun k2=> ?_,fun k2=>⟨fun k3=>⟨by have:=(ddlOk_3 h4 k3).1;omega,by have:=hbt.1;omega,hmd, ?_⟩,fun k3=>⟨fun k4=> ?_,fun k4=> ?_⟩⟩⟩
  ·simp[wrapS (show k<9223372036854775807 by omega)]
   refine .use (vx_del (i:=k) (rows:=c.fTables.map eTable) (z:= [.sc (.string ⟨#[]⟩),.ls [.sc (.string ⟨#[]⟩),.sc (.int .i64 0),.sc (.bool false),.sc (.bool false),.sc (.int .i64 0),.sc (.int .i64 0),.sc (.string ⟨#[]⟩)] [],.ls [.sc (.string ⟨#[]⟩)] []]) (cols:=fun _=> [.s,.o 154 (fun _=> [.s,.s,.s,.s,.s,.s,.s]),.o 9 (fun _=> [.s])]) ⟨_,_,Tryz.func268,rfl,by kernel_rfl⟩ rawDel_Table (by decide) rfl (by simp;omega)) ?_
   simp[colsD_const]
   unfold catCh
   rw[if_neg k1,if_pos k2,hk,Int.toNat_natCast,List.eraseIdx_eq_take_drop_succ]
   simp
  ·rw[hset k2,List.map_set]
   unfold tabCh
   rw[if_pos k3]
   simp[eTable,eCol,col0]
  ·refine .use (delFuncCol_ok _ _ (eDdl d) _ hbt.1 (fun x _=>ddlApply1_ok d x)) ?_
   simp[mColS,md,lf,eTable,List.range',hkl]
   refine ⟨hmd, ?_⟩
   rw[hset k2,List.map_set]
   unfold tabCh
   rw[if_neg k3,if_pos k4]
   simp[eTable]
  ·have k5:d.fKind=5:=by have:=ddlOk_kind h4;omega
   obtain ⟨q1,q2⟩:=cd5 k5
   have hj1:0≤colAt c.fTables[k] d.fName:=colAt_nn.2 q2
   have hj2:=pos_lt q2
   obtain ⟨j,hj⟩: ∃j:Nat,colAt c.fTables[k] d.fName=j:=⟨_,(Int.toNat_of_nonneg hj1).symm⟩
   have hca:=colAtI_ok c.fTables[k] d.fName (by have:=hbt.1;unfold okM;omega)
   rw[hj] at hca
   refine ⟨fun _=> .of hca ?_,fun h=>absurd k5 h⟩
   simp[md,lf,eTable,List.range',hkl]
   have hcb:colAt c.fTables[k] d.fName<c.fTables[k].fCols.length:=(idxF_bd _ _).2
   have hjl:j<c.fTables[k].fCols.length:=by omega
   refine ⟨hjl,.of (indexStr_ok c.fTables[k].fKeys d.fName (by have:=hbt.2;unfold okM;omega)) ?_⟩
   have hib:=idxF_bd (fun x:ByteArray=>d.fName.toList==x.toList) c.fTables[k].fKeys
   have hid:=idxF_find (fun x:ByteArray=>d.fName.toList==x.toList) c.fTables[k].fKeys
   generalize idxF (fun x:ByteArray=>d.fName.toList==x.toList) c.fTables[k].fKeys=r at hib hid⊢
   simp[md,lf,eTable,List.range',hkl,hjl]
   have hjp:j=pos (cnm c.fTables[k].fCols) d.fName:=by
    have:=colAt_toNat q2
    rw[hj] at this
    exact this
   have hto:=(tableOk_iff _).1 hok
   have hrc:=ren_cols d.fName d.fTo hto.2.2.2.2.2.1 q2
   rw[←hjp,List.getElem?_eq_getElem hjl] at hrc
   have hrk:=ren_keys d.fName d.fTo (hto.2.2.2.2.2.2.1.nodup hto.2.2.2.2.2.1)
   have hfin: ∀ks:List ByteArray,ks=c.fTables[k].fKeys.map (renS d.fName d.fTo)→(c.fTables.map eTable).set k (eTable ⟨c.fTables[k].fName,c.fTables[k].fCols.set j ⟨d.fTo,c.fTables[k].fCols[j].fTy,c.fTables[k].fCols[j].fNot,c.fTables[k].fCols[j].fHas,c.fTables[k].fCols[j].fDef⟩,ks⟩)=(catCh c d).fTables.map eTable:=fun ks hks=>by
    rw[hset k2,List.map_set]
    unfold tabCh
    rw[if_neg k3,if_neg k4,if_pos k5,hks,hrc]
    rfl
   refine ⟨fun hr=>⟨⟨hr,hib.2⟩,by omega, ?_⟩,fun hr=> ?_⟩
   ·have:=hfin (c.fTables[k].fKeys.set r.toNat d.fTo) (by
     rw[hrk]
     congr 1
     omega)
    rw[←this]
    simp[eTable,List.map_set,eCol,eStr]
   ·have:=hfin c.fTables[k].fKeys (by
     rw[hrk,List.set_eq_of_length_le]
     omega)
    rw[←this]
    simp[eTable,List.map_set,eCol]
end Go.Proofs.YtanlbohhmoifcaaGreat
namespace Go.Proofs.YtanlbohhmoifcaaGreat
open Go Go.Proofs Go.Sm
attribute [local simp] ti eStr eInt eByte eVal vVal eCol vCol vColS vStrS eTable cTable vTable vTableS cCat vCat eValS vValS eRow cRow vRow vRowS eRows vRowsS cDb vDb eDdl cDdl vDdl eStmt cStmt vStmt eRec vRec eSlot vSlot eRecS vRecS eSlotS vSlotS vStmtS
set_option linter.unusedVariables false
set_option linter.unusedSimpArgs false
def chTo {α:Type} (f:α→α) (l:List α) (i:Nat):List α:=(l.take i).map f++l.drop i
theorem chTo_zero {α:Type} (f:α→α) (l:List α):chTo f l 0=l:=by simp[chTo]
theorem chTo_all {α:Type} (f:α→α) (l:List α):chTo f l l.length=l.map f:=by simp[chTo]
theorem chTo_len {α:Type} (f:α→α) (l:List α) (i:Nat):(chTo f l i).length=l.length:=by simp[chTo];omega
theorem chTo_get {α:Type} (f:α→α) (l:List α) (i:Nat):(chTo f l i)[i]? =l[i]? :=by
 unfold chTo
 rcases Nat.lt_or_ge i l.length with h|h
 ·rw[List.getElem?_append_right (by simp;omega)]
  simp
  congr 1
  omega
 ·simp[List.getElem?_eq_none,h]
theorem chTo_succ {α:Type} (f:α→α) (d:α) {l:List α} {i:Nat} (h:i<l.length):chTo f l (i+1)=(chTo f l i).set i (f (l[i]?.getD d)):=by
 unfold chTo
 rw[List.map_take,take_rowM d h,List.map_take,List.set_append_right _ _ (by simp;omega)]
 have:i- (List.take i (List.map f l)).length=0:=by simp;omega
 rw[this,List.drop_eq_getElem_cons (i:=i) h,List.getElem?_eq_getElem h]
 show _++ [_]++_=_
 rw[List.append_assoc]
 rfl
theorem rowsDdlI_ok (t:GTable) (l:List GRow) (d:GDdl) (ht:okTable t) (hk:t.fKeys.length≤1048576) (hl:okRowS l) (hd:okDdl d) (h1:d.fCols.length≤1048576) (h2:d.fKeys.length≤1048576):VC Tryz.prog 249 [vTable t,vRowS l,vDdl d] [(false,mRowS (rowsDdl t l d).1),(false,[(.s,.sc (.int .i64 (rowsDdl t l d).2))])]:=by
 refine vc_of_ew good hm [0,1,2,3,5,6,7,33,8,40,9,45,46,48,51,52,53,10,72,11,79,80,81,12] Tryz.func249 rfl (by kernel_rfl) (by kernel_rfl) rfl ?_
 simp[Tryz.f249,mRowS]
 refine .of (rowsOkI_ok t l ht hl hk) ?_
 simp
 refine .of (fun g=>⟨g,ddlOkI_ok d hd h1 h2⟩) ?_
 simp
 have hE:rowsDdl t l d=if rowsOk t l=false∨ddlOk d=false∨(d.fTable.toList==t.fName.toList)=false∨d.fKind=1 then ([],1) else if ddlCode ⟨[t]⟩ d≠0 then ([],ddlCode ⟨[t]⟩ d) else (if d.fKind=2 then [] else l.map (rowCh t d),0):=rfl
 refine ⟨fun h=>by rw[hE,if_pos (by simp only[beq_eq_false_iff_ne];grind)];simp,fun h3 h4 h5 k1=> ?_⟩
 rw[if_neg (by simp[h3,h4,h5,k1])] at hE
 have hn:d.fTable=t.fName:=tl_inj h5
 obtain ⟨g2,g3,g4,g5,g6⟩:=rowsOk_inv h3
 have htl:=tableOk_len g2
 have hoc:okCat ⟨[t]⟩:=⟨⟨by simp[okM],by simpa using ht⟩,trivial⟩
 refine .of (ddlCodeI_ok ⟨[t]⟩ d hoc hd h4) ?_
 simp
 refine ⟨fun h=>by rw[hE,if_pos h];simp,fun h6=> .of (copyRows_ok l (by omega) g6) ?_⟩
 rw[if_neg (by simp[h6])] at hE
 rw[hE]
 rw[ddlCode_one k1 hn] at h6
 simp[mRowS]
 refine ⟨fun k2=>by simp[k2],fun k2=> ?_⟩
 rw[if_neg k2]
 have hmd: ∀i:Nat,(fun k=>if k=i then [Md.o 152 fun x=> [Md.s,Md.s,Md.s]] else if k=i then [Md.x] else [Md.o 152 fun x=> [Md.s,Md.s,Md.s]])=fun x=> [Md.o 152 fun x=> [Md.s,Md.s,Md.s]]:=fun i=>by
  funext k
  by_cases hj:k=i<;>simp[hj]
 refine ⟨fun k3=> ?_,fun k3=>⟨fun k4=> ?_,fun k4=> ?_⟩⟩
 ·refine ew_loop (fun E=> ∃i:Nat,i≤l.length∧E= {nt:=98,sl:= [(5,.p (.bx 5 0)),(9,.v false [.r [43]]),(51,int .i64 l.length),(52,int .i64 i)],bx:= [(5,cDdl d)],rt:=(mRowS (chTo (rowCh t d) l i)).map fun y=>(43,y)}) (fun E=>l.length- (E.num 52).toNat) _ (Gh.kb _ [5,9,51,52] [5] [43]) ⟨0,by omega,by simp[mRowS,chTo_zero]⟩ ?_
  rintro E1 ⟨i,hi,rfl⟩
  have hlen:=chTo_len (rowCh t d) l i
  have hget:=chTo_get (rowCh t d) l i
  have hsu:=fun h=>chTo_succ (rowCh t d) dRow (l:=l) (i:=i) h
  have hal:=chTo_all (rowCh t d) l
  generalize hM:chTo (rowCh t d) l i=M at hlen hget hsu
  simp[mRowS]
  refine ⟨fun h=> ?_,fun h=> ?_⟩
  ·have hMi:M[i]'(by omega)=l[i]:=by
    rw[List.getElem?_eq_getElem (by omega),List.getElem?_eq_getElem h] at hget
    exact Option.some.inj hget
   simp[md,lf,eRow,List.range',hlen,h,hMi]
   have hrl:=rowFit_len (g4 _ (List.getElem_mem h))
   refine ⟨by have:=(ddlOk_3 h4 k3).1;omega,by omega,.of _ (Gh.kb _ [5,9,51,52] [5] [43]) ⟨i+1,by omega, ?_⟩ ?_⟩
   ·rw[hsu h,List.map_set]
    simp[wrapS (show i<9223372036854775807 by omega),hmd,h,rowCh,k3,eRow,eVal,col0]
   ·simp[wrapS (show i<9223372036854775807 by omega)];omega
  ·have:i=l.length:=by omega
   subst this
   rw[←hM,hal]
   simp
 ·have hj1:0≤colAt t d.fName:=colAt_nn.2 ((tabCode_0 h6).2.2 k4).1
  obtain ⟨j,hj⟩: ∃j:Nat,colAt t d.fName=j:=⟨_,(Int.toNat_of_nonneg hj1).symm⟩
  have hcb:colAt t d.fName<t.fCols.length:=(idxF_bd _ _).2
  have hca:=colAtI_ok t d.fName ht.2.1.1
  rw[hj] at hca
  refine .of hca ?_
  simp
  refine ew_loop (fun E=> ∃i:Nat,i≤l.length∧E= {nt:=98,sl:= [(9,.v false [.r [43]]),(11,int .i64 j),(79,int .i64 l.length),(80,int .i64 i)],bx:= [],rt:=(mRowS (chTo (rowCh t d) l i)).map fun y=>(43,y)}) (fun E=>l.length- (E.num 80).toNat) _ (Gh.kb _ [9,11,79,80] [] [43]) ⟨0,by omega,by simp[mRowS,chTo_zero]⟩ ?_
  rintro E1 ⟨i,hi,rfl⟩
  have hlen:=chTo_len (rowCh t d) l i
  have hget:=chTo_get (rowCh t d) l i
  have hsu:=fun h=>chTo_succ (rowCh t d) dRow (l:=l) (i:=i) h
  have hal:=chTo_all (rowCh t d) l
  generalize hM:chTo (rowCh t d) l i=M at hlen hget hsu
  simp[mRowS]
  refine ⟨fun h=> ?_,fun h=> ?_⟩
  ·have hMi:M[i]'(by omega)=l[i]:=by
    rw[List.getElem?_eq_getElem (by omega),List.getElem?_eq_getElem h] at hget
    exact Option.some.inj hget
   simp[md,lf,eRow,List.range',hlen,h,hMi,wrapS (show j<9223372036854775807 by omega)]
   have hrl:=rowFit_len (g4 _ (List.getElem_mem h))
   refine .use (vx_del (i:=j) (rows:=l[i].fVals.map eVal) (z:= [.sc (.int .i64 0),.sc (.int .i64 0),.sc (.string ⟨#[]⟩)]) (cols:=fun _=> [.s,.s,.s]) ⟨_,_,Tryz.func274,rfl,by kernel_rfl⟩ rawDel_Val (by decide) rfl (by simp;omega)) ?_
   simp[md,lf,eRow,List.range',hlen,h,hMi,colsD_const]
   refine .of _ (Gh.kb _ [9,11,79,80] [] [43]) ⟨i+1,by omega, ?_⟩ ?_
   ·rw[hsu h,List.map_set]
    simp[wrapS (show i<9223372036854775807 by omega),hmd,h,rowCh,k4,eRow,hj,List.eraseIdx_eq_take_drop_succ]
   ·simp[wrapS (show i<9223372036854775807 by omega)];omega
  ·have:i=l.length:=by omega
   subst this
   rw[←hM,hal]
   simp
 ·have:rowCh t d=fun r=>r:=by
   funext r
   simp[rowCh,k3,k4]
  rw[this]
  simp
end Go.Proofs.YtanlbohhmoifcaaGreat
namespace Go.Proofs.YtanlbohhmoifcaaGreat
open Go Go.Proofs Go.Sm
attribute [local simp] ti eStr eInt eByte eVal vVal eCol vCol vColS vStrS eTable cTable vTable vTableS cCat vCat eValS vValS eRow cRow vRow vRowS eRows vRowsS cDb vDb eDdl cDdl vDdl eStmt cStmt vStmt eRec vRec eSlot vSlot eRecS vRecS eSlotS vSlotS vStmtS
set_option linter.unusedVariables false
set_option linter.unusedSimpArgs false
def fDb (d:GDb):ML:= [(Md.s,Lf.ls [Lf.sc (Value.string ⟨#[]⟩),Lf.ls [Lf.sc (Value.string ⟨#[]⟩),Lf.sc (Value.int IntKind.i64 0),Lf.sc (Value.bool false),Lf.sc (Value.bool false),Lf.sc (Value.int IntKind.i64 0),Lf.sc (Value.int IntKind.i64 0),Lf.sc (Value.string ⟨#[]⟩)] [],Lf.ls [Lf.sc (Value.string ⟨#[]⟩)] []] (d.fCat.fTables.map eTable)),(Md.s,Lf.ls [Lf.ls [Lf.ls [Lf.sc (Value.int IntKind.i64 0),Lf.sc (Value.int IntKind.i64 0),Lf.sc (Value.string ⟨#[]⟩)] []] []] (d.fData.map eRows))]
def fCat (c:GCat):ML:= [(Md.s,Lf.ls [Lf.sc (Value.string ⟨#[]⟩),Lf.ls [Lf.sc (Value.string ⟨#[]⟩),Lf.sc (Value.int IntKind.i64 0),Lf.sc (Value.bool false),Lf.sc (Value.bool false),Lf.sc (Value.int IntKind.i64 0),Lf.sc (Value.int IntKind.i64 0),Lf.sc (Value.string ⟨#[]⟩)] [],Lf.ls [Lf.sc (Value.string ⟨#[]⟩)] []] (c.fTables.map eTable))]
def fRowS (l:List GRow):ML:= [(Md.s,Lf.ls [Lf.ls [Lf.sc (Value.int IntKind.i64 0),Lf.sc (Value.int IntKind.i64 0),Lf.sc (Value.string ⟨#[]⟩)] []] (l.map eRow))]
end Go.Proofs.YtanlbohhmoifcaaGreat
namespace Go.Proofs.YtanlbohhmoifcaaGreat
open Go Go.Proofs Go.Sm
attribute [local simp] ti eStr eInt eByte eVal vVal eCol vCol vColS vStrS eTable cTable vTable vTableS cCat vCat eValS vValS eRow cRow vRow vRowS eRows vRowsS cDb vDb eDdl cDdl vDdl eStmt cStmt vStmt eRec vRec eSlot vSlot eRecS vRecS eSlotS vSlotS vStmtS
set_option linter.unusedVariables false
set_option linter.unusedSimpArgs false
theorem l02Copy_ok (c:GCat) (hl:c.fTables.length≤1048576) (hb: ∀t∈c.fTables,bdTable t):VC Tryz.prog 183 [vCat c] [(true,mCat c)]:=by
 refine vc_of_ew good hm [0,1,2,3,8,9,10,11,5] Tryz.func183 rfl (by kernel_rfl) (by kernel_rfl) rfl ?_
 simp[Tryz.f183,mCat]
 refine ew_loop (fun E=> ∃i:Nat,i≤c.fTables.length∧E= {nt:=23,sl:= [(2,.p (.bx 2 0)),(3,.p (.bx 3 0)),(8,vTableS c.fTables),(9,int .i64 c.fTables.length),(10,int .i64 i)],bx:= [(2,[.n [Lf.sc (Value.string ⟨#[]⟩),Lf.ls [Lf.sc (Value.string ⟨#[]⟩),Lf.sc (Value.int IntKind.i64 0),Lf.sc (Value.bool false),Lf.sc (Value.bool false),Lf.sc (Value.int IntKind.i64 0),Lf.sc (Value.int IntKind.i64 0),Lf.sc (Value.string ⟨#[]⟩)] [],Lf.ls [Lf.sc (Value.string ⟨#[]⟩)] []]]),(3,[.r [990]])],rt:=(mTableS (c.fTables.take i)).map fun y=>(990,y)}) (fun E=>c.fTables.length- (E.num 10).toNat) _ ((Gh.nlB _ 3 0 990 202 (fun _=> [.s,(Md.o 154 (fun _=> [Md.s,Md.s,Md.s,Md.s,Md.s,Md.s,Md.s])),.o 9 (fun _=> [.s])]) [Lf.sc (Value.string ⟨#[]⟩),Lf.ls [Lf.sc (Value.string ⟨#[]⟩),Lf.sc (Value.int IntKind.i64 0),Lf.sc (Value.bool false),Lf.sc (Value.bool false),Lf.sc (Value.int IntKind.i64 0),Lf.sc (Value.int IntKind.i64 0),Lf.sc (Value.string ⟨#[]⟩)] [],Lf.ls [Lf.sc (Value.string ⟨#[]⟩)] []]).trans (Gh.kb _ [2,3,8,9,10] [2,3] [990])) ⟨0,by omega,by simp[mTableS]⟩ ?_
 rintro E1 ⟨i,hi,rfl⟩
 simp[mTableS]
 refine ⟨fun h=>⟨h,.of (l02Table_ok _ (hb _ (getD_mem dTable h))) ?_⟩,fun h=> ?_⟩
 ·simp[mTable]
  refine ⟨by omega,.of _ ((Gh.kb _ [2,3,8,9,10] [2,3] [19]).trans (Gh.rn _ 19 990)) ⟨i+1,by omega, ?_⟩ ?_⟩
  ·rw[take_rowM dTable h]
   simp[wrapS (show i<9223372036854775807 by omega),mTableS]
  ·simp[wrapS (show i<9223372036854775807 by omega)];omega
 ·have:i=c.fTables.length:=by omega
  subst this
  rw[←List.map_take,List.take_length]
theorem l02Put_ok (c:GCat) (t:GTable) (hl:c.fTables.length≤1048576):VC Tryz.prog 256 [vCat c,vTable t] [(true,[(Md.s,Lf.ls [Lf.sc (Value.string ⟨#[]⟩),Lf.ls [Lf.sc (Value.string ⟨#[]⟩),Lf.sc (Value.int IntKind.i64 0),Lf.sc (Value.bool false),Lf.sc (Value.bool false),Lf.sc (Value.int IntKind.i64 0),Lf.sc (Value.int IntKind.i64 0),Lf.sc (Value.string ⟨#[]⟩)] [],Lf.ls [Lf.sc (Value.string ⟨#[]⟩)] []] ((insW (fun y=> !tabLt t y) t c.fTables).map eTable))])]:=by
 refine vc_of_ewF good hm [0,1,2,3,4,5,6,11,12,13,14,8,25,40] Tryz.func256 rfl (by kernel_rfl) (by kernel_rfl) rfl ?_
 simp[Tryz.f256]
 refine ew_loop (fun E=> ∃i:Nat,i≤c.fTables.length∧E= {nt:=48,sl:= [(3,.p (.bx 3 0)),(4,.p (.bx 4 0)),(5,.p (.bx 5 0)),(6,bool (anyT (fun y=>tabLt t y) c.fTables i)),(11,vTableS c.fTables),(12,int .i64 c.fTables.length),(13,int .i64 i)],bx:= [(3,cTable t),(4,[.n [Lf.sc (Value.string ⟨#[]⟩),Lf.ls [Lf.sc (Value.string ⟨#[]⟩),Lf.sc (Value.int IntKind.i64 0),Lf.sc (Value.bool false),Lf.sc (Value.bool false),Lf.sc (Value.int IntKind.i64 0),Lf.sc (Value.int IntKind.i64 0),Lf.sc (Value.string ⟨#[]⟩)] [],Lf.ls [Lf.sc (Value.string ⟨#[]⟩)] []]]),(5,[.r [990]])],rt:= [(990,.o 202 (fun _=> [.s,.s,.s]),.ls [Lf.sc (Value.string ⟨#[]⟩),Lf.ls [Lf.sc (Value.string ⟨#[]⟩),Lf.sc (Value.int IntKind.i64 0),Lf.sc (Value.bool false),Lf.sc (Value.bool false),Lf.sc (Value.int IntKind.i64 0),Lf.sc (Value.int IntKind.i64 0),Lf.sc (Value.string ⟨#[]⟩)] [],Lf.ls [Lf.sc (Value.string ⟨#[]⟩)] []] ((layTo (fun y=>tabLt t y) t c.fTables i).map eTable))]}) (fun E=>c.fTables.length- (E.num 13).toNat) _ ((Gh.nlB _ 5 0 990 202 (fun _=> [.s,.s,.s]) [Lf.sc (Value.string ⟨#[]⟩),Lf.ls [Lf.sc (Value.string ⟨#[]⟩),Lf.sc (Value.int IntKind.i64 0),Lf.sc (Value.bool false),Lf.sc (Value.bool false),Lf.sc (Value.int IntKind.i64 0),Lf.sc (Value.int IntKind.i64 0),Lf.sc (Value.string ⟨#[]⟩)] [],Lf.ls [Lf.sc (Value.string ⟨#[]⟩)] []]).trans (Gh.kb _ [3,4,5,6,11,12,13] [3,4,5] [990])) ⟨0,by omega,by simp[layTo_zero,anyT_zero]⟩ ?_
 rintro E1 ⟨i,hi,rfl⟩
 have hL:=layTo_len (fun y=>tabLt t y) t c.fTables i
 simp
 have hs:=layTo_succ (fun y=>tabLt t y) t dTable (l:=c.fTables) (i:=i)
 have ha:=anyT_succ (fun y=>tabLt t y) dTable (l:=c.fTables) (i:=i)
 refine ⟨fun h=>⟨h,fun q1 q2=>⟨by omega,by omega,.of _ ((Gh.kb _ [3,4,5,6,11,12,13] [3,4,5] [36]).trans (Gh.rn _ 36 990)) ⟨i+1,by omega, ?_⟩ ?_⟩,fun q=>⟨by omega,.of _ ((Gh.kb _ [3,4,5,6,11,12,13] [3,4,5] [36]).trans (Gh.rn _ 36 990)) ⟨i+1,by omega, ?_⟩ ?_⟩⟩,fun h=> ?_⟩
 ·replace hs:=hs h
  replace ha:=ha h
  rw[if_pos ⟨q1,q2⟩] at hs
  rw[q1,show tabLt t (c.fTables[i]?.getD dTable)=true from q2] at ha
  rw[hs,ha]
  simp[wrapS (show i<9223372036854775807 by omega),eTable]
 ·simp[wrapS (show i<9223372036854775807 by omega)];omega
 ·replace hs:=hs h
  replace ha:=ha h
  have hq: ¬((c.fTables.take i).any (fun y=>tabLt t y)=false∧tabLt t (c.fTables[i]?.getD dTable)=true):=fun ⟨q1,q2⟩=>by
   have:=q q1
   rw[show Op.bytesLess t.fName.toList (c.fTables[i]?.getD dTable).fName.toList=true from q2] at this
   cases this
  rw[if_neg hq] at hs
  have ha2:anyT (fun y=>tabLt t y) c.fTables (i+1)=anyT (fun y=>tabLt t y) c.fTables i:=by
   rw[ha]
   cases hx:anyT (fun y=>tabLt t y) c.fTables i with
   |true=>rfl
   |false=>
    rw[Bool.false_or]
    exact q hx
  rw[hs,ha2]
  simp[wrapS (show i<9223372036854775807 by omega),eTable]
 ·simp[wrapS (show i<9223372036854775807 by omega)];omega
 ·have:i=c.fTables.length:=by omega
  subst this
  have he:=layTo_end (fun y=>tabLt t y) t c.fTables
  have hfu: ∀l:List GTable,Full (Md.o 202 (fun _=> [Md.s,Md.s,Md.s])) (.ls [Lf.sc (Value.string ⟨#[]⟩),Lf.ls [Lf.sc (Value.string ⟨#[]⟩),Lf.sc (Value.int IntKind.i64 0),Lf.sc (Value.bool false),Lf.sc (Value.bool false),Lf.sc (Value.int IntKind.i64 0),Lf.sc (Value.int IntKind.i64 0),Lf.sc (Value.string ⟨#[]⟩)] [],Lf.ls [Lf.sc (Value.string ⟨#[]⟩)] []] (l.map eTable)):=fun l=>Full_rowsF (fun i x j hj=>match j,hj with|0,_=> .s|1,_=> .s|2,_=> .s|n+3,hj=>absurd hj (by simp)) l
  refine ⟨fun q=> ?_,fun q=> ?_⟩
  ·rw[anyT_all] at q
   rw[q] at he
   refine ⟨by omega, ?_⟩
   rw[he]
   simp[eTable]
  ·rw[anyT_all] at q
   rw[q,if_pos rfl] at he
   rw[he]
theorem l02Fault_ok (t:GTable) (d:GDdl) (ht:bdTable t) (hd2:ddlOk d=true):VC Tryz.prog 257 [vTable t,vDdl d] [(false,[(.s,.sc (.int .i64 (tabCode t d)))])]:=by
 have hc:okM t.fCols.length:=by have:=ht.1;unfold okM;omega
 have hk:okM t.fKeys.length:=by have:=ht.2;unfold okM;omega
 refine vc_of_ew good hm [0,1,2,3,4,5,11,12,21,25,26,29,34,35,41,43] Tryz.func257 rfl (by kernel_rfl) (by kernel_rfl) rfl ?_
 simp[Tryz.f257]
 refine .of (colAtS_ok t d.fName hc) ?_
 simp
 have hE:tabCode t d=if (d.fKind=3∧0≤colAt t (col0 d).fName)∨(d.fKind=5∧0≤colAt t d.fTo) then 5 else
  if d.fKind=3∧t.fCols.length=8 then 6 else
  if (d.fKind=4∨d.fKind=5)∧colAt t d.fName<0 then 7 else
  if d.fKind=4∧has t.fKeys d.fName=true then 8 else 0:=rfl
 by_cases k3:d.fKind=3
 ·have hl:=(ddlOk_3 hd2 k3).1
  simp[k3] at hE⊢
  refine ⟨by omega,.of (colAtS_ok t (col0 d).fName hc) ?_⟩
  simp
  grind
 by_cases k4:d.fKind=4
 ·simp[k3,k4] at hE⊢
  refine ⟨fun h=>by rw[hE,if_pos h],fun h=> .of (l02Has_ok t.fKeys d.fName hk) ?_⟩
  simp
  grind
 by_cases k5:d.fKind=5
 ·simp[k3,k4,k5] at hE⊢
  refine .of (colAtS_ok t d.fTo hc) ?_
  simp
  grind
 ·simp[k3,k4,k5] at hE⊢
  exact hE.symm
def colsCh (d:GDdl) (l:List GCol):List GCol:=if d.fKind=4 then l.filter (fun c=> !(c.fName.toList==d.fName.toList)) else if d.fKind=5 then l.map (renC d.fName d.fTo) else l
theorem colsCh_succ (d:GDdl) {l:List GCol} {i:Nat} (h:i<l.length):colsCh d (l.take (i+1))=if d.fKind=4∧(l[i]?.getD dCol).fName.toList=d.fName.toList then colsCh d (l.take i) else if d.fKind=5 then colsCh d (l.take i)++ [renC d.fName d.fTo (l[i]?.getD dCol)] else colsCh d (l.take i)++ [l[i]?.getD dCol]:=by
 rw[take_row dCol h]
 unfold colsCh
 by_cases k4:d.fKind=4
 ·simp only[k4,if_true,List.filter_append]
  by_cases e:(l[i]?.getD dCol).fName.toList=d.fName.toList
  ·simp[e]
  ·simp[e]
 ·by_cases k5:d.fKind=5<;>simp[k4,k5]
theorem colsCh_len (d:GDdl) (l:List GCol):(colsCh d l).length≤l.length:=by
 unfold colsCh
 split
 ·exact List.length_filter_le _ _
 split<;>simp
def fTable (t:GTable):ML:= [(Md.s,Lf.sc (Value.string t.fName)),(Md.s,Lf.ls [Lf.sc (Value.string ⟨#[]⟩),Lf.sc (Value.int IntKind.i64 0),Lf.sc (Value.bool false),Lf.sc (Value.bool false),Lf.sc (Value.int IntKind.i64 0),Lf.sc (Value.int IntKind.i64 0),Lf.sc (Value.string ⟨#[]⟩)] (t.fCols.map eCol)),(Md.s,Lf.ls [Lf.sc (Value.string ⟨#[]⟩)] (t.fKeys.map eStr))]
def keyCh (d:GDdl) (k:ByteArray):ByteArray:=if d.fKind=5 then renS d.fName d.fTo k else k
theorem tabCh_eq (t:GTable) (d:GDdl):tabCh t d=if d.fKind=3 then ⟨t.fName,colsCh d t.fCols++ [col0 d],t.fKeys.map (keyCh d)⟩ else ⟨t.fName,colsCh d t.fCols,t.fKeys.map (keyCh d)⟩:=by
 have hk: ∀l:List ByteArray,d.fKind≠5→l.map (keyCh d)=l:=fun l h5=>by
  conv=>rhs;rw[←List.map_id l]
  exact List.map_congr_left fun x _=>by simp[keyCh,h5]
 have hk5: ∀l:List ByteArray,d.fKind=5→l.map (keyCh d)=l.map (renS d.fName d.fTo):=fun l h5=>List.map_congr_left fun x _=>by simp[keyCh,h5]
 unfold tabCh colsCh
 by_cases k3:d.fKind=3
 ·simp[k3,hk]
 by_cases k4:d.fKind=4
 ·simp[k4,hk]
 by_cases k5:d.fKind=5
 ·simp[k5,hk5]
 ·simp[k3,k4,k5,hk]
theorem l02Change_ok (t:GTable) (d:GDdl) (ht:bdTable t) (hd2:ddlOk d=true) (k1:d.fKind≠1) (k2:d.fKind≠2):VC Tryz.prog 258 [vTable t,vDdl d] [(true,fTable (tabCh t d))]:=by
 obtain ⟨ht1,ht2⟩:=ht
 refine vc_of_ewF good hm [0,1,2,3,4,5,17,18,19,20,7,32,42,55,56,57,8,71,81] Tryz.func258 rfl (by kernel_rfl) (by kernel_rfl) rfl ?_
 simp[Tryz.f258,fTable]
 refine ⟨by omega, ?_⟩
 refine ew_loop (fun E=> ∃i:Nat,i≤t.fCols.length∧E= {nt:=92,sl:= [(3,.p (.bx 3 0)),(4,.p (.bx 4 0)),(5,.p (.pt [5] 3 0 0)),(17,vColS t.fCols),(18,int .i64 t.fCols.length),(19,int .i64 i)],bx:= [(3,cDdl d),(4,[.s (.sc (.string ⟨#[]⟩)),.n [Lf.sc (Value.string ⟨#[]⟩),Lf.sc (Value.int IntKind.i64 0),Lf.sc (Value.bool false),Lf.sc (Value.bool false),Lf.sc (Value.int IntKind.i64 0),Lf.sc (Value.int IntKind.i64 0),Lf.sc (Value.string ⟨#[]⟩)],.n [.sc (.string ⟨#[]⟩)]])],rt:= [(5,(Md.o 202 (fun _=> [Md.s,(Md.o 154 (fun _=> [Md.s,Md.s,Md.s,Md.s,Md.s,Md.s,Md.s])),Md.o 9 (fun _=> [Md.s])])),.ls [Lf.sc (Value.string ⟨#[]⟩),Lf.ls [Lf.sc (Value.string ⟨#[]⟩),Lf.sc (Value.int IntKind.i64 0),Lf.sc (Value.bool false),Lf.sc (Value.bool false),Lf.sc (Value.int IntKind.i64 0),Lf.sc (Value.int IntKind.i64 0),Lf.sc (Value.string ⟨#[]⟩)] [],Lf.ls [Lf.sc (Value.string ⟨#[]⟩)] []] [eTable ⟨t.fName,colsCh d (t.fCols.take i),t.fKeys⟩])]}) (fun E=>t.fCols.length- (E.num 19).toNat) _ (Gh.kb _ [3,4,5,17,18,19] [3,4] [5]) ⟨0,by omega,by simp[colsCh,eTable]⟩ ?_
 rintro E1 ⟨i,hi,rfl⟩
 have hcl:=colsCh_len d (t.fCols.take i)
 have hcs:=fun h=>colsCh_succ d (l:=t.fCols) (i:=i) h
 rw[List.length_take] at hcl
 simp[eTable,md,lf,List.range']
 have hmd:(fun k:Nat=>if k=0 then [Md.s,(Md.o 154 (fun _=> [Md.s,Md.s,Md.s,Md.s,Md.s,Md.s,Md.s])),Md.o 9 (fun _=> [Md.s])] else if k=0 then [Md.s,Md.x,Md.o 9 (fun _=> [Md.s])] else [Md.s,(Md.o 154 (fun _=> [Md.s,Md.s,Md.s,Md.s,Md.s,Md.s,Md.s])),Md.o 9 (fun _=> [Md.s])])=fun _=> [Md.s,(Md.o 154 (fun _=> [Md.s,Md.s,Md.s,Md.s,Md.s,Md.s,Md.s])),Md.o 9 (fun _=> [Md.s])]:=by
  funext k
  by_cases hj:k=0<;>simp[hj]
 refine ⟨fun h=>⟨h,fun k4 q=> .of _ (Gh.kb _ [3,4,5,17,18,19] [3,4] [5]) ⟨i+1,by omega, ?_⟩ ?_,fun q=>⟨fun k5 e=>⟨by omega,.of _ (Gh.kb _ [3,4,5,17,18,19] [3,4] [5]) ⟨i+1,by omega, ?_⟩ ?_⟩,fun e=>⟨by omega,.of _ (Gh.kb _ [3,4,5,17,18,19] [3,4] [5]) ⟨i+1,by omega, ?_⟩ ?_⟩⟩⟩,fun h=> ?_⟩
 ·rw[hcs h,if_pos ⟨k4,q⟩]
  simp[wrapS (show i<9223372036854775807 by omega),eTable]
 ·simp[wrapS (show i<9223372036854775807 by omega)];omega
 ·rw[hcs h,if_neg (fun g=>q g.1 g.2),if_pos k5]
  simp[wrapS (show i<9223372036854775807 by omega),eTable,renC,e,eCol,hmd]
 ·simp[wrapS (show i<9223372036854775807 by omega)];omega
 ·have:colsCh d (t.fCols.take (i+1))=colsCh d (t.fCols.take i)++ [t.fCols[i]?.getD dCol]:=by
   rw[hcs h,if_neg (fun g=>q g.1 g.2)]
   split
   ·rename_i k5
    rw[renC_no (fun e2=>e k5 (by rw[e2]))]
   ·rfl
  rw[this]
  simp[wrapS (show i<9223372036854775807 by omega),eTable,eCol,hmd]
 ·simp[wrapS (show i<9223372036854775807 by omega)];omega
 ·have:i=t.fCols.length:=by omega
  subst this
  rw[List.take_length] at hcl⊢
  refine ew_loop (fun E=> ∃j:Nat,j≤t.fKeys.length∧E= {nt:=92,sl:= [(3,.p (.bx 3 0)),(4,.p (.bx 4 0)),(5,.p (.pt [5] 3 0 0)),(55,int .i64 t.fKeys.length),(56,int .i64 j)],bx:= [(3,cDdl d),(4,[.s (.sc (.string ⟨#[]⟩)),.n [Lf.sc (Value.string ⟨#[]⟩),Lf.sc (Value.int IntKind.i64 0),Lf.sc (Value.bool false),Lf.sc (Value.bool false),Lf.sc (Value.int IntKind.i64 0),Lf.sc (Value.int IntKind.i64 0),Lf.sc (Value.string ⟨#[]⟩)],.n [.sc (.string ⟨#[]⟩)]])],rt:= [(5,(Md.o 202 (fun _=> [Md.s,(Md.o 154 (fun _=> [Md.s,Md.s,Md.s,Md.s,Md.s,Md.s,Md.s])),Md.o 9 (fun _=> [Md.s])])),.ls [Lf.sc (Value.string ⟨#[]⟩),Lf.ls [Lf.sc (Value.string ⟨#[]⟩),Lf.sc (Value.int IntKind.i64 0),Lf.sc (Value.bool false),Lf.sc (Value.bool false),Lf.sc (Value.int IntKind.i64 0),Lf.sc (Value.int IntKind.i64 0),Lf.sc (Value.string ⟨#[]⟩)] [],Lf.ls [Lf.sc (Value.string ⟨#[]⟩)] []] [eTable ⟨t.fName,colsCh d t.fCols,chTo (keyCh d) t.fKeys j⟩])]}) (fun E=>t.fKeys.length- (E.num 56).toNat) _ (Gh.kb _ [3,4,5,55,56] [3,4] [5]) ⟨0,by omega,by simp[chTo_zero,eTable]⟩ ?_
  rintro E1 ⟨j,hj,rfl⟩
  have hlen:=chTo_len (keyCh d) t.fKeys j
  have hget:=chTo_get (keyCh d) t.fKeys j
  have hsu:=fun h=>chTo_succ (keyCh d) (⟨#[]⟩:ByteArray) (l:=t.fKeys) (i:=j) h
  have hal:=chTo_all (keyCh d) t.fKeys
  generalize hM:chTo (keyCh d) t.fKeys j=M at hlen hget hsu
  simp[eTable,md,lf,List.range',hlen]
  have hg: ∀h:j<t.fKeys.length,M[j]?.getD ⟨#[]⟩=t.fKeys[j]?.getD ⟨#[]⟩:=fun _=>by rw[hget]
  refine ⟨fun h=>⟨fun k5=>⟨k5,h⟩,fun k5 e=>⟨h,.of _ (Gh.kb _ [3,4,5,55,56] [3,4] [5]) ⟨j+1,by omega, ?_⟩ ?_⟩,fun e=> .of _ (Gh.kb _ [3,4,5,55,56] [3,4] [5]) ⟨j+1,by omega, ?_⟩ ?_⟩,fun h=> ?_⟩
  ·rw[hsu h,List.map_set]
   rw[hg h] at e
   simp[wrapS (show j<9223372036854775807 by omega),eTable,hmd,keyCh,k5,renS,e]
  ·simp[wrapS (show j<9223372036854775807 by omega)];omega
  ·have:M.set j (keyCh d (t.fKeys[j]?.getD ⟨#[]⟩))=M:=by
    have h1:keyCh d (t.fKeys[j]?.getD ⟨#[]⟩)=M[j]'(by omega):=by
     have h2:=hg h
     rw[List.getElem?_eq_getElem (l:=M) (by omega)] at h2
     simp only[Option.getD_some] at h2
     unfold keyCh
     split
     ·rename_i k5
      rw[(renS_eq _ _ _).2 (fun e2=>e k5 (by rw[hg h,e2])),h2]
     ·exact h2.symm
    rw[h1]
    exact List.set_getElem_self ..
   rw[hsu h,this]
   simp[wrapS (show j<9223372036854775807 by omega),eTable]
  ·simp[wrapS (show j<9223372036854775807 by omega)];omega
  ·have:j=t.fKeys.length:=by omega
   subst this
   rw[hM] at hal
   rw[hal,tabCh_eq]
   refine ⟨fun k3=>⟨by have:=(ddlOk_3 hd2 k3).1;omega,by omega, ?_⟩,fun k3=> ?_⟩
   ·simp[k3,eCol,col0]
   ·simp[k3]
end Go.Proofs.YtanlbohhmoifcaaGreat
namespace Go.Proofs.YtanlbohhmoifcaaGreat
open Go Go.Proofs Go.Sm
attribute [local simp] ti eStr eInt eByte eVal vVal eCol vCol vColS vStrS eTable cTable vTable vTableS cCat vCat eValS vValS eRow cRow vRow vRowS eRows vRowsS cDb vDb eDdl cDdl vDdl eStmt cStmt vStmt eRec vRec eSlot vSlot eRecS vRecS eSlotS vSlotS vStmtS
set_option linter.unusedVariables false
set_option linter.unusedSimpArgs false
theorem full_sT (cols:Nat→List Md) (hc: ∀i,cols i= [Md.s,(Md.o 154 (fun _=> [Md.s,Md.s,Md.s,Md.s,Md.s,Md.s,Md.s])),Md.o 9 (fun _=> [Md.s])]∨cols i= [Md.s,Md.s,Md.s]) (l:List GTable):Full (Md.o 202 cols) (.ls [Lf.sc (Value.string ⟨#[]⟩),Lf.ls [Lf.sc (Value.string ⟨#[]⟩),Lf.sc (Value.int IntKind.i64 0),Lf.sc (Value.bool false),Lf.sc (Value.bool false),Lf.sc (Value.int IntKind.i64 0),Lf.sc (Value.int IntKind.i64 0),Lf.sc (Value.string ⟨#[]⟩)] [],Lf.ls [Lf.sc (Value.string ⟨#[]⟩)] []] (l.map eTable)):=by
 refine Full_rowsF (fun i x j hj=> ?_) _
 rcases hc i with h|h<;>rw[h]
 ·exact (match j,hj with
  |0,_=> .s
  |1,_=>of_eq_true (full_ColS x.fCols)
  |2,_=>of_eq_true (full_StrS x.fKeys)
  |n+3,hj=>absurd hj (by simp))
 ·exact (match j,hj with
  |0,_=> .s
  |1,_=> .s
  |2,_=> .s
  |n+3,hj=>absurd hj (by simp))
theorem ddlApplyS_ok (c:GCat) (d:GDdl) (hc:okCat c) (hd:okDdl d) (h1:d.fCols.length≤1048576) (h2:d.fKeys.length≤1048576):VC Tryz.prog 226 [vCat c,vDdl d] [(true,fCat (ddlApply c d).1),(false,[(.s,.sc (.int .i64 (ddlApply c d).2))])]:=by
 refine vc_of_ewF good hm [0,1,2,3,4,5,16,6,7,26,28,33,46,8,56,61] Tryz.func226 rfl (by kernel_rfl) (by kernel_rfl) rfl ?_
 simp[Tryz.f226,fCat]
 refine .of (catOkS_ok c hc) ?_
 simp
 refine .of (fun g=>⟨g,ddlOkS_ok d hd⟩) ?_
 simp
 have hE:ddlApply c d=if catOk c=false∨ddlOk d=false then (⟨[]⟩,1) else if ddlCode c d≠0 then (⟨[]⟩,ddlCode c d) else (catCh c d,0):=rfl
 refine ⟨fun h=>by rw[hE,if_pos h];simp,fun h3 h4=> ?_⟩
 rw[if_neg (by simp[h3,h4])] at hE
 obtain ⟨hcl,hct⟩:=(catOk_ok h3).2
 have hat:=l02At_ok c d.fTable hc.1.1
 have hb:=tabAt_bd c.fTables d.fTable
 have hcp:=l02Copy_ok c (by omega) (fun t ht=>(hct t ht).2)
 have hE1:d.fKind=1→ddlCode c d=if 0≤tabAt c.fTables d.fTable then 2 else if c.fTables.length=6 then 3 else 0:=fun h=>by simp[ddlCode,h]
 have hE2:d.fKind≠1→ddlCode c d=if tabAt c.fTables d.fTable<0 then 4 else tabCode (tabOf c d.fTable) d:=fun h=>by simp[ddlCode,h]
 by_cases k1:d.fKind=1
 ·refine .of hat ?_
  simp
  refine .of (hcp.frz (by simp[FullRs,FullML,mCat])) ?_
  simp[mCat,k1]
  have hE1:=hE1 k1
  refine ⟨fun q=>by
   have:ddlCode c d=2:=by rw[hE1,if_pos q]
   rw[hE,this]
   simp,fun q=>⟨fun q2=>by
   have:ddlCode c d=3:=by rw[hE1,if_neg (by omega),if_pos (by omega)]
   rw[hE,this]
   simp,fun q2=> ?_⟩⟩
  rw[if_neg (by omega),if_neg (by omega)] at hE1
  rw[hE,hE1]
  refine .of ((l02Table_ok (madeT d) ⟨h1,h2⟩).frz (by simp[FullRs,FullML,mTable])) ?_
  simp[mTable]
  refine .of (l02Put_ok c (madeT d) (by omega)) ?_
  simp
  have hne:=(ddlCode_0 hE1).1 k1
  unfold catCh
  rw[if_pos k1]
  have:insW (fun y=> !tabLt (madeT d) y) (madeT d) c.fTables=insW (fun y=>tabLt y (madeT d)) (madeT d) c.fTables:=insW_congr _ fun y hy=>by
   rcases tabLt_total (a:=y) (b:=madeT d) (fun e=>hne.1 y hy e) with h|h
   ·rw[h,tabLt_asymm h];rfl
   ·rw[h,tabLt_asymm h];rfl
  rw[this]
 ·have hE2:=hE2 k1
  by_cases ht:tabAt c.fTables d.fTable<0
  ·rw[if_pos ht] at hE2
   refine .of hat ?_
   simp
   refine .of (hcp.frz (by simp[FullRs,FullML,mCat])) ?_
   simp[mCat,k1,ht]
   rw[hE,hE2]
   simp
  ·rw[if_neg ht] at hE2
   obtain ⟨k,hk⟩: ∃k:Nat,tabAt c.fTables d.fTable=k:=⟨_,(Int.toNat_of_nonneg (by omega)).symm⟩
   have hkl:k<c.fTables.length:=by omega
   have hk0: ¬((k:Int)<0):=by omega
   rw[hk] at hat
   have htk:tabOf c d.fTable=c.fTables[k]:=by
    unfold tabOf
    rw[hk]
    simp[hkl]
   rw[htk] at hE2
   have hm:c.fTables[k]∈c.fTables:=List.getElem_mem hkl
   have hbt:=(hct _ hm).2
   have hfa:=l02Fault_ok c.fTables[k] d hbt h4
   by_cases k2:d.fKind=2
   ·refine .of hat ?_
    simp
    refine .of (hcp.frz (by simp[FullRs,FullML,mCat])) ?_
    simp[mCat,k1,hk0,hkl,eTable]
    refine .of hfa ?_
    simp[k2]
    refine ⟨fun h=>by rw[hE,hE2,if_pos h];simp,fun h=> ?_⟩
    rw[hE,hE2,if_neg (by simp[h])]
    have hw:=wrapS (show k<9223372036854775807 by omega)
    have hcc:(catCh c d).fTables=c.fTables.eraseIdx k:=by
     unfold catCh
     rw[if_neg k1,if_pos k2,hk]
     rfl
    rw[hw]
    refine ⟨by omega,by omega,⟨by omega,by omega⟩,by omega, ?_,rfl⟩
    show _=(catCh c d).fTables.map eTable
    rw[hcc,List.eraseIdx_eq_take_drop_succ,List.take_of_length_le (l:=c.fTables.map eTable) (i:=c.fTables.length) (by simp)]
    simp
   ·refine .of hat ?_
    simp
    refine .of hcp ?_
    simp[mCat,k1,hk0,hkl,eTable]
    refine .of hfa ?_
    simp[k2]
    refine ⟨fun h=>by rw[hE,hE2,if_pos h];simp[FullRs,FullML],fun h=> ?_⟩
    rw[hE,hE2,if_neg (by simp[h])]
    refine ⟨hkl, ?_⟩
    have hlc:=l02Change_ok c.fTables[k] d hbt h4 k1 k2
    simp only[List.getElem?_eq_getElem hkl,Option.getD_some]
    refine .of hlc ?_
    simp[fTable,md,lf,eTable,List.range',hkl,FullRs,FullML]
    have hset:(catCh c d).fTables=c.fTables.set k (tabCh c.fTables[k] d):=by
     unfold catCh
     rw[if_neg k1,if_neg k2,hk,htk]
     rfl
    have hfin:(c.fTables.map eTable).set k (eTable (tabCh c.fTables[k] d))=(catCh c d).fTables.map eTable:=by
     rw[hset,List.map_set]
    refine ⟨?_,hfin⟩
    have hfu:=full_sT (fun j=>if j=k then [Md.s,Md.s,Md.s] else [Md.s,(Md.o 154 (fun _=> [Md.s,Md.s,Md.s,Md.s,Md.s,Md.s,Md.s])),Md.o 9 (fun _=> [Md.s])]) (fun i=>by by_cases h:i=k<;>simp[h]) (catCh c d).fTables
    rw[←hfin] at hfu
    exact hfu
end Go.Proofs.YtanlbohhmoifcaaGreat
namespace Go.Proofs.YtanlbohhmoifcaaGreat
open Go Go.Proofs Go.Sm
attribute [local simp] ti eStr eInt eByte eVal vVal eCol vCol vColS vStrS eTable cTable vTable vTableS cCat vCat eValS vValS eRow cRow vRow vRowS eRows vRowsS cDb vDb eDdl cDdl vDdl eStmt cStmt vStmt eRec vRec eSlot vSlot eRecS vRecS eSlotS vSlotS vStmtS
set_option linter.unusedVariables false
set_option linter.unusedSimpArgs false
def bdDb (d:GDb):Prop:=(d.fCat.fTables.length≤1048576∧ ∀t∈d.fCat.fTables,bdTable t)∧d.fData.length≤1048576∧ ∀r∈d.fData,r.fRows.length≤1048576∧ ∀x∈r.fRows,x.fVals.length≤1048576
theorem dbOk_bd {d:GDb} (h:dbOk d=true):bdDb d:=by
 obtain ⟨_,h1,h2⟩:=catOk_ok (dbOk_cat h)
 refine ⟨⟨by omega,fun t ht=>(h2 t ht).2⟩,by have:=dbOk_len h;omega,fun r hr=> ?_⟩
 obtain ⟨t,ht,hr2⟩:=dbOk_rows h r hr
 have:=rowsOk_ok hr2
 exact ⟨by omega,fun x hx=>by have:=this.2.2 x hx;omega⟩
theorem copyDb_ok (d:GDb) (h:bdDb d):VC Tryz.prog 103 [vDb d] [(true,mDb d)]:=by
 obtain ⟨⟨h1,h2⟩,h3,h4⟩:=h
 refine vc_of_ew good hm [0,1,2,3,11,12,13,14,5] Tryz.func103 rfl (by kernel_rfl) (by kernel_rfl) rfl ?_
 simp[Tryz.f103,mDb]
 refine .of (copyCat_ok d.fCat h1 h2) ?_
 simp[mCat]
 refine ew_loop (fun E=> ∃i:Nat,i≤d.fData.length∧E= {nt:=28,sl:= [(2,.p (.bx 2 0)),(3,.p (.bx 3 0)),(11,vRowsS d.fData),(12,int .i64 d.fData.length),(13,int .i64 i)],bx:= [(2,[.n [Lf.sc (Value.string ⟨#[]⟩),Lf.ls [Lf.sc (Value.string ⟨#[]⟩),Lf.sc (Value.int IntKind.i64 0),Lf.sc (Value.bool false),Lf.sc (Value.bool false),Lf.sc (Value.int IntKind.i64 0),Lf.sc (Value.int IntKind.i64 0),Lf.sc (Value.string ⟨#[]⟩)] [],Lf.ls [Lf.sc (Value.string ⟨#[]⟩)] []],.n [Lf.ls [Lf.ls [Lf.sc (Value.int IntKind.i64 0),Lf.sc (Value.int IntKind.i64 0),Lf.sc (Value.string ⟨#[]⟩)] []] []]]),(3,[.r [8],.r [990]])],rt:=((mRowsS (d.fData.take i)).map fun y=>(990,y))++((mTableS d.fCat.fTables).map fun y=>(8,y))}) (fun E=>d.fData.length- (E.num 13).toNat) _ ((Gh.nlB _ 3 1 990 179 (fun _=> [(Md.o 58 (fun _=> [(Md.o 152 (fun _=> [Md.s,Md.s,Md.s]))]))]) [Lf.ls [Lf.ls [Lf.sc (Value.int IntKind.i64 0),Lf.sc (Value.int IntKind.i64 0),Lf.sc (Value.string ⟨#[]⟩)] []] []]).trans (Gh.kb _ [2,3,11,12,13] [2,3] [990,8])) ⟨0,by omega,by simp[mRowsS,mTableS]⟩ ?_
 rintro E1 ⟨i,hi,rfl⟩
 simp[mRowsS,mTableS]
 refine ⟨fun h=>⟨h,.of (copyRows_ok _ (h4 _ (getD_mem dRows h)).1 (h4 _ (getD_mem dRows h)).2) ?_⟩,fun h=> ?_⟩
 ·simp[mRowS]
  refine ⟨by omega,.of _ ((Gh.kb _ [2,3,11,12,13] [2,3] [24,8]).trans (Gh.rn _ 24 990)) ⟨i+1,by omega, ?_⟩ ?_⟩
  ·rw[take_rowM dRows h]
   simp[wrapS (show i<9223372036854775807 by omega),mRowsS,mTableS,eRows]
  ·simp[wrapS (show i<9223372036854775807 by omega)];omega
 ·have:i=d.fData.length:=by omega
  subst this
  rw[←List.map_take,List.take_length]
theorem changed_ok (d:GDb) (x:GDdl) (hd:dbOk d=true) (hx:okDdl x) (h1:x.fCols.length≤1048576) (h2:x.fKeys.length≤1048576):VC Tryz.prog 219 [vDb d,vDdl x] [(true,mDb (dbCh d x).1),(false,[(.s,.sc (.int .i64 (dbCh d x).2))])]:=by
 have hod:=dbOk_ok hd
 have hco:=catOk_ok (dbOk_cat hd)
 refine vc_of_ew good hm [0,1,2,3,4,5,6,7,20,8,9,31,55,67,10] Tryz.func219 rfl (by kernel_rfl) (by kernel_rfl) rfl ?_
 simp[Tryz.f219,mDb]
 refine .of (ddlApplyI_ok d.fCat x hco.1 hx h1 h2) ?_
 have hE:dbCh d x=if (ddlApply d.fCat x).2≠0 then (dDb,(ddlApply d.fCat x).2) else (⟨catCh d.fCat x,dataCh d x⟩,0):=rfl
 simp[mCat]
 refine ⟨fun h=>by rw[hE,if_pos h];simp[dDb,dCat],fun h3=> .of (copyDb_ok d (dbOk_bd hd)) ?_⟩
 rw[if_neg (by simp[h3])] at hE
 obtain ⟨q1,q2,q3,q4⟩:=ddlApply_ok h3
 rw[hE]
 have hz:=ddlCode_0 q3
 rw[q4]
 simp[mDb]
 have hl:=dbOk_len hd
 by_cases k1:x.fKind=1
 ·refine .of (at_ok d.fCat x.fTable hco.1.1.1) ?_
  simp[k1]
  have hcc:=catCh_ok q1 q2 q3
  have hca:=at_ok (catCh d.fCat x) x.fTable (by have:=(catOk_ok hcc).2.1;unfold okM;omega)
  have hn:(tabAt (catCh d.fCat x).fTables x.fTable)=((tabAt (catCh d.fCat x).fTables x.fTable).toNat:Nat):=by
   have h4:0≤tabAt (catCh d.fCat x).fTables x.fTable:=(tabAt_nn _ _).2 ⟨madeT x,by unfold catCh;rw[if_pos k1];exact insW_mem.2 (.inl rfl),rfl⟩
   omega
  have hnl:(tabAt (catCh d.fCat x).fTables x.fTable).toNat≤d.fData.length:=by
   rw[insW_tab q1 q2 k1 q3,hl]
   exact takeW_len _ _
  have hdc:dataCh d x=insAt d.fData (tabAt (catCh d.fCat x).fTables x.fTable).toNat ⟨[]⟩:=by unfold dataCh;rw[if_pos k1]
  generalize (tabAt (catCh d.fCat x).fTables x.fTable).toNat=n at hn hnl hdc
  rw[hn] at hca
  refine .of hca ?_
  simp
  refine ⟨of_eq_true (full_RowsS [⟨[]⟩]),.use (vx_ins (i:=n) (rows:=d.fData.map eRows) (row:=eRows ⟨[]⟩) (z:= [Lf.ls [Lf.ls [Lf.sc (Value.int IntKind.i64 0),Lf.sc (Value.int IntKind.i64 0),Lf.sc (Value.string ⟨#[]⟩)] []] []]) (cols:=fun _=> [(Md.o 58 (fun _=> [(Md.o 152 (fun _=> [Md.s,Md.s,Md.s]))]))]) (cols':=fun _=> [(Md.o 58 (fun _=> [(Md.o 152 (fun _=> [Md.s,Md.s,Md.s]))]))]) ⟨_,_,Tryz.func247,rfl,by kernel_rfl⟩ rawIns_Rows (by decide) (by decide) rfl (by simp;omega) (by simp;omega)) ?_⟩
  simp[colsI_const]
  rw[hdc]
  simp[insAt,eRows]
 ·obtain ⟨z1,z2⟩:=hz.2 k1
  obtain ⟨k,hk⟩: ∃k:Nat,tabAt d.fCat.fTables x.fTable=k:=⟨_,(Int.toNat_of_nonneg z1).symm⟩
  have hat:=at_ok d.fCat x.fTable hco.1.1.1
  have hb:=tabAt_bd d.fCat.fTables x.fTable
  have hkl:k<d.fCat.fTables.length:=by omega
  have hkd:k<d.fData.length:=by omega
  rw[hk] at hat
  refine .of hat ?_
  simp[k1]
  have htk:tabOf d.fCat x.fTable=d.fCat.fTables[k]:=by
   unfold tabOf
   rw[hk]
   simp[hkl]
  have hix:dbIx d x.fTable=k:=by unfold dbIx;rw[hk];rfl
  have hdk:dataOf d k=d.fData[k].fRows:=by unfold dataOf;simp[hkd]
  have hm:d.fCat.fTables[k]∈d.fCat.fTables:=List.getElem_mem hkl
  have hmd:d.fData[k]∈d.fData:=List.getElem_mem hkd
  refine ⟨fun k2=> ?_,fun k2=> ?_⟩
  ·simp[wrapS (show k<9223372036854775807 by omega)]
   refine .use (vx_del (i:=k) (rows:=d.fData.map eRows) (z:= [Lf.ls [Lf.ls [Lf.sc (Value.int IntKind.i64 0),Lf.sc (Value.int IntKind.i64 0),Lf.sc (Value.string ⟨#[]⟩)] []] []]) (cols:=fun _=> [(Md.o 58 (fun _=> [(Md.o 152 (fun _=> [Md.s,Md.s,Md.s]))]))]) ⟨_,_,Tryz.func248,rfl,by kernel_rfl⟩ rawDel_Rows (by decide) rfl (by simp;omega)) ?_
   simp[colsD_const]
   unfold dataCh
   rw[if_neg k1,if_pos k2,hix,List.eraseIdx_eq_take_drop_succ]
   simp
  ·have hro:rowsOk d.fCat.fTables[k] d.fData[k].fRows=true:=by
    have:=((dbOk_iff d).1 hd).2.2 k hkl
    simpa [hkl,hkd] using this
   have htab:=hco.1.1.2 _ hm
   refine ⟨hkl,hkd, ?_⟩
   have hrd:=rowsDdlI_ok d.fCat.fTables[k] d.fData[k].fRows x htab (by have:=(hco.2.2 _ hm).2.2;omega) (rowsOk_ok hro).1 hx h1 h2
   simp[hkl,hkd]
   refine .of hrd ?_
   simp[mRowS,md,lf,eRows,List.range',hkd]
   unfold dataCh
   rw[if_neg k1,if_neg k2,hix,htk,hdk,List.map_set]
   rfl
end Go.Proofs.YtanlbohhmoifcaaGreat
namespace Go.Proofs.YtanlbohhmoifcaaGreat
open Go Go.Proofs Go.Sm
attribute [local simp] ti eStr eInt eByte eVal vVal eCol vCol vColS vStrS eTable cTable vTable vTableS cCat vCat eValS vValS eRow cRow vRow vRowS eRows vRowsS cDb vDb eDdl cDdl vDdl eStmt cStmt vStmt eRec vRec eSlot vSlot eRecS vRecS eSlotS vSlotS vStmtS
set_option linter.unusedVariables false
set_option linter.unusedSimpArgs false
theorem l04Copy_ok (d:GDb) (h:bdDb d):VC Tryz.prog 155 [vDb d] [(true,mDb d)]:=by
 obtain ⟨⟨h1,h2⟩,h3,h4⟩:=h
 refine vc_of_ew good hm [0,1,2,3,11,12,13,14,5] Tryz.func155 rfl (by kernel_rfl) (by kernel_rfl) rfl ?_
 simp[Tryz.f155,mDb]
 refine .of (l02Copy_ok d.fCat h1 h2) ?_
 simp[mCat]
 refine ew_loop (fun E=> ∃i:Nat,i≤d.fData.length∧E= {nt:=28,sl:= [(2,.p (.bx 2 0)),(3,.p (.bx 3 0)),(11,vRowsS d.fData),(12,int .i64 d.fData.length),(13,int .i64 i)],bx:= [(2,[.n [Lf.sc (Value.string ⟨#[]⟩),Lf.ls [Lf.sc (Value.string ⟨#[]⟩),Lf.sc (Value.int IntKind.i64 0),Lf.sc (Value.bool false),Lf.sc (Value.bool false),Lf.sc (Value.int IntKind.i64 0),Lf.sc (Value.int IntKind.i64 0),Lf.sc (Value.string ⟨#[]⟩)] [],Lf.ls [Lf.sc (Value.string ⟨#[]⟩)] []],.n [Lf.ls [Lf.ls [Lf.sc (Value.int IntKind.i64 0),Lf.sc (Value.int IntKind.i64 0),Lf.sc (Value.string ⟨#[]⟩)] []] []]]),(3,[.r [8],.r [990]])],rt:=((mRowsS (d.fData.take i)).map fun y=>(990,y))++((mTableS d.fCat.fTables).map fun y=>(8,y))}) (fun E=>d.fData.length- (E.num 13).toNat) _ ((Gh.nlB _ 3 1 990 179 (fun _=> [(Md.o 58 (fun _=> [(Md.o 152 (fun _=> [Md.s,Md.s,Md.s]))]))]) [Lf.ls [Lf.ls [Lf.sc (Value.int IntKind.i64 0),Lf.sc (Value.int IntKind.i64 0),Lf.sc (Value.string ⟨#[]⟩)] []] []]).trans (Gh.kb _ [2,3,11,12,13] [2,3] [990,8])) ⟨0,by omega,by simp[mRowsS,mTableS]⟩ ?_
 rintro E1 ⟨i,hi,rfl⟩
 simp[mRowsS,mTableS]
 refine ⟨fun h=>⟨h,.of (l03Copy_ok _ (h4 _ (getD_mem dRows h)).1 (h4 _ (getD_mem dRows h)).2) ?_⟩,fun h=> ?_⟩
 ·simp[mRowS]
  refine ⟨by omega,.of _ ((Gh.kb _ [2,3,11,12,13] [2,3] [24,8]).trans (Gh.rn _ 24 990)) ⟨i+1,by omega, ?_⟩ ?_⟩
  ·rw[take_rowM dRows h]
   simp[wrapS (show i<9223372036854775807 by omega),mRowsS,mTableS,eRows]
  ·simp[wrapS (show i<9223372036854775807 by omega)];omega
 ·have:i=d.fData.length:=by omega
  subst this
  rw[←List.map_take,List.take_length]
def stAll (t:GTable) (l:List GRow) (s:GStmt):List GRow×Int:=if s.fKind=5 then rowsDdl t l s.fDdl else stRows t l s
end Go.Proofs.YtanlbohhmoifcaaGreat
namespace Go.Proofs.YtanlbohhmoifcaaGreat
open Go Go.Proofs Go.Sm
attribute [local simp] ti eStr eInt eByte eVal vVal eCol vCol vColS vStrS eTable cTable vTable vTableS cCat vCat eValS vValS eRow cRow vRow vRowS eRows vRowsS cDb vDb eDdl cDdl vDdl eStmt cStmt vStmt eRec vRec eSlot vSlot eRecS vRecS eSlotS vSlotS vStmtS
set_option linter.unusedVariables false
set_option linter.unusedSimpArgs false
def vch (d:GDdl) (k:Nat) (l:List GVal):List GVal:=if d.fKind=4 then l.eraseIdx k else l
theorem vch_len (d:GDdl) (k:Nat) (l:List GVal):(vch d k l).length≤l.length:=by
 unfold vch
 split
 ·exact (List.eraseIdx_sublist ..).length_le
 ·exact Nat.le_refl _
theorem vch_succ (d:GDdl) (k:Nat) {l:List GVal} {j:Nat} (h:j<l.length):vch d k (l.take (j+1))=if d.fKind=4∧(j:Int)=k then vch d k (l.take j) else vch d k (l.take j)++ [l[j]?.getD dVal]:=by
 unfold vch
 by_cases k4:d.fKind=4
 ·simp only[k4,if_true,true_and]
  exact erTo dVal h
 ·simp only[k4,if_false,false_and]
  exact take_row dVal h
theorem rowsDdlS_ok (t:GTable) (l:List GRow) (d:GDdl) (ht:okTable t) (hk:t.fKeys.length≤1048576) (hl:okRowS l) (hd:okDdl d) (h1:d.fCols.length≤1048576) (h2:d.fKeys.length≤1048576):VC Tryz.prog 230 [vTable t,vRowS l,vDdl d] [(false,fRowS (rowsDdl t l d).1),(false,[(.s,.sc (.int .i64 (rowsDdl t l d).2))])]:=by
 refine vc_of_ewF good hm [0,1,2,3,5,6,7,37,9,47,10,11,54,55,56,57,13,14,62,63,64,65,16,15,76,86,99] Tryz.func230 rfl (by kernel_rfl) (by kernel_rfl) rfl ?_
 simp[Tryz.f230,fRowS]
 refine .of (rowsOkS_ok t l ht hl hk) ?_
 simp
 refine .of (fun g=>⟨g,ddlOkS_ok d hd⟩) ?_
 simp
 have hE:rowsDdl t l d=if rowsOk t l=false∨ddlOk d=false∨(d.fTable.toList==t.fName.toList)=false∨d.fKind=1 then ([],1) else if ddlCode ⟨[t]⟩ d≠0 then ([],ddlCode ⟨[t]⟩ d) else (if d.fKind=2 then [] else l.map (rowCh t d),0):=rfl
 refine ⟨fun h=>by rw[hE,if_pos (by simp only[beq_eq_false_iff_ne];grind)];simp,fun h3 h4 h5 k1=> ?_⟩
 rw[if_neg (by simp[h3,h4,h5,k1])] at hE
 have hn:d.fTable=t.fName:=tl_inj h5
 obtain ⟨g2,g3,g4,g5,g6⟩:=rowsOk_inv h3
 have htl:=tableOk_len g2
 have hoc:okCat ⟨[t]⟩:=⟨⟨by simp[okM],by simpa using ht⟩,trivial⟩
 have hcok:catOk ⟨[t]⟩=true:=(catOk_iff ⟨[t]⟩).2 ⟨by simpa using g2,by simp,by simp[tabPw]⟩
 have hD2:(ddlApply ⟨[t]⟩ d).2=ddlCode ⟨[t]⟩ d:=by
  unfold ddlApply
  rw[if_neg (by simp[hcok,h4])]
  split
  ·rfl
  ·rename_i h
   exact (Classical.not_not.1 h).symm
 have hda:=(ddlApplyS_ok ⟨[t]⟩ d hoc hd h1 h2).dim
 rw[hD2] at hda
 refine .of hda ?_
 simp[fCat]
 refine ⟨fun h=>by rw[hE,if_pos h];simp,fun h6=> ?_⟩
 rw[if_neg (by simp[h6])] at hE
 rw[hE]
 rw[ddlCode_one k1 hn] at h6
 obtain ⟨k,hk'⟩: ∃k:Int,colAt t d.fName=k:=⟨_,rfl⟩
 have hkn:d.fKind=4→ ∃n:Nat,k=n:=fun k4=>by
  have h:=colAt_nn.2 ((tabCode_0 h6).2.2 k4).1
  rw[hk'] at h
  exact ⟨_,(Int.toNat_of_nonneg h).symm⟩
 have hca:=colAtS_ok t d.fName ht.2.1.1
 rw[hk'] at hca
 refine .of hca ?_
 simp
 refine ew_loop (fun E=> ∃i:Nat,i≤l.length∧E= {nt:=106,sl:= [(5,.p (.bx 5 0)),(10,.v false [.r [49]]),(11,int .i64 k),(54,vRowS l),(55,int .i64 l.length),(56,int .i64 i)],bx:= [(5,cDdl d)],rt:=(mRowS (if d.fKind=2 then [] else (l.take i).map (rowCh t d))).map fun y=>(49,y)}) (fun E=>l.length- (E.num 56).toNat) _ (Gh.kb _ [5,10,11,54,55,56] [5] [49]) ⟨0,by omega,by simp[mRowS]⟩ ?_
 rintro E1 ⟨i,hi,rfl⟩
 simp[mRowS]
 refine ⟨fun h=>⟨h, ?_⟩,fun h=> ?_⟩
 ·have hrl:=rowFit_len (g4 _ (getD_mem dRow h))
  generalize hr:l[i]?.getD dRow=r at hrl
  refine ew_loop (fun E=> ∃j:Nat,j≤r.fVals.length∧E= {nt:=106,sl:= [(5,.p (.bx 5 0)),(10,.v false [.r [49]]),(11,int .i64 k),(54,vRowS l),(55,int .i64 l.length),(56,int .i64 i),(14,.p (.bx 14 0)),(62,vValS r.fVals),(63,int .i64 r.fVals.length),(64,int .i64 j)],bx:= [(5,cDdl d),(14,[.r [990]])],rt:=((mValS (vch d k.toNat (r.fVals.take j))).map fun y=>(990,y))++((mRowS (if d.fKind=2 then [] else (l.take i).map (rowCh t d))).map fun y=>(49,y))}) (fun E=>r.fVals.length- (E.num 64).toNat) _ ((Gh.nlB _ 14 0 990 152 (fun _=> [.s,.s,.s]) [Lf.sc (Value.int IntKind.i64 0),Lf.sc (Value.int IntKind.i64 0),Lf.sc (Value.string ⟨#[]⟩)]).trans (Gh.kb _ [5,10,11,54,55,56,14,62,63,64] [5,14] [990,49])) ⟨0,by omega,by simp[mRowS,mValS,vch]⟩ ?_
  rintro E2 ⟨j,hj,rfl⟩
  have hvl:=vch_len d k.toNat (r.fVals.take j)
  have hvs:=fun h=>vch_succ d k.toNat (l:=r.fVals) (j:=j) h
  rw[List.length_take] at hvl
  simp[mRowS,mValS]
  have hdr:(l.map (rowCh t d)).take (i+1)=(l.map (rowCh t d)).take i++ [rowCh t d r]:=by rw[take_rowM dRow h,hr]
  have hk4:d.fKind=4→((j:Int)=k.toNat↔ (j:Int)=k):=fun k4=>by
   obtain ⟨n,hn2⟩:=hkn k4
   rw[hn2,Int.toNat_natCast]
  refine ⟨fun hj2=>⟨hj2,fun q=>⟨by omega,.of _ ((Gh.kb _ [5,10,11,54,55,56,14,62,63,64] [5,14] [81,49]).trans (Gh.rn _ 81 990)) ⟨j+1,by omega, ?_⟩ ?_⟩,fun k4 q=> .of _ (Gh.kb _ [5,10,11,54,55,56,14,62,63,64] [5,14] [990,49]) ⟨j+1,by omega, ?_⟩ ?_⟩,fun hj2=> ?_⟩
  ·have hv:vch d k.toNat (r.fVals.take (j+1))=vch d k.toNat (r.fVals.take j)++ [r.fVals[j]?.getD dVal]:=by
    rw[hvs hj2,if_neg (fun g=>q.elim (fun q=>q g.1) (fun q=>q ((hk4 g.1).1 g.2)))]
   rw[hv]
   simp[wrapS (show j<9223372036854775807 by omega),mRowS,mValS,eVal]
  ·simp[wrapS (show j<9223372036854775807 by omega)];omega
  ·have hv:vch d k.toNat (r.fVals.take (j+1))=vch d k.toNat (r.fVals.take j):=by
    rw[hvs hj2,if_pos ⟨k4,(hk4 k4).2 q⟩]
   rw[hv]
   simp[wrapS (show j<9223372036854775807 by omega),mRowS,mValS]
  ·simp[wrapS (show j<9223372036854775807 by omega)];omega
  ·have:j=r.fVals.length:=by omega
   subst this
   rw[List.take_length] at hvl⊢
   refine ⟨fun k3=>⟨by have:=(ddlOk_3 h4 k3).1;omega,by omega,fun k2=>⟨by rw[if_neg k2];simp;omega,.of _ ((Gh.kb _ [5,10,11,54,55,56] [5] [103]).trans (Gh.rn _ 103 49)) ⟨i+1,by omega, ?_⟩ ?_⟩,fun k2=>by rw[k3] at k2;exact absurd k2 (by decide)⟩,fun k3=>⟨fun k2=>⟨by rw[if_neg k2];simp;omega,.of _ ((Gh.kb _ [5,10,11,54,55,56] [5] [103]).trans (Gh.rn _ 103 49)) ⟨i+1,by omega, ?_⟩ ?_⟩,fun k2=> .of _ (Gh.kb _ [5,10,11,54,55,56] [5] [49]) ⟨i+1,by omega, ?_⟩ ?_⟩⟩
   ·rw[hdr]
    have hrc:rowCh t d r=⟨r.fVals++ [(col0 d).fDef]⟩:=by simp[rowCh,k3]
    simp[wrapS (show i<9223372036854775807 by omega),mRowS,k2,hrc,vch,k3,eRow,eVal,col0]
   ·simp[wrapS (show i<9223372036854775807 by omega)];omega
   ·rw[hdr]
    have hrc:rowCh t d r=⟨vch d k.toNat r.fVals⟩:=by
     unfold rowCh vch
     rw[if_neg k3,hk']
     split<;>rfl
    simp[wrapS (show i<9223372036854775807 by omega),mRowS,k2,hrc,eRow]
   ·simp[wrapS (show i<9223372036854775807 by omega)];omega
   ·simp[wrapS (show i<9223372036854775807 by omega),mRowS,k2]
   ·simp[wrapS (show i<9223372036854775807 by omega)];omega
 ·have:i=l.length:=by omega
  subst this
  rw[←List.map_take,List.take_length]
end Go.Proofs.YtanlbohhmoifcaaGreat
namespace Go.Proofs.YtanlbohhmoifcaaGreat
open Go Go.Proofs Go.Sm
attribute [local simp] ti eStr eInt eByte eVal vVal eCol vCol vColS vStrS eTable cTable vTable vTableS cCat vCat eValS vValS eRow cRow vRow vRowS eRows vRowsS cDb vDb eDdl cDdl vDdl eStmt cStmt vStmt eRec vRec eSlot vSlot eRecS vRecS eSlotS vSlotS vStmtS
set_option linter.unusedVariables false
set_option linter.unusedSimpArgs false
theorem full_set (cols:Nat→List Md) (hc: ∀i,cols i= [(Md.o 58 (fun _=> [(Md.o 152 (fun _=> [Md.s,Md.s,Md.s]))]))]∨cols i= [Md.s]) (l:List GRows) (k:Nat) (x:List GRow):Full (Md.o 179 cols) (.ls [Lf.ls [Lf.ls [Lf.sc (Value.int IntKind.i64 0),Lf.sc (Value.int IntKind.i64 0),Lf.sc (Value.string ⟨#[]⟩)] []] []] ((l.map eRows).set k (eRows ⟨x⟩))):=by
 rw[←List.map_set]
 refine Full_rowsF (fun i x j hj=> ?_) _
 match j,hj with
 |0,_=>
  rcases hc i with h|h<;>rw[h]
  ·exact of_eq_true (full_RowS x.fRows)
  ·exact .s
 |n+1,hj=>exact absurd hj (by simp)
theorem wrap10 {n:Int} (h:0≤n) (h2:n≤100):IntKind.i64.wrap (10+n)=10+n:=by
 obtain ⟨m,rfl⟩: ∃m:Nat,n=m:=⟨_,(Int.toNat_of_nonneg h).symm⟩
 have:=wrapS (show 9+m<9223372036854775807 by omega)
 rw[show (10+(m:Int))=((9+m:Nat):Int)+1 by omega]
 exact this
theorem dbCh_bd (d:GDb) (x:GDdl):0≤(dbCh d x).2∧(dbCh d x).2≤100:=by
 unfold dbCh
 split
 ·show 0≤(ddlApply d.fCat x).2∧(ddlApply d.fCat x).2≤100
  unfold ddlApply
  split
  ·exact ⟨(by decide:(0:Int)≤1),(by decide:(1:Int)≤100)⟩
  split
  ·show 0≤ddlCode _ _∧ddlCode _ _≤100
   unfold ddlCode tabCode
   grind
  ·exact ⟨(by decide:(0:Int)≤0),(by decide:(0:Int)≤100)⟩
 ·exact ⟨(by decide:(0:Int)≤0),(by decide:(0:Int)≤100)⟩
theorem stRows_bd (t:GTable) (l:List GRow) (s:GStmt):0≤(stRows t l s).2∧(stRows t l s).2≤100:=by
 unfold stRows rowPut rowSet rowOut
 grind
theorem exec_ok (d:GDb) (s:GStmt) (hd:dbOk d=true) (hs:stmtOk s=true):VC Tryz.prog 191 [vDb d,vStmt s] [(true,fDb (dbExec d s).1),(false,[(.s,.sc (.int .i64 (dbExec d s).2))])]:=by
 obtain ⟨hso,_,hs1,hs2,hs3,hs4⟩:=stmtOk_ok hs
 have hod:=dbOk_ok hd
 have hco:=catOk_ok (dbOk_cat hd)
 have hl:=dbOk_len hd
 have hb:=tabAt_bd d.fCat.fTables s.fTable
 refine vc_of_ewF good hm [0,1,2,3,4,5,6,30,34,7,8,43,9,10,11,61,62,72,84,95,12] Tryz.func191 rfl (by kernel_rfl) (by kernel_rfl) rfl ?_
 simp[Tryz.f191,fDb]
 have hat:=at_ok d.fCat s.fTable hco.1.1.1
 have hE:dbExec d s=if tabAt d.fCat.fTables s.fTable<0∧ ¬(s.fKind=5∧s.fDdl.fKind=1) then (dDb,4) else
  if s.fKind=5 then (if (dbCh d s.fDdl).2≠0 then (dDb,10+(dbCh d s.fDdl).2) else dbCh d s.fDdl) else
  if (stRows (tabOf d.fCat s.fTable) (dataOf d (dbIx d s.fTable)) s).2≠0 then (dDb,10+(stRows (tabOf d.fCat s.fTable) (dataOf d (dbIx d s.fTable)) s).2) else
  (⟨d.fCat,d.fData.set (dbIx d s.fTable) ⟨(stRows (tabOf d.fCat s.fTable) (dataOf d (dbIx d s.fTable)) s).1⟩⟩,0):=rfl
 by_cases k5:s.fKind=5
 ·refine .of hat ?_
  simp[k5]
  have hbd:=dbCh_bd d s.fDdl
  refine ⟨fun h1 h2=>by rw[hE,if_pos ⟨h1,fun h=>h2 h.2⟩];simp[dDb,dCat,FullRs,FullML],fun h1=> ?_⟩
  rw[if_neg (fun h=>h.2 ⟨k5,h1 h.1⟩),if_pos k5] at hE
  refine .of (changed_ok d s.fDdl hd hso.2.2.2.2.1 (by omega) (by omega)) ?_
  simp[mDb,FullRs,FullML]
  refine ⟨fun h=>by rw[hE,if_pos h,wrap10 hbd.1 hbd.2];simp[dDb,dCat,FullRs,FullML],fun h=> ?_⟩
  rw[hE,if_neg (by simp[h])]
  simp[h]
 ·by_cases ht:tabAt d.fCat.fTables s.fTable<0
  ·refine .of hat ?_
   simp[k5,ht]
   rw[hE,if_pos ⟨ht,fun h=>k5 h.1⟩]
   simp[dDb,dCat,FullRs,FullML]
  ·rw[if_neg (fun h=>ht h.1),if_neg k5] at hE
   obtain ⟨k,hk⟩: ∃k:Nat,tabAt d.fCat.fTables s.fTable=k:=⟨_,(Int.toNat_of_nonneg (by omega)).symm⟩
   have hkl:k<d.fCat.fTables.length:=by omega
   have hkd:k<d.fData.length:=by omega
   rw[hk] at hat
   have htk:tabOf d.fCat s.fTable=d.fCat.fTables[k]:=by
    unfold tabOf
    rw[hk]
    simp[hkl]
   have hix:dbIx d s.fTable=k:=by unfold dbIx;rw[hk];rfl
   have hdk:dataOf d k=d.fData[k].fRows:=by unfold dataOf;simp[hkd]
   have hm:d.fCat.fTables[k]∈d.fCat.fTables:=List.getElem_mem hkl
   have hmd:d.fData[k]∈d.fData:=List.getElem_mem hkd
   have hro:rowsOk d.fCat.fTables[k] d.fData[k].fRows=true:=by
    have:=((dbOk_iff d).1 hd).2.2 k hkl
    simpa [hkl,hkd] using this
   have htab:=hco.1.1.2 _ hm
   have hky:(d.fCat.fTables[k]).fKeys.length≤1048576:=by have:=(hco.2.2 _ hm).2.2;omega
   have hrs:=(rowsOk_ok hro).1
   rw[htk,hix,hdk] at hE
   have hk0: ¬((k:Int)<0):=by omega
   by_cases k1:s.fKind=1
   ·have hst:stRows d.fCat.fTables[k] d.fData[k].fRows s=rowPut d.fCat.fTables[k] d.fData[k].fRows s.fRow:=by simp[stRows,k1]
    rw[hst] at hE
    refine .of hat ?_
    simp[k5,hkl,hkd,hk0,k1,md,lf,List.range']
    refine .of (rowPutI_ok d.fCat.fTables[k] d.fData[k].fRows s.fRow htab hky hrs hso.2.2.2.1) ?_
    simp[mRowS]
    have hbd:=stRows_bd d.fCat.fTables[k] d.fData[k].fRows s
    rw[hst] at hbd
    refine ⟨fun h=>by rw[hE,if_pos h,wrap10 hbd.1 hbd.2];simp[dDb,dCat,FullRs,FullML],fun h=> .of (copyDb_ok d (dbOk_bd hd)) ?_⟩
    rw[hE,if_neg (by simp[h])]
    simp[mDb,md,lf,eRows,List.range',hkd,FullRs,FullML]
    exact full_set _ (fun _=> .inl rfl) _ _ _
   by_cases k2:s.fKind=2
   ·have hst:stRows d.fCat.fTables[k] d.fData[k].fRows s=rowSet d.fCat.fTables[k] d.fData[k].fRows s.fKey s.fRow:=by simp[stRows,k1,k2]
    rw[hst] at hE
    refine .of hat ?_
    simp[k5,hkl,hkd,hk0,k1,k2,md,lf,List.range']
    refine .of (rowSetI_ok d.fCat.fTables[k] d.fData[k].fRows s.fKey s.fRow htab hky hrs (by unfold okM;omega) hso.2.2.2.1) ?_
    simp[mRowS]
    have hbd:=stRows_bd d.fCat.fTables[k] d.fData[k].fRows s
    rw[hst] at hbd
    refine ⟨fun h=>by rw[hE,if_pos h,wrap10 hbd.1 hbd.2];simp[dDb,dCat,FullRs,FullML],fun h=> .of (copyDb_ok d (dbOk_bd hd)) ?_⟩
    rw[hE,if_neg (by simp[h])]
    simp[mDb,md,lf,eRows,List.range',hkd,FullRs,FullML]
    exact full_set _ (fun _=> .inl rfl) _ _ _
   by_cases k3:s.fKind=3
   ·have hst:stRows d.fCat.fTables[k] d.fData[k].fRows s=rowOut d.fCat.fTables[k] d.fData[k].fRows s.fKey:=by simp[stRows,k1,k2,k3]
    rw[hst] at hE
    refine .of hat ?_
    simp[k5,hkl,hkd,hk0,k1,k2,k3,md,lf,List.range']
    refine .of (rowOutI_ok d.fCat.fTables[k] d.fData[k].fRows s.fKey htab hky hrs (by unfold okM;omega)) ?_
    simp[mRowS]
    have hbd:=stRows_bd d.fCat.fTables[k] d.fData[k].fRows s
    rw[hst] at hbd
    refine ⟨fun h=>by rw[hE,if_pos h,wrap10 hbd.1 hbd.2];simp[dDb,dCat,FullRs,FullML],fun h=> .of (copyDb_ok d (dbOk_bd hd)) ?_⟩
    rw[hE,if_neg (by simp[h])]
    simp[mDb,md,lf,eRows,List.range',hkd,FullRs,FullML]
    exact full_set _ (fun _=> .inl rfl) _ _ _
   have hst:stRows d.fCat.fTables[k] d.fData[k].fRows s=([],0):=by simp[stRows,k1,k2,k3]
   rw[hst] at hE
   refine .of hat ?_
   simp[k5,hkl,hkd,hk0,k1,k2,k3,md,lf,List.range']
   refine .of (copyDb_ok d (dbOk_bd hd)) ?_
   rw[hE]
   simp[mDb,md,lf,eRows,List.range',hkd,FullRs,FullML]
   exact full_set (fun _=> [(Md.o 58 (fun _=> [(Md.o 152 (fun _=> [Md.s,Md.s,Md.s]))]))]) (fun _=> .inl rfl) d.fData k []
theorem execL_at (D:GDb) {l:List GStmt} {i:Nat} (h:i<l.length):execL D (l.drop i) i=if stmtOk (l[i]?.getD dStmt)=false then (dDb,1,(i:Int)) else if (dbExec D (l[i]?.getD dStmt)).2≠0 then (dDb,(dbExec D (l[i]?.getD dStmt)).2,(i:Int)) else execL (dbExec D (l[i]?.getD dStmt)).1 (l.drop (i+1)) (i+1):=by
 rw[List.drop_eq_getElem_cons h,execL,List.getElem?_eq_getElem h]
 rfl
theorem execAllI_ok (d:GDb) (l:List GStmt) (hd:okDb d) (hk: ∀t∈d.fCat.fTables,t.fKeys.length≤1048576) (hl: ∀s∈l,okStmt s∧bdStmt s) (hml:okM l.length):VC Tryz.prog 161 [vDb d,vStmtS l] [(true,fDb (execAll d l).1),(false,[(.s,.sc (.int .i64 (execAll d l).2.1))]),(false,[(.s,.sc (.int .i64 (execAll d l).2.2))])]:=by
 unfold okM at hml
 refine vc_of_ewF good hm [0,1,2,4,5,6,14,7,18,19,20,21,9,8,27,10,11,37] Tryz.func161 rfl (by kernel_rfl) (by kernel_rfl) rfl ?_
 simp[Tryz.f161,fDb]
 refine .of (dbOkI_ok d hd hk) ?_
 simp[FullRs,FullML]
 refine ⟨fun h=>by simp[execAll,h,dDb,dCat],fun h=> .of ((copyDb_ok d (dbOk_bd h)).frz (by simp[FullRs,FullML,mDb])) ?_⟩
 simp[mDb]
 have hE:execAll d l=execL d l 0:=by simp[execAll,h]
 rw[hE]
 refine ew_loop (fun E=> ∃ (i:Nat) (D:GDb),i≤l.length∧dbOk D=true∧execL d l 0=execL D (l.drop i) i∧E= {nt:=44,sl:= [(4,.p (.bx 4 0)),(7,.p (.bx 7 0)),(18,vStmtS l),(19,int .i64 l.length),(20,int .i64 i)],bx:= [(4,[.n [Lf.sc (Value.string ⟨#[]⟩),Lf.ls [Lf.sc (Value.string ⟨#[]⟩),Lf.sc (Value.int IntKind.i64 0),Lf.sc (Value.bool false),Lf.sc (Value.bool false),Lf.sc (Value.int IntKind.i64 0),Lf.sc (Value.int IntKind.i64 0),Lf.sc (Value.string ⟨#[]⟩)] [],Lf.ls [Lf.sc (Value.string ⟨#[]⟩)] []],.n [Lf.ls [Lf.ls [Lf.sc (Value.int IntKind.i64 0),Lf.sc (Value.int IntKind.i64 0),Lf.sc (Value.string ⟨#[]⟩)] []] []]]),(7,[.s (.ls [Lf.sc (Value.string ⟨#[]⟩),Lf.ls [Lf.sc (Value.string ⟨#[]⟩),Lf.sc (Value.int IntKind.i64 0),Lf.sc (Value.bool false),Lf.sc (Value.bool false),Lf.sc (Value.int IntKind.i64 0),Lf.sc (Value.int IntKind.i64 0),Lf.sc (Value.string ⟨#[]⟩)] [],Lf.ls [Lf.sc (Value.string ⟨#[]⟩)] []] (D.fCat.fTables.map eTable)),.s (.ls [Lf.ls [Lf.ls [Lf.sc (Value.int IntKind.i64 0),Lf.sc (Value.int IntKind.i64 0),Lf.sc (Value.string ⟨#[]⟩)] []] []] (D.fData.map eRows))])],rt:= []}) (fun E=>l.length- (E.num 20).toNat) _ (Gh.kb _ [4,7,18,19,20] [4,7] []) ⟨0,d,by omega,h,by simp,by simp⟩ ?_
 rintro E1 ⟨i,D,hi,hD,hx,rfl⟩
 simp
 refine ⟨fun hil=> ?_,fun hil=> ?_⟩
 ·have hs:=hl _ (getD_mem dStmt hil)
  rw[execL_at D hil] at hx
  refine ⟨hil,.of (stmtOkI_ok _ hs.1 hs.2.2.2.1 hs.2.2.2.2) ?_⟩
  simp[FullRs,FullML]
  refine ⟨fun h1=>by rw[hx,if_pos h1];simp[dDb,dCat],fun h1=> .of (exec_ok D _ hD h1) ?_⟩
  rw[if_neg (by simp[h1])] at hx
  simp[fDb,FullRs,FullML]
  refine ⟨fun h2=>by rw[hx,if_pos h2];simp[dDb,dCat],fun h2=> ?_⟩
  rw[if_neg (by simp[h2])] at hx
  refine .of _ (Gh.kb _ [4,7,18,19,20] [4,7] []) ⟨i+1,by omega,(dbExec D (l[i]?.getD dStmt)).1,dbExec_ok hD h2,hx, ?_⟩ ?_
  ·simp[wrapS (show i<9223372036854775807 by omega)]
  ·simp[wrapS (show i<9223372036854775807 by omega)];omega
 ·have:i=l.length:=by omega
  subst this
  rw[hx,List.drop_length,execL]
  simp[FullRs,FullML]
end Go.Proofs.YtanlbohhmoifcaaGreat
namespace Go.Proofs.YtanlbohhmoifcaaGreat
open Go Go.Proofs Go.Sm
attribute [local simp] ti eStr eInt eByte eVal vVal eCol vCol vColS vStrS eTable cTable vTable vTableS cCat vCat eValS vValS eRow cRow vRow vRowS eRows vRowsS cDb vDb eDdl cDdl vDdl eStmt cStmt vStmt eRec vRec eSlot vSlot eRecS vRecS eSlotS vSlotS vStmtS
set_option linter.unusedVariables false
set_option linter.unusedSimpArgs false
theorem l04Rows_ok (t:GTable) (l:List GRow) (s:GStmt) (ht:okTable t) (hk:t.fKeys.length≤1048576) (hl:okRowS l) (hs:okStmt s) (h1:s.fKey.length≤8) (h3:s.fDdl.fCols.length≤8) (h4:s.fDdl.fKeys.length≤8):VC Tryz.prog 201 [vTable t,vRowS l,vStmt s] [(false,fRowS (stAll t l s).1),(false,[(.s,.sc (.int .i64 (stAll t l s).2))])]:=by
 refine vc_of_ewF good hm [0,1,2,3,5,6,7,9,10,19,30,39] Tryz.func201 rfl (by kernel_rfl) (by kernel_rfl) rfl ?_
 simp[Tryz.f201,fRowS]
 refine ⟨fun k1=> ?_,fun k1=>⟨fun k2=> ?_,fun k2=>⟨fun k3=> ?_,fun k3=>⟨fun k5=> ?_,fun k5=> ?_⟩⟩⟩⟩
 ·refine .of (rowPutS_ok t l s.fRow ht hk hl hs.2.2.2.1) ?_
  simp[mRowS,stAll,stRows,k1,FullRs,FullML]
 ·refine .of (rowSetS_ok t l s.fKey s.fRow ht hk hl (by unfold okM;omega) hs.2.2.2.1) ?_
  simp[mRowS,stAll,stRows,k1,k2,FullRs,FullML]
 ·refine .of (rowOutS_ok t l s.fKey ht hk hl (by unfold okM;omega)) ?_
  simp[mRowS,stAll,stRows,k1,k2,k3,FullRs,FullML]
 ·refine .of (rowsDdlS_ok t l s.fDdl ht hk hl hs.2.2.2.2.1 (by omega) (by omega)) ?_
  simp[fRowS,stAll,k5]
 ·simp[stAll,stRows,k1,k2,k3,k5]
theorem full_rowsC (cols:Nat→List Md) (hc: ∀i,cols i= [(Md.o 58 (fun _=> [(Md.o 152 (fun _=> [Md.s,Md.s,Md.s]))]))]∨cols i= [Md.s]) (l:List GRows):Full (Md.o 179 cols) (.ls [Lf.ls [Lf.ls [Lf.sc (Value.int IntKind.i64 0),Lf.sc (Value.int IntKind.i64 0),Lf.sc (Value.string ⟨#[]⟩)] []] []] (l.map eRows)):=by
 refine Full_rowsF (fun i x j hj=> ?_) _
 match j,hj with
 |0,_=>
  rcases hc i with h|h<;>rw[h]
  ·exact of_eq_true (full_RowS x.fRows)
  ·exact .s
 |n+1,hj=>exact absurd hj (by simp)
theorem ddlApply_bd (c:GCat) (x:GDdl):0≤(ddlApply c x).2∧(ddlApply c x).2≤100:=by
 unfold ddlApply
 split
 ·exact ⟨(by decide:(0:Int)≤1),(by decide:(1:Int)≤100)⟩
 split
 ·show 0≤ddlCode _ _∧ddlCode _ _≤100
  unfold ddlCode tabCode
  grind
 ·exact ⟨(by decide:(0:Int)≤0),(by decide:(0:Int)≤100)⟩
def chRow (d:GDb) (s:GStmt) (t:GTable):GRows:=⟨if 0≤tabAt d.fCat.fTables t.fName∧t.fName.toList=s.fTable.toList then (stAll (tabOf d.fCat t.fName) (dataOf d (dbIx d t.fName)) s).1 else if 0≤tabAt d.fCat.fTables t.fName then dataOf d (dbIx d t.fName) else []⟩
theorem l04Change_ok (d:GDb) (s:GStmt) (hd:dbOk d=true) (hs:stmtOk s=true):VC Tryz.prog 200 [vDb d,vStmt s] [(true,fDb (if (ddlApply d.fCat s.fDdl).2≠0 then dDb else ⟨catCh d.fCat s.fDdl,(catCh d.fCat s.fDdl).fTables.map (chRow d s)⟩)),(false,[(.s,.sc (.int .i64 (if (ddlApply d.fCat s.fDdl).2≠0 then 10+(ddlApply d.fCat s.fDdl).2 else 0)))])]:=by
 obtain ⟨hso,_,hs1,hs2,hs3,hs4⟩:=stmtOk_ok hs
 have hco:=catOk_ok (dbOk_cat hd)
 have hl:=dbOk_len hd
 refine vc_of_ewF good hm [0,1,2,3,4,5,6,7,22,8,29,30,31,32,10,11,12,49,69] Tryz.func200 rfl (by kernel_rfl) (by kernel_rfl) rfl ?_
 simp[Tryz.f200,fDb]
 refine .of (ddlApplyS_ok d.fCat s.fDdl hco.1 hso.2.2.2.2.1 (by omega) (by omega)) ?_
 simp[fCat]
 have hbd:=ddlApply_bd d.fCat s.fDdl
 refine ⟨fun h=>by rw[wrap10 hbd.1 hbd.2,if_neg h,if_neg h];simp[dDb,dCat],fun h=> ?_⟩
 rw[if_pos h,if_pos h]
 obtain ⟨q1,q2,q3,q4⟩:=ddlApply_ok h
 rw[q4]
 have hcc:=catCh_ok q1 q2 q3
 have hcl:=(catOk_ok hcc).2.1
 generalize hT:(catCh d.fCat s.fDdl).fTables=T at hcl
 refine ew_loop (fun E=> ∃ (i:Nat) (cols:Nat→List Md),i≤T.length∧(∀k,cols k= [(Md.o 58 (fun _=> [(Md.o 152 (fun _=> [Md.s,Md.s,Md.s]))]))]∨cols k= [Md.s])∧E= {nt:=86,sl:= [(2,.p (.bx 2 0)),(3,.p (.bx 3 0)),(4,.p (.bx 4 0)),(8,.p (.bx 8 0)),(29,vTableS T),(30,int .i64 T.length),(31,int .i64 i)],bx:= [(2,cDb d),(3,cStmt s),(4,[.n [Lf.sc (Value.string ⟨#[]⟩),Lf.ls [Lf.sc (Value.string ⟨#[]⟩),Lf.sc (Value.int IntKind.i64 0),Lf.sc (Value.bool false),Lf.sc (Value.bool false),Lf.sc (Value.int IntKind.i64 0),Lf.sc (Value.int IntKind.i64 0),Lf.sc (Value.string ⟨#[]⟩)] [],Lf.ls [Lf.sc (Value.string ⟨#[]⟩)] []],.n [Lf.ls [Lf.ls [Lf.sc (Value.int IntKind.i64 0),Lf.sc (Value.int IntKind.i64 0),Lf.sc (Value.string ⟨#[]⟩)] []] []]]),(8,[.s (.ls [Lf.sc (Value.string ⟨#[]⟩),Lf.ls [Lf.sc (Value.string ⟨#[]⟩),Lf.sc (Value.int IntKind.i64 0),Lf.sc (Value.bool false),Lf.sc (Value.bool false),Lf.sc (Value.int IntKind.i64 0),Lf.sc (Value.int IntKind.i64 0),Lf.sc (Value.string ⟨#[]⟩)] [],Lf.ls [Lf.sc (Value.string ⟨#[]⟩)] []] (T.map eTable)),.r [990]])],rt:= [(990,.o 179 cols,.ls [Lf.ls [Lf.ls [Lf.sc (Value.int IntKind.i64 0),Lf.sc (Value.int IntKind.i64 0),Lf.sc (Value.string ⟨#[]⟩)] []] []] (((T.take i).map (chRow d s)).map eRows))]}) (fun E=>T.length- (E.num 31).toNat) _ ((Gh.nlB _ 8 1 990 179 (fun _=> [(Md.o 58 (fun _=> [(Md.o 152 (fun _=> [Md.s,Md.s,Md.s]))]))]) [Lf.ls [Lf.ls [Lf.sc (Value.int IntKind.i64 0),Lf.sc (Value.int IntKind.i64 0),Lf.sc (Value.string ⟨#[]⟩)] []] []]).trans (Gh.kb _ [2,3,4,8,29,30,31] [2,3,4,8] [990])) ⟨0,fun _=> [(Md.o 58 (fun _=> [(Md.o 152 (fun _=> [Md.s,Md.s,Md.s]))]))],by omega,fun _=> .inl rfl,by simp[hT]⟩ ?_
 rintro E1 ⟨i,cols,hi,hcols,rfl⟩
 simp
 refine ⟨fun hil=>⟨hil, ?_⟩,fun hil=> ?_⟩
 ·have htr:(T.map (eRows∘chRow d s)).take (i+1)=(T.map (eRows∘chRow d s)).take i++ [(eRows∘chRow d s) (T[i]?.getD dTable)]:=take_rowM dTable hil
  generalize hti:T[i]?.getD dTable=t at htr
  have hat:=l02At_ok d.fCat t.fName hco.1.1.1
  have hb:=tabAt_bd d.fCat.fTables t.fName
  by_cases h0:0≤tabAt d.fCat.fTables t.fName
  ·obtain ⟨k,hk⟩: ∃k:Nat,tabAt d.fCat.fTables t.fName=k:=⟨_,(Int.toNat_of_nonneg h0).symm⟩
   have hkl:k<d.fCat.fTables.length:=by omega
   have hkd:k<d.fData.length:=by omega
   have htk:tabOf d.fCat t.fName=d.fCat.fTables[k]:=by
    unfold tabOf
    rw[hk]
    simp[hkl]
   have hix:dbIx d t.fName=k:=by unfold dbIx;rw[hk];rfl
   have hdk:dataOf d k=d.fData[k].fRows:=by unfold dataOf;simp[hkd]
   have hm:d.fCat.fTables[k]∈d.fCat.fTables:=List.getElem_mem hkl
   have hro:rowsOk d.fCat.fTables[k] d.fData[k].fRows=true:=by
    have:=((dbOk_iff d).1 hd).2.2 k hkl
    simpa [hkl,hkd] using this
   have hrb:=rowsOk_ok hro
   have hch:chRow d s t=⟨if t.fName.toList=s.fTable.toList then (stAll d.fCat.fTables[k] d.fData[k].fRows s).1 else d.fData[k].fRows⟩:=by
    unfold chRow
    rw[htk,hix,hdk,if_pos h0]
    simp only[h0,true_and]
   rw[hk] at hat
   refine .of hat ?_
   simp[hkl,hkd,eTable,eRows]
   refine ⟨fun hn=> .of (l04Rows_ok d.fCat.fTables[k] d.fData[k].fRows s (hco.1.1.2 _ hm) (by have:=(hco.2.2 _ hm).2.2;omega) hrb.1 hso hs1 hs3 hs4) ?_,fun hn=> .of ((l03Copy_ok d.fData[k].fRows (by omega) (fun x hx=>by have:=hrb.2.2 x hx;omega)).frz (by simp[FullRs,FullML,mRowS])) ?_⟩
   ·simp[fRowS]
    refine ⟨by omega,.of _ ((Gh.kb _ [2,3,4,8,29,30,31] [2,3,4,8] [82]).trans (Gh.rn _ 82 990)) ⟨i+1,by omega,(fun k=>if k<min i T.length then cols k else [Md.s]),fun k=> ?_, ?_⟩ ?_⟩
    ·by_cases hk2:k<min i T.length
     all_goals simp[hk2,hcols k]
    ·rw[htr,Function.comp,hch]
     simp[wrapS (show i<9223372036854775807 by omega),hn,eRows]
    ·simp[wrapS (show i<9223372036854775807 by omega)];omega
   ·simp[mRowS]
    refine ⟨by omega,.of _ ((Gh.kb _ [2,3,4,8,29,30,31] [2,3,4,8] [82]).trans (Gh.rn _ 82 990)) ⟨i+1,by omega,(fun k=>if k<min i T.length then cols k else [Md.s]),fun k=> ?_, ?_⟩ ?_⟩
    ·by_cases hk2:k<min i T.length
     all_goals simp[hk2,hcols k]
    ·rw[htr,Function.comp,hch]
     simp[wrapS (show i<9223372036854775807 by omega),hn,eRows]
    ·simp[wrapS (show i<9223372036854775807 by omega)];omega
  ·have hch:chRow d s t=⟨[]⟩:=by
    unfold chRow
    rw[if_neg (fun g=>h0 g.1),if_neg h0]
   have h0':tabAt d.fCat.fTables t.fName<0:=by omega
   refine .of hat ?_
   simp[h0,h0',eTable,eRows]
   refine ⟨by omega,.of _ ((Gh.kb _ [2,3,4,8,29,30,31] [2,3,4,8] [82]).trans (Gh.rn _ 82 990)) ⟨i+1,by omega,(fun k=>if k<min i T.length then cols k else [(Md.o 58 (fun _=> [(Md.o 152 (fun _=> [Md.s,Md.s,Md.s]))]))]),fun k=> ?_, ?_⟩ ?_⟩
   ·by_cases hk2:k<min i T.length
    all_goals simp[hk2,hcols k]
   ·rw[htr,Function.comp,hch]
    simp[wrapS (show i<9223372036854775807 by omega),hti,eRows]
   ·simp[wrapS (show i<9223372036854775807 by omega)];omega
 ·have:i=T.length:=by omega
  subst this
  rw[List.take_of_length_le (by simp)]
  have hfu:=full_rowsC cols hcols (T.map (chRow d s))
  rw[List.map_map] at hfu
  exact ⟨hfu,rfl⟩
end Go.Proofs.YtanlbohhmoifcaaGreat
namespace Go.Proofs.YtanlbohhmoifcaaGreat
open Go Go.Proofs Go.Sm
attribute [local simp] ti eStr eInt eByte eVal vVal eCol vCol vColS vStrS eTable cTable vTable vTableS cCat vCat eValS vValS eRow cRow vRow vRowS eRows vRowsS cDb vDb eDdl cDdl vDdl eStmt cStmt vStmt eRec vRec eSlot vSlot eRecS vRecS eSlotS vSlotS vStmtS
set_option linter.unusedVariables false
set_option linter.unusedSimpArgs false
theorem chRow_at {d:GDb} (hd:dbOk d=true) (s:GStmt) {t:GTable} {k:Nat} (hk:k<d.fCat.fTables.length) (hn:t.fName=(d.fCat.fTables[k]?.getD dTable).fName):chRow d s t=⟨if t.fName=s.fTable then (stAll (d.fCat.fTables[k]?.getD dTable) (dataOf d k) s).1 else dataOf d k⟩:=by
 have hpw:=((catOk_iff _).1 (dbOk_cat hd)).2.2
 have h1:tabAt d.fCat.fTables t.fName=k:=by rw[hn];exact tabAt_at hpw hk
 have h2:dbIx d t.fName=k:=by unfold dbIx;rw[h1];rfl
 have h3:tabOf d.fCat t.fName=d.fCat.fTables[k]?.getD dTable:=by unfold tabOf;rw[h1];rfl
 unfold chRow
 rw[h2,h3,h1]
 have:(t.fName.toList=s.fTable.toList)↔t.fName=s.fTable:=⟨tl_inj,fun h=>by rw[h]⟩
 simp[this]
theorem data_at {d:GDb} {k:Nat} (h:k<d.fData.length):(⟨dataOf d k⟩:GRows)=d.fData[k]:=by
 unfold dataOf
 rw[List.getElem?_eq_getElem h]
 rfl
theorem chData {d:GDb} {s:GStmt} (hd:dbOk d=true) (hx:ddlOk s.fDdl=true) (k5:s.fKind=5) (hn:s.fDdl.fTable=s.fTable) (h0:ddlCode d.fCat s.fDdl=0):(catCh d.fCat s.fDdl).fTables.map (chRow d s)=dataCh d s.fDdl:=by
 have hl:=dbOk_len hd
 have hpw:=((catOk_iff _).1 (dbOk_cat hd)).2.2
 obtain ⟨z1,z2⟩:=ddlCode_0 h0
 have hin: ∀k (h:k<d.fCat.fTables.length),d.fCat.fTables[k].fName≠s.fTable→chRow d s d.fCat.fTables[k]=d.fData[k]'(by omega):=fun k h hne=>by
  rw[chRow_at hd s h (by rw[List.getElem?_eq_getElem h];rfl),if_neg hne,data_at (by omega)]
 have e: ∀c:GCat,c.fTables=(catCh d.fCat s.fDdl).fTables→c=catCh d.fCat s.fDdl:=fun c h=>by cases c;cases hq:catCh d.fCat s.fDdl;rw[hq] at h;exact congrArg _ h
 unfold dataCh
 by_cases k1:s.fDdl.fKind=1
 ·rw[if_pos k1,insW_tab (dbOk_cat hd) hx k1 h0]
  have e:(catCh d.fCat s.fDdl).fTables=insAt d.fCat.fTables (d.fCat.fTables.takeWhile (fun y=>tabLt y (madeT s.fDdl))).length (madeT s.fDdl):=by unfold catCh;rw[if_pos k1];exact insW_at _ _ _
  rw[e]
  have hw:=takeW_len (fun y=>tabLt y (madeT s.fDdl)) d.fCat.fTables
  generalize (d.fCat.fTables.takeWhile (fun y=>tabLt y (madeT s.fDdl))).length=n at hw⊢
  have hne: ∀k (h:k<d.fCat.fTables.length),d.fCat.fTables[k].fName≠s.fTable:=fun k h=>by
   rw[←hn]
   exact (z1 k1).1 _ (List.getElem_mem h)
  have hall:d.fCat.fTables.map (chRow d s)=d.fData:=by
   apply List.ext_getElem
   ·simp[hl]
   ·intro k h1 h2
    simp only[List.getElem_map]
    exact hin k (by simpa using h1) (hne k (by simpa using h1))
  have hnew:chRow d s (madeT s.fDdl)=⟨[]⟩:=by
   have: ¬0≤tabAt d.fCat.fTables (madeT s.fDdl).fName:=fun h=>by
    obtain ⟨t,ht,hq⟩:=(tabAt_nn _ _).1 h
    exact (z1 k1).1 t ht hq
   unfold chRow
   rw[if_neg (fun g=>this g.1),if_neg this]
  unfold insAt
  rw[List.map_append,List.map_cons,hnew,←hall,List.map_take,List.map_drop]
 rw[if_neg k1]
 obtain ⟨z3,z4⟩:=z2 k1
 have hb:=tabAt_bd d.fCat.fTables s.fDdl.fTable
 obtain ⟨k,hk⟩: ∃k:Nat,tabAt d.fCat.fTables s.fDdl.fTable=k:=⟨_,(Int.toNat_of_nonneg z3).symm⟩
 have hkl:k<d.fCat.fTables.length:=by omega
 have hix:dbIx d s.fDdl.fTable=k:=by unfold dbIx;rw[hk];rfl
 have hnk:d.fCat.fTables[k].fName=s.fTable:=by
  have:=tabAt_get z3
  rw[hk,Int.toNat_natCast,List.getElem?_eq_getElem hkl] at this
  rw[←hn]
  exact this
 have hne: ∀j (h:j<d.fCat.fTables.length),j≠k→d.fCat.fTables[j].fName≠s.fTable:=fun j h hj e=>hj (tab_once hpw h hkl (by
  rw[List.getElem?_eq_getElem h,List.getElem?_eq_getElem hkl]
  simp only[Option.getD_some]
  rw[e,hnk]))
 by_cases k2:s.fDdl.fKind=2
 ·rw[if_pos k2,hix]
  have e:(catCh d.fCat s.fDdl).fTables=d.fCat.fTables.eraseIdx k:=by unfold catCh;rw[if_neg k1,if_pos k2,hk];rfl
  rw[e]
  apply List.ext_getElem
  ·rw[List.length_map,List.length_eraseIdx_of_lt hkl,List.length_eraseIdx_of_lt (by omega),hl]
  ·intro j h1 h2
   rw[List.length_map,List.length_eraseIdx_of_lt hkl] at h1
   simp only[List.getElem_map,List.getElem_eraseIdx]
   split
   ·exact hin j (by omega) (hne j (by omega) (by omega))
   ·exact hin (j+1) (by omega) (hne (j+1) (by omega) (by omega))
 ·rw[if_neg k2,hix]
  have e:(catCh d.fCat s.fDdl).fTables=d.fCat.fTables.set k (tabCh (tabOf d.fCat s.fDdl.fTable) s.fDdl):=by unfold catCh;rw[if_neg k1,if_neg k2,hk];rfl
  have hto:tabOf d.fCat s.fDdl.fTable=d.fCat.fTables[k]:=by
   unfold tabOf
   rw[hk,Int.toNat_natCast,List.getElem?_eq_getElem hkl]
   rfl
  rw[e,hto]
  apply List.ext_getElem
  ·simp[hl]
  ·intro j h1 h2
   simp only[List.length_map,List.length_set] at h1
   simp only[List.getElem_map,List.getElem_set]
   split
   ·rename_i hjk
    subst hjk
    rw[chRow_at hd s hkl (by rw[List.getElem?_eq_getElem hkl,tabCh_name];rfl),tabCh_name,if_pos hnk,List.getElem?_eq_getElem hkl]
    simp[stAll,k5]
   ·rename_i hjk
    exact hin j h1 (hne j h1 (fun e=>hjk e.symm))
theorem stmtOk_5 {s:GStmt} (h:stmtOk s=true) (k:s.fKind=5):ddlOk s.fDdl=true∧s.fDdl.fTable=s.fTable:=by
 simp only[stmtOk,Bool.and_eq_true,Bool.or_eq_true,decide_eq_true_eq,beq_iff_eq] at h
 rcases h.2 with (((h|h)|h)|h)|h
 ·omega
 ·omega
 ·omega
 ·omega
 ·exact ⟨h.2.1.2,tl_inj h.2.2⟩
def specExec (d:GDb) (s:GStmt):GDb×Int:=if dbOk d=false∨stmtOk s=false then (dDb,1) else dbExec d s
theorem execS_ok (d:GDb) (s:GStmt) (hd:okDb d) (hky: ∀t∈d.fCat.fTables,t.fKeys.length≤1048576) (hso:okStmt s):VC Tryz.prog 175 [vDb d,vStmt s] [(true,fDb (specExec d s).1),(false,[(.s,.sc (.int .i64 (specExec d s).2))])]:=by
 refine vc_of_ewF good hm [0,1,2,3,4,5,17,6,36,40,7,8,64,9] Tryz.func175 rfl (by kernel_rfl) (by kernel_rfl) rfl ?_
 simp[Tryz.f175,fDb]
 refine .of (dbOkS_ok d hd hky) ?_
 simp
 refine .of (fun g=>⟨g,stmtOkS_ok s hso⟩) ?_
 simp
 refine ⟨fun h=>by simp[specExec,h,dDb,dCat],fun h1 h2=> ?_⟩
 have hE0:specExec d s=dbExec d s:=by simp[specExec,h1,h2]
 rw[hE0]
 obtain ⟨_,_,hs1,hs2,hs3,hs4⟩:=stmtOk_ok h2
 have hco:=catOk_ok (dbOk_cat h1)
 have hl:=dbOk_len h1
 have hb:=tabAt_bd d.fCat.fTables s.fTable
 have hat:=l02At_ok d.fCat s.fTable hco.1.1.1
 have hE:dbExec d s=if tabAt d.fCat.fTables s.fTable<0∧ ¬(s.fKind=5∧s.fDdl.fKind=1) then (dDb,4) else
  if s.fKind=5 then (if (dbCh d s.fDdl).2≠0 then (dDb,10+(dbCh d s.fDdl).2) else dbCh d s.fDdl) else
  if (stRows (tabOf d.fCat s.fTable) (dataOf d (dbIx d s.fTable)) s).2≠0 then (dDb,10+(stRows (tabOf d.fCat s.fTable) (dataOf d (dbIx d s.fTable)) s).2) else
  (⟨d.fCat,d.fData.set (dbIx d s.fTable) ⟨(stRows (tabOf d.fCat s.fTable) (dataOf d (dbIx d s.fTable)) s).1⟩⟩,0):=rfl
 by_cases k5:s.fKind=5
 ·refine .of hat ?_
  simp[k5]
  refine ⟨fun h1 h2=>by rw[hE,if_pos ⟨h1,fun h=>h2 h.2⟩];simp[dDb,dCat],fun h3=> ?_⟩
  rw[if_neg (fun h=>h.2 ⟨k5,h3 h.1⟩),if_pos k5] at hE
  obtain ⟨hx,hn⟩:=stmtOk_5 h2 k5
  have hlc:=l04Change_ok d s h1 h2
  unfold vStmt at hlc
  rw[k5] at hlc
  refine .of hlc ?_
  simp[fDb]
  have hch:dbCh d s.fDdl=if (ddlApply d.fCat s.fDdl).2≠0 then (dDb,(ddlApply d.fCat s.fDdl).2) else (⟨catCh d.fCat s.fDdl,dataCh d s.fDdl⟩,0):=rfl
  by_cases h0:(ddlApply d.fCat s.fDdl).2=0
  ·rw[if_neg (by simp[h0])] at hch
   rw[hch,if_neg (by simp)] at hE
   obtain ⟨q1,q2,q3,q4⟩:=ddlApply_ok h0
   rw[hE]
   simp only[h0,if_true]
   rw[←chData h1 hx k5 hn q3]
   simp
  ·rw[if_pos h0] at hch
   rw[hch,if_pos h0] at hE
   rw[hE]
   simp[h0]
 ·by_cases ht:tabAt d.fCat.fTables s.fTable<0
  ·refine .of hat ?_
   simp[k5,ht]
   rw[hE,if_pos ⟨ht,fun h=>k5 h.1⟩]
   simp[dDb,dCat]
  ·rw[if_neg (fun h=>ht h.1),if_neg k5] at hE
   obtain ⟨k,hk⟩: ∃k:Nat,tabAt d.fCat.fTables s.fTable=k:=⟨_,(Int.toNat_of_nonneg (by omega)).symm⟩
   have hkl:k<d.fCat.fTables.length:=by omega
   have hkd:k<d.fData.length:=by omega
   rw[hk] at hat
   have htk:tabOf d.fCat s.fTable=d.fCat.fTables[k]:=by
    unfold tabOf
    rw[hk]
    simp[hkl]
   have hix:dbIx d s.fTable=k:=by unfold dbIx;rw[hk];rfl
   have hdk:dataOf d k=d.fData[k].fRows:=by unfold dataOf;simp[hkd]
   have hm:d.fCat.fTables[k]∈d.fCat.fTables:=List.getElem_mem hkl
   have hro:rowsOk d.fCat.fTables[k] d.fData[k].fRows=true:=by
    have:=((dbOk_iff d).1 h1).2.2 k hkl
    simpa [hkl,hkd] using this
   have hrs:=(rowsOk_ok hro).1
   rw[htk,hix,hdk] at hE
   have hk0: ¬((k:Int)<0):=by omega
   have hsa:stAll d.fCat.fTables[k] d.fData[k].fRows s=stRows d.fCat.fTables[k] d.fData[k].fRows s:=by simp[stAll,k5]
   have hlr:=l04Rows_ok d.fCat.fTables[k] d.fData[k].fRows s (hco.1.1.2 _ hm) (by have:=(hco.2.2 _ hm).2.2;omega) hrs hso hs1 hs3 hs4
   rw[hsa] at hlr
   have hbd:=stRows_bd d.fCat.fTables[k] d.fData[k].fRows s
   refine .of hat ?_
   simp[k5,hk0,hkl,hkd,eTable,eRows]
   refine .of hlr ?_
   simp[fRowS]
   refine ⟨fun h=>by rw[hE,if_pos h,wrap10 hbd.1 hbd.2];simp[dDb,dCat],fun h=> .of (l04Copy_ok d (dbOk_bd h1)) ?_⟩
   rw[hE,if_neg (by simp[h])]
   simp[mDb,md,lf,eRows,List.range',hkd]
   exact full_set (fun j=>if j=k then [Md.s] else [(Md.o 58 (fun _=> [(Md.o 152 (fun _=> [Md.s,Md.s,Md.s]))]))]) (fun i=>by by_cases h:i=k<;>simp[h]) d.fData k (stRows d.fCat.fTables[k] d.fData[k].fRows s).1
theorem execS_at (D:GDb) {l:List GStmt} {i:Nat} (hD:dbOk D=true) (h:i<l.length):execL D (l.drop i) i=if (specExec D (l[i]?.getD dStmt)).2≠0 then (dDb,(specExec D (l[i]?.getD dStmt)).2,(i:Int)) else execL (specExec D (l[i]?.getD dStmt)).1 (l.drop (i+1)) (i+1):=by
 rw[execL_at D h]
 unfold specExec
 by_cases hs:stmtOk (l[i]?.getD dStmt)=false
 ·simp[hs]
 ·simp[hs,hD]
theorem execAllS_ok (d:GDb) (l:List GStmt) (hd:okDb d) (hk: ∀t∈d.fCat.fTables,t.fKeys.length≤1048576) (hl: ∀s∈l,okStmt s) (hml:okM l.length):VC Tryz.prog 141 [vDb d,vStmtS l] [(true,fDb (execAll d l).1),(false,[(.s,.sc (.int .i64 (execAll d l).2.1))]),(false,[(.s,.sc (.int .i64 (execAll d l).2.2))])]:=by
 unfold okM at hml
 refine vc_of_ewF good hm [0,1,2,4,5,6,14,7,18,19,20,21,9,8,10,11,32] Tryz.func141 rfl (by kernel_rfl) (by kernel_rfl) rfl ?_
 simp[Tryz.f141,fDb]
 refine .of (dbOkS_ok d hd hk) ?_
 simp
 refine ⟨fun h=>by simp[execAll,h,dDb,dCat],fun h=> .of ((l04Copy_ok d (dbOk_bd h)).frz (by simp[FullRs,FullML,mDb])) ?_⟩
 simp[mDb]
 have hE:execAll d l=execL d l 0:=by simp[execAll,h]
 rw[hE]
 refine ew_loop (fun E=> ∃ (i:Nat) (D:GDb),i≤l.length∧dbOk D=true∧execL d l 0=execL D (l.drop i) i∧E= {nt:=39,sl:= [(4,.p (.bx 4 0)),(7,.p (.bx 7 0)),(18,vStmtS l),(19,int .i64 l.length),(20,int .i64 i)],bx:= [(4,[.n [Lf.sc (Value.string ⟨#[]⟩),Lf.ls [Lf.sc (Value.string ⟨#[]⟩),Lf.sc (Value.int IntKind.i64 0),Lf.sc (Value.bool false),Lf.sc (Value.bool false),Lf.sc (Value.int IntKind.i64 0),Lf.sc (Value.int IntKind.i64 0),Lf.sc (Value.string ⟨#[]⟩)] [],Lf.ls [Lf.sc (Value.string ⟨#[]⟩)] []],.n [Lf.ls [Lf.ls [Lf.sc (Value.int IntKind.i64 0),Lf.sc (Value.int IntKind.i64 0),Lf.sc (Value.string ⟨#[]⟩)] []] []]]),(7,[.s (.ls [Lf.sc (Value.string ⟨#[]⟩),Lf.ls [Lf.sc (Value.string ⟨#[]⟩),Lf.sc (Value.int IntKind.i64 0),Lf.sc (Value.bool false),Lf.sc (Value.bool false),Lf.sc (Value.int IntKind.i64 0),Lf.sc (Value.int IntKind.i64 0),Lf.sc (Value.string ⟨#[]⟩)] [],Lf.ls [Lf.sc (Value.string ⟨#[]⟩)] []] (D.fCat.fTables.map eTable)),.s (.ls [Lf.ls [Lf.ls [Lf.sc (Value.int IntKind.i64 0),Lf.sc (Value.int IntKind.i64 0),Lf.sc (Value.string ⟨#[]⟩)] []] []] (D.fData.map eRows))])],rt:= []}) (fun E=>l.length- (E.num 20).toNat) _ (Gh.kb _ [4,7,18,19,20] [4,7] []) ⟨0,d,by omega,h,by simp,by simp⟩ ?_
 rintro E1 ⟨i,D,hi,hD,hx,rfl⟩
 simp
 refine ⟨fun hil=> ?_,fun hil=> ?_⟩
 ·have hs:=hl _ (getD_mem dStmt hil)
  rw[execS_at D hD hil] at hx
  refine ⟨hil,.of (execS_ok D _ (dbOk_ok hD) (dbOk_key hD) hs) ?_⟩
  simp[fDb]
  refine ⟨fun h2=>by rw[hx,if_pos h2];simp[dDb,dCat],fun h2=> ?_⟩
  rw[if_neg (by simp[h2])] at hx
  have hso:stmtOk (l[i]?.getD dStmt)=true:=by
   cases hq:stmtOk (l[i]?.getD dStmt) with
   |true=>rfl
   |false=>
    unfold specExec at h2
    rw[if_pos (.inr hq)] at h2
    cases h2
  have hse:specExec D (l[i]?.getD dStmt)=dbExec D (l[i]?.getD dStmt):=by simp[specExec,hD,hso]
  refine .of _ (Gh.kb _ [4,7,18,19,20] [4,7] []) ⟨i+1,by omega,(specExec D (l[i]?.getD dStmt)).1,by rw[hse] at h2⊢;exact dbExec_ok hD h2,hx, ?_⟩ ?_
  ·simp[wrapS (show i<9223372036854775807 by omega)]
  ·simp[wrapS (show i<9223372036854775807 by omega)];omega
 ·have:i=l.length:=by omega
  subst this
  rw[hx,List.drop_length,execL]
  simp
end Go.Proofs.YtanlbohhmoifcaaGreat
namespace Go.Proofs.YtanlbohhmoifcaaGreat
open Go Go.Proofs Go.Sm
attribute [local simp] ti eStr eInt eByte eVal vVal eCol vCol vColS vStrS eTable cTable vTable vTableS cCat vCat eValS vValS eRow cRow vRow vRowS eRows vRowsS cDb vDb eDdl cDdl vDdl eStmt cStmt vStmt eRec vRec eSlot vSlot eRecS vRecS eSlotS vSlotS vStmtS
set_option linter.unusedVariables false
set_option linter.unusedSimpArgs false
def vInts (l:List Int):SV:=list [.sc (.int .i64 0)] (l.map eInt)
def mInts (l:List Int):ML:= [(.o 3 (fun _=> [.s]),.ls [.sc (.int .i64 0)] (l.map eInt))]
@[simp] theorem row_Ints (l:List Int) (i:Nat):(Option.map eInt l[i]?).getD [.sc (.int .i64 0)]=eInt (l[i]?.getD 0):=by cases l[i]? <;>rfl
attribute [local simp] vInts
theorem idxInt1_ok (l:List Int) (k:Nat) (ds:List Lf) (p:Int→Bool) (hl:okM l.length) (hk: ∀x∈l,VC Tryz.prog k [int .i64 x,.p (.ps ds)] [(false,[(.s,.sc (.bool (p x)))])]):
  VC Tryz.prog 165 [vInts l,.fn k [.ps ds]] [(false,[(.s,.sc (.int .i64 (idxF p l)))])]:=by
 unfold okM at hl
 refine vc_of_ew good hm [0,1,4,7,8,9,5,16] Tryz.func165 rfl (by kernel_rfl) (by kernel_rfl) rfl ?_
 simp[Tryz.f165]
 refine ew_loop (fun E=> ∃i:Nat,i≤l.length∧anyT p l i=false∧E= {nt:=19,sl:= [(0,vInts l),(1,.fn k [.ps ds]),(7,int .i64 l.length),(8,int .i64 i)],bx:= [],rt:= []}) (fun E=>l.length- (E.num 8).toNat) _ (Gh.kb _ [0,1,7,8] [] []) ⟨0,by omega,anyT_zero _ _,by simp⟩ ?_
 rintro E1 ⟨i,hi,hall,rfl⟩
 simp
 refine ⟨fun h=>⟨h,.of (hk _ (getD_mem 0 h)) ?_⟩,fun h=> ?_⟩
 ·simp
  refine ⟨fun hp=>(idxF_at p 0 h hall hp).symm,fun hp=> .of _ (Gh.kb _ [0,1,7,8] [] []) ⟨i+1,by omega,by rw[anyT_succ p 0 h,hall,hp];rfl, ?_⟩ ?_⟩
  ·simp[wrapS (show i<9223372036854775807 by omega)]
  ·simp[wrapS (show i<9223372036854775807 by omega)];omega
 ·have:i=l.length:=by omega
  subst this
  rw[anyT_all] at hall
  exact (idxF_no p hall).symm
theorem indexInt_ok (l:List Int) (s:Int) (hl:okM l.length):
  VC Tryz.prog 164 [vInts l,int .i64 s] [(false,[(.s,.sc (.int .i64 (idxF (fun x=>s==x) l)))])]:=by
 unfold okM at hl
 refine vc_of_ew good hm [0,1,4,7,8,9,5,16] Tryz.func164 rfl (by kernel_rfl) (by kernel_rfl) rfl ?_
 simp[Tryz.f164]
 refine ew_loop (fun E=> ∃i:Nat,i≤l.length∧anyT (fun x=>s==x) l i=false∧E= {nt:=19,sl:= [(0,vInts l),(1,int .i64 s),(7,int .i64 l.length),(8,int .i64 i)],bx:= [],rt:= []}) (fun E=>l.length- (E.num 8).toNat) _ (Gh.kb _ [0,1,7,8] [] []) ⟨0,by omega,anyT_zero _ _,by simp⟩ ?_
 rintro E1 ⟨i,hi,hall,rfl⟩
 simp
 refine ⟨fun h=>⟨h,fun hp=>(idxF_at _ 0 h hall (by simpa using hp)).symm,fun hp=> .of _ (Gh.kb _ [0,1,7,8] [] []) ⟨i+1,by omega,by rw[anyT_succ _ 0 h,hall];simpa using hp, ?_⟩ ?_⟩,fun h=> ?_⟩
 ·simp[wrapS (show i<9223372036854775807 by omega)]
 ·simp[wrapS (show i<9223372036854775807 by omega)];omega
 ·have:i=l.length:=by omega
  subst this
  rw[anyT_all] at hall
  exact (idxF_no _ hall).symm
theorem containsInt_ok (l:List Int) (s:Int) (hl:okM l.length):VC Tryz.prog 124 [vInts l,int .i64 s] [(false,[(.s,.sc (.bool (l.any (fun x=>s==x))))])]:=by
 refine vc_of_ew good hm [0,1,4] Tryz.func124 rfl (by kernel_rfl) (by kernel_rfl) rfl ?_
 simp[Tryz.f124]
 refine .of (indexInt_ok l s hl) ?_
 simp
 rw[idxF_ge]
theorem idxF_spec {α:Type} (p:α→Bool) (d:α) (l:List α) (h:l.any p=true): ∃i:Nat,idxF p l=i∧i<l.length∧p (l[i]?.getD d)=true∧(l.take i).filter (fun x=> !p x)=l.take i:=by
 have hi:l.findIdx p<l.length:=List.findIdx_lt_length.2 (List.any_eq_true.1 h)
 refine ⟨l.findIdx p,by simp[idxF,h],hi, ?_, ?_⟩
 ·rw[List.getElem?_eq_getElem hi,Option.getD_some]
  exact List.findIdx_getElem
 ·rw[List.filter_eq_self]
  intro x hx
  obtain ⟨j,hj,rfl⟩:=List.getElem_of_mem hx
  rw[List.length_take] at hj
  rw[List.getElem_take]
  have:=List.not_of_lt_findIdx (p:=p) (xs:=l) (i:=j) (by omega)
  simpa using this
theorem delFuncInt_ok (l:List Int) (k:Nat) (ds:List Lf) (p:Int→Bool) (hl:l.length≤1048576) (hk: ∀x∈l,VC Tryz.prog k [int .i64 x,.p (.ps ds)] [(false,[(.s,.sc (.bool (p x)))])]):
  VX Tryz.prog 125 [.v false [.r [900]],.fn k [.ps ds]] (mInts l) [(false,mInts (l.filter fun x=> !p x))]:=by
 refine vx_of_ew good hm [0,1,4,5,12,6,19,7,29] Tryz.func125 rfl (by kernel_rfl) (by kernel_rfl) rfl ?_
 simp[Tryz.f125,mInts]
 refine .of (idxInt1_ok l k ds p (by unfold okM;omega) hk) ?_
 simp
 refine ⟨fun h=> ?_,fun h=> ?_⟩
 ·have ha:l.any p=false:=by
   have:=idxF_ge p l
   rw[h] at this
   exact this.symm
  have hf:l.filter (fun x=> !p x)=l:=by
   rw[List.filter_eq_self]
   intro x hx
   have:=List.any_eq_false.1 ha x hx
   simpa using this
  refine .of _ (Gh.refl _) ?_
  simp[hf]
 ·have ha:l.any p=true:=by
   cases hx:l.any p with
   |true=>rfl
   |false=>exact absurd (idxF_no p hx) h
  obtain ⟨i0,e0,hi0,hp0,hf0⟩:=idxF_spec p 0 l ha
  rw[e0]
  refine ew_loop (fun E=> ∃ (a j:Nat) (M:List Int),a<j∧j≤l.length∧M.length=l.length∧M.take a=(l.take j).filter (fun x=> !p x)∧(∀x,j≤x→M[x]? =l[x]?)∧E= {nt:=42,sl:= [(0,.v false [.r [900]]),(1,.fn k [.ps ds]),(5,int .i64 a),(6,int .i64 j)],bx:= [],rt:=(mInts M).map fun y=>(900,y)}) (fun E=>l.length- (E.num 6).toNat) _ (Gh.kb _ [0,1,5,6] [] [900]) ⟨i0,i0+1,l,by omega,by omega,rfl, ?_,fun _ _=>rfl, ?_⟩ ?_
  ·rw[List.take_succ_eq_append_getElem hi0,List.filter_append,hf0]
   rw[List.getElem?_eq_getElem hi0,Option.getD_some] at hp0
   simp[hp0]
  ·simp[wrapS (show i0<9223372036854775807 by omega),mInts]
  rintro E1 ⟨a,j,M,haj,hj,hM,hta,htl,rfl⟩
  simp[mInts,hM]
  refine ⟨fun h1=> ?_,fun h1=> ?_⟩
  ·have hmj:M[j]? =l[j]? :=htl j (Nat.le_refl _)
   have hg: ∀h',M[j]'h'=l[j]?.getD 0:=fun h'=>by
    rw[←hmj,List.getElem?_eq_getElem h'];rfl
   simp[md,lf,hM,h1,hg,List.range']
   refine .of (hk l[j] (List.getElem_mem h1)) ?_
   simp[md,lf,hM,h1]
   have hft: ∀b,p l[j]=b→(l.take (j+1)).filter (fun x=> !p x)=(l.take j).filter (fun x=> !p x)++(if b=true then [] else [l[j]]):=fun b hb=>by
    rw[List.take_succ_eq_append_getElem h1,List.filter_append]
    congr 1
    cases b<;>simp[hb]
   refine ⟨fun hp=>⟨by omega,.of _ (Gh.kb _ [0,1,5,6] [] [900]) ⟨a+1,j+1,by omega,by omega,M.set a l[j],by simp[hM], ?_,fun x hx=> ?_, ?_⟩ ?_⟩,fun hp=> .of _ (Gh.kb _ [0,1,5,6] [] [900]) ⟨a,j+1,by omega,by omega,M,hM, ?_,fun x hx=>htl x (by omega), ?_⟩ ?_⟩
   ·rw[hft _ hp,←hta,List.take_succ_eq_append_getElem (by simp[hM];omega),List.take_set_of_le (Nat.le_refl _)]
    simp
   ·rw[List.getElem?_set_ne (by omega)]
    exact htl x (by omega)
   ·simp[wrapS (show j<9223372036854775807 by omega),wrapS (show a<9223372036854775807 by omega),mInts]
   ·simp[wrapS (show j<9223372036854775807 by omega)];omega
   ·rw[hft _ hp,←hta]
    simp
   ·simp[wrapS (show j<9223372036854775807 by omega),mInts]
   ·simp[wrapS (show j<9223372036854775807 by omega)];omega
  ·have:j=l.length:=by omega
   subst this
   refine ⟨by omega,by omega,by omega,.of _ (Gh.trunc (t:=4) (r:=900) (n:=a) (sz:=1) rfl rfl (by simp;omega)) ?_⟩
   rw[List.take_length] at hta
   simp[←hta]
   rw[List.take_append_of_le_length (by simp[hM];omega),List.take_take,Nat.min_self]
end Go.Proofs.YtanlbohhmoifcaaGreat
