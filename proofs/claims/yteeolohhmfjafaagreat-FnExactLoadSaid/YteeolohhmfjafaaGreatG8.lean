import Derived.Test.YteeolohhmfjafaaGreatG5
import Derived.Test.YteeolohhmfjafaaGreatG4
import Derived.Test.YteeolohhmfjafaaGreatG7
import Derived.Test.YteeolohhmfjafaaGreatG6
set_option maxHeartbeats 8000000
set_option maxRecDepth 8000
namespace Go.Proofs.YteeolohhmfjafaaGreat
open Go Go.Proofs Go.Sm
attribute [local simp] ti eStr eInt eByte eVal cVal vVal eValS vValS eRow cRow vRow eCol cCol vCol vColS eStrS vStrS eDdl cDdl vDdl cStmt vStmt ePart vPart vPartS eTable cTable vTable vTableS cCat vCat vRowS eRows vRows vRowsS eDb cDb vDb eFol vFol eSnap cSnap vSnap
set_option linter.unusedVariables false
set_option linter.unusedSimpArgs false
set_option maxRecDepth 8000
def fDb (d:GDb):ML:= [(Md.s,Lf.ls [Lf.sc (Value.string ⟨#[]⟩),Lf.ls [Lf.sc (Value.string ⟨#[]⟩),Lf.sc (Value.int IntKind.i64 0),Lf.sc (Value.bool false),Lf.sc (Value.bool false),Lf.sc (Value.int IntKind.i64 0),Lf.sc (Value.int IntKind.i64 0),Lf.sc (Value.string ⟨#[]⟩)] [],Lf.ls [Lf.sc (Value.string ⟨#[]⟩)] []] (d.fCat.fTables.map eTable)),(Md.s,Lf.ls [Lf.ls [Lf.ls [Lf.sc (Value.int IntKind.i64 0),Lf.sc (Value.int IntKind.i64 0),Lf.sc (Value.string ⟨#[]⟩)] []] []] (d.fData.map eRows))]
def fCat (c:GCat):ML:= [(Md.s,Lf.ls [Lf.sc (Value.string ⟨#[]⟩),Lf.ls [Lf.sc (Value.string ⟨#[]⟩),Lf.sc (Value.int IntKind.i64 0),Lf.sc (Value.bool false),Lf.sc (Value.bool false),Lf.sc (Value.int IntKind.i64 0),Lf.sc (Value.int IntKind.i64 0),Lf.sc (Value.string ⟨#[]⟩)] [],Lf.ls [Lf.sc (Value.string ⟨#[]⟩)] []] (c.fTables.map eTable))]
def fRowS (l:List GRow):ML:= [(Md.s,Lf.ls [Lf.ls [Lf.sc (Value.int IntKind.i64 0),Lf.sc (Value.int IntKind.i64 0),Lf.sc (Value.string ⟨#[]⟩)] []] (l.map eRow))]
end Go.Proofs.YteeolohhmfjafaaGreat
namespace Go.Proofs.YteeolohhmfjafaaGreat
open Go Go.Proofs Go.Sm
attribute [local simp] ti eStr eInt eByte eVal cVal vVal eValS vValS eRow cRow vRow eCol cCol vCol vColS eStrS vStrS eDdl cDdl vDdl cStmt vStmt ePart vPart vPartS eTable cTable vTable vTableS cCat vCat vRowS eRows vRows vRowsS eDb cDb vDb eFol vFol eSnap cSnap vSnap
set_option linter.unusedVariables false
set_option linter.unusedSimpArgs false
set_option maxRecDepth 8000
theorem l02Copy_ok (c:GCat) (hl:c.fTables.length≤1048576) (hb: ∀t∈c.fTables,bdTable t):VC Tryz.prog 244 [vCat c] [(true,mCat c)]:=by
 refine vc_of_ew good hm [0,1,2,3,8,9,10,11,5] Tryz.func244 rfl (by kernel_rfl) (by kernel_rfl) rfl ?_
 simp[Tryz.f244,mCat]
 refine ew_loop (fun E=> ∃i:Nat,i≤c.fTables.length∧E= {nt:=23,sl:= [(2,.p (.bx 2 0)),(3,.p (.bx 3 0)),(8,vTableS c.fTables),(9,int .i64 c.fTables.length),(10,int .i64 i)],bx:= [(2,[.n [Lf.sc (Value.string ⟨#[]⟩),Lf.ls [Lf.sc (Value.string ⟨#[]⟩),Lf.sc (Value.int IntKind.i64 0),Lf.sc (Value.bool false),Lf.sc (Value.bool false),Lf.sc (Value.int IntKind.i64 0),Lf.sc (Value.int IntKind.i64 0),Lf.sc (Value.string ⟨#[]⟩)] [],Lf.ls [Lf.sc (Value.string ⟨#[]⟩)] []]]),(3,[.r [990]])],rt:=(mTableS (c.fTables.take i)).map fun y=>(990,y)}) (fun E=>c.fTables.length- (E.num 10).toNat) _ ((Gh.nlB _ 3 0 990 201 (fun _=> [.s,(Md.o 236 (fun _=> [Md.s,Md.s,Md.s,Md.s,Md.s,Md.s,Md.s])),.o 9 (fun _=> [.s])]) [Lf.sc (Value.string ⟨#[]⟩),Lf.ls [Lf.sc (Value.string ⟨#[]⟩),Lf.sc (Value.int IntKind.i64 0),Lf.sc (Value.bool false),Lf.sc (Value.bool false),Lf.sc (Value.int IntKind.i64 0),Lf.sc (Value.int IntKind.i64 0),Lf.sc (Value.string ⟨#[]⟩)] [],Lf.ls [Lf.sc (Value.string ⟨#[]⟩)] []]).trans (Gh.kb _ [2,3,8,9,10] [2,3] [990])) ⟨0,by omega,by simp[mTableS]⟩ ?_
 rintro E1 ⟨i,hi,rfl⟩
 simp[mTableS]
 refine ⟨fun h=>⟨h,.of (l02Table_ok _ (hb _ (getD_mem dTable h))) ?_⟩,fun h=> ?_⟩
 ·simp[mTable]
  refine ⟨by omega,.of _ ((Gh.kb _ [2,3,8,9,10] [2,3] [19]).trans (Gh.rn _ 19 990)) ⟨i+1,by omega, ?_⟩ ?_⟩
  ·rw[take_rowM dTable h]
   simp[wrapS (show i<9223372036854775807 by omega),mTableS]
  ·simp[wrapS (show i<9223372036854775807 by omega)];omega
 ·have:i=c.fTables.length:=by omega
  subst this
  rw[←List.map_take,List.take_length]
theorem l02Put_ok (c:GCat) (t:GTable) (hl:c.fTables.length≤1048576):VC Tryz.prog 379 [vCat c,vTable t] [(true,[(Md.s,Lf.ls [Lf.sc (Value.string ⟨#[]⟩),Lf.ls [Lf.sc (Value.string ⟨#[]⟩),Lf.sc (Value.int IntKind.i64 0),Lf.sc (Value.bool false),Lf.sc (Value.bool false),Lf.sc (Value.int IntKind.i64 0),Lf.sc (Value.int IntKind.i64 0),Lf.sc (Value.string ⟨#[]⟩)] [],Lf.ls [Lf.sc (Value.string ⟨#[]⟩)] []] ((insW (fun y=> !tabLt t y) t c.fTables).map eTable))])]:=by
 refine vc_of_ewF good hm [0,1,2,3,4,5,6,11,12,13,14,8,25,40] Tryz.func379 rfl (by kernel_rfl) (by kernel_rfl) rfl ?_
 simp[Tryz.f379]
 refine ew_loop (fun E=> ∃i:Nat,i≤c.fTables.length∧E= {nt:=48,sl:= [(3,.p (.bx 3 0)),(4,.p (.bx 4 0)),(5,.p (.bx 5 0)),(6,bool (anyT (fun y=>tabLt t y) c.fTables i)),(11,vTableS c.fTables),(12,int .i64 c.fTables.length),(13,int .i64 i)],bx:= [(3,cTable t),(4,[.n [Lf.sc (Value.string ⟨#[]⟩),Lf.ls [Lf.sc (Value.string ⟨#[]⟩),Lf.sc (Value.int IntKind.i64 0),Lf.sc (Value.bool false),Lf.sc (Value.bool false),Lf.sc (Value.int IntKind.i64 0),Lf.sc (Value.int IntKind.i64 0),Lf.sc (Value.string ⟨#[]⟩)] [],Lf.ls [Lf.sc (Value.string ⟨#[]⟩)] []]]),(5,[.r [990]])],rt:= [(990,.o 201 (fun _=> [.s,.s,.s]),.ls [Lf.sc (Value.string ⟨#[]⟩),Lf.ls [Lf.sc (Value.string ⟨#[]⟩),Lf.sc (Value.int IntKind.i64 0),Lf.sc (Value.bool false),Lf.sc (Value.bool false),Lf.sc (Value.int IntKind.i64 0),Lf.sc (Value.int IntKind.i64 0),Lf.sc (Value.string ⟨#[]⟩)] [],Lf.ls [Lf.sc (Value.string ⟨#[]⟩)] []] ((layTo (fun y=>tabLt t y) t c.fTables i).map eTable))]}) (fun E=>c.fTables.length- (E.num 13).toNat) _ ((Gh.nlB _ 5 0 990 201 (fun _=> [.s,.s,.s]) [Lf.sc (Value.string ⟨#[]⟩),Lf.ls [Lf.sc (Value.string ⟨#[]⟩),Lf.sc (Value.int IntKind.i64 0),Lf.sc (Value.bool false),Lf.sc (Value.bool false),Lf.sc (Value.int IntKind.i64 0),Lf.sc (Value.int IntKind.i64 0),Lf.sc (Value.string ⟨#[]⟩)] [],Lf.ls [Lf.sc (Value.string ⟨#[]⟩)] []]).trans (Gh.kb _ [3,4,5,6,11,12,13] [3,4,5] [990])) ⟨0,by omega,by simp[layTo_zero,anyT_zero]⟩ ?_
 rintro E1 ⟨i,hi,rfl⟩
 have hL:=layTo_len (fun y=>tabLt t y) t c.fTables i
 simp
 have hs:=layTo_succ (fun y=>tabLt t y) t dTable (l:=c.fTables) (i:=i)
 have ha:=anyT_succ (fun y=>tabLt t y) dTable (l:=c.fTables) (i:=i)
 refine ⟨fun h=>⟨h,fun q1 q2=>⟨by omega,by omega,.of _ ((Gh.kb _ [3,4,5,6,11,12,13] [3,4,5] [36]).trans (Gh.rn _ 36 990)) ⟨i+1,by omega, ?_⟩ ?_⟩,fun q=>⟨by omega,.of _ ((Gh.kb _ [3,4,5,6,11,12,13] [3,4,5] [36]).trans (Gh.rn _ 36 990)) ⟨i+1,by omega, ?_⟩ ?_⟩⟩,fun h=> ?_⟩
 ·replace hs:=hs h
  replace ha:=ha h
  rw[if_pos ⟨q1,q2⟩] at hs
  rw[q1,show tabLt t (c.fTables[i]?.getD dTable)=true from q2] at ha
  rw[hs,ha]
  simp[wrapS (show i<9223372036854775807 by omega),eTable]
 ·simp[wrapS (show i<9223372036854775807 by omega)];omega
 ·replace hs:=hs h
  replace ha:=ha h
  have hq: ¬((c.fTables.take i).any (fun y=>tabLt t y)=false∧tabLt t (c.fTables[i]?.getD dTable)=true):=fun ⟨q1,q2⟩=>by
   have:=q q1
   rw[show Op.bytesLess t.fName.toList (c.fTables[i]?.getD dTable).fName.toList=true from q2] at this
   cases this
  rw[if_neg hq] at hs
  have ha2:anyT (fun y=>tabLt t y) c.fTables (i+1)=anyT (fun y=>tabLt t y) c.fTables i:=by
   rw[ha]
   cases hx:anyT (fun y=>tabLt t y) c.fTables i with
   |true=>rfl
   |false=>
    rw[Bool.false_or]
    exact q hx
  rw[hs,ha2]
  simp[wrapS (show i<9223372036854775807 by omega),eTable]
 ·simp[wrapS (show i<9223372036854775807 by omega)];omega
 ·have:i=c.fTables.length:=by omega
  subst this
  have he:=layTo_end (fun y=>tabLt t y) t c.fTables
  have hfu: ∀l:List GTable,Full (Md.o 201 (fun _=> [Md.s,Md.s,Md.s])) (.ls [Lf.sc (Value.string ⟨#[]⟩),Lf.ls [Lf.sc (Value.string ⟨#[]⟩),Lf.sc (Value.int IntKind.i64 0),Lf.sc (Value.bool false),Lf.sc (Value.bool false),Lf.sc (Value.int IntKind.i64 0),Lf.sc (Value.int IntKind.i64 0),Lf.sc (Value.string ⟨#[]⟩)] [],Lf.ls [Lf.sc (Value.string ⟨#[]⟩)] []] (l.map eTable)):=fun l=>Full_rowsF (fun i x j hj=>match j,hj with|0,_=> .s|1,_=> .s|2,_=> .s|n+3,hj=>absurd hj (by simp)) l
  refine ⟨fun q=> ?_,fun q=> ?_⟩
  ·rw[anyT_all] at q
   rw[q] at he
   refine ⟨by omega, ?_⟩
   rw[he]
   simp[eTable]
  ·rw[anyT_all] at q
   rw[q,if_pos rfl] at he
   rw[he]
theorem l02Fault_ok (t:GTable) (d:GDdl) (ht:bdTable t) (hd2:ddlOk d=true):VC Tryz.prog 380 [vTable t,vDdl d] [(false,[(.s,.sc (.int .i64 (tabCode t d)))])]:=by
 have hc:okM t.fCols.length:=by have:=ht.1;unfold okM;omega
 have hk:okM t.fKeys.length:=by have:=ht.2;unfold okM;omega
 refine vc_of_ew good hm [0,1,2,3,4,5,11,12,21,25,26,29,34,35,41,43] Tryz.func380 rfl (by kernel_rfl) (by kernel_rfl) rfl ?_
 simp[Tryz.f380]
 refine .of (colAtS_ok t d.fName hc) ?_
 simp
 have hE:tabCode t d=if (d.fKind=3∧0≤colAt t (col0 d).fName)∨(d.fKind=5∧0≤colAt t d.fTo) then 5 else
  if d.fKind=3∧t.fCols.length=8 then 6 else
  if (d.fKind=4∨d.fKind=5)∧colAt t d.fName<0 then 7 else
  if d.fKind=4∧has t.fKeys d.fName=true then 8 else 0:=rfl
 by_cases k3:d.fKind=3
 ·have hl:=(ddlOk_3 hd2 k3).1
  simp[k3] at hE⊢
  refine ⟨by omega,.of (colAtS_ok t (col0 d).fName hc) ?_⟩
  simp
  grind
 by_cases k4:d.fKind=4
 ·simp[k3,k4] at hE⊢
  refine ⟨fun h=>by rw[hE,if_pos h],fun h=> .of (l02Has_ok t.fKeys d.fName hk) ?_⟩
  simp
  grind
 by_cases k5:d.fKind=5
 ·simp[k3,k4,k5] at hE⊢
  refine .of (colAtS_ok t d.fTo hc) ?_
  simp
  grind
 ·simp[k3,k4,k5] at hE⊢
  exact hE.symm
def colsCh (d:GDdl) (l:List GCol):List GCol:=if d.fKind=4 then l.filter (fun c=> !(c.fName.toList==d.fName.toList)) else if d.fKind=5 then l.map (renC d.fName d.fTo) else l
theorem colsCh_succ (d:GDdl) {l:List GCol} {i:Nat} (h:i<l.length):colsCh d (l.take (i+1))=if d.fKind=4∧(l[i]?.getD dCol).fName.toList=d.fName.toList then colsCh d (l.take i) else if d.fKind=5 then colsCh d (l.take i)++ [renC d.fName d.fTo (l[i]?.getD dCol)] else colsCh d (l.take i)++ [l[i]?.getD dCol]:=by
 rw[take_row dCol h]
 unfold colsCh
 by_cases k4:d.fKind=4
 ·simp only[k4,if_true,List.filter_append]
  by_cases e:(l[i]?.getD dCol).fName.toList=d.fName.toList
  ·simp[e]
  ·simp[e]
 ·by_cases k5:d.fKind=5<;>simp[k4,k5]
theorem colsCh_len (d:GDdl) (l:List GCol):(colsCh d l).length≤l.length:=by
 unfold colsCh
 split
 ·exact List.length_filter_le _ _
 split<;>simp
def fTable (t:GTable):ML:= [(Md.s,Lf.sc (Value.string t.fName)),(Md.s,Lf.ls [Lf.sc (Value.string ⟨#[]⟩),Lf.sc (Value.int IntKind.i64 0),Lf.sc (Value.bool false),Lf.sc (Value.bool false),Lf.sc (Value.int IntKind.i64 0),Lf.sc (Value.int IntKind.i64 0),Lf.sc (Value.string ⟨#[]⟩)] (t.fCols.map eCol)),(Md.s,Lf.ls [Lf.sc (Value.string ⟨#[]⟩)] (t.fKeys.map eStr))]
def keyCh (d:GDdl) (k:ByteArray):ByteArray:=if d.fKind=5 then renS d.fName d.fTo k else k
theorem tabCh_eq (t:GTable) (d:GDdl):tabCh t d=if d.fKind=3 then ⟨t.fName,colsCh d t.fCols++ [col0 d],t.fKeys.map (keyCh d)⟩ else ⟨t.fName,colsCh d t.fCols,t.fKeys.map (keyCh d)⟩:=by
 have hk: ∀l:List ByteArray,d.fKind≠5→l.map (keyCh d)=l:=fun l h5=>by
  conv=>rhs;rw[←List.map_id l]
  exact List.map_congr_left fun x _=>by simp[keyCh,h5]
 have hk5: ∀l:List ByteArray,d.fKind=5→l.map (keyCh d)=l.map (renS d.fName d.fTo):=fun l h5=>List.map_congr_left fun x _=>by simp[keyCh,h5]
 unfold tabCh colsCh
 by_cases k3:d.fKind=3
 ·simp[k3,hk]
 by_cases k4:d.fKind=4
 ·simp[k4,hk]
 by_cases k5:d.fKind=5
 ·simp[k5,hk5]
 ·simp[k3,k4,k5,hk]
theorem l02Change_ok (t:GTable) (d:GDdl) (ht:bdTable t) (hd2:ddlOk d=true) (k1:d.fKind≠1) (k2:d.fKind≠2):VC Tryz.prog 381 [vTable t,vDdl d] [(true,fTable (tabCh t d))]:=by
 obtain ⟨ht1,ht2⟩:=ht
 refine vc_of_ewF good hm [0,1,2,3,4,5,17,18,19,20,7,32,42,55,56,57,8,71,81] Tryz.func381 rfl (by kernel_rfl) (by kernel_rfl) rfl ?_
 simp[Tryz.f381,fTable]
 refine ⟨by omega, ?_⟩
 refine ew_loop (fun E=> ∃i:Nat,i≤t.fCols.length∧E= {nt:=92,sl:= [(3,.p (.bx 3 0)),(4,.p (.bx 4 0)),(5,.p (.pt [5] 3 0 0)),(17,vColS t.fCols),(18,int .i64 t.fCols.length),(19,int .i64 i)],bx:= [(3,cDdl d),(4,[.s (.sc (.string ⟨#[]⟩)),.n [Lf.sc (Value.string ⟨#[]⟩),Lf.sc (Value.int IntKind.i64 0),Lf.sc (Value.bool false),Lf.sc (Value.bool false),Lf.sc (Value.int IntKind.i64 0),Lf.sc (Value.int IntKind.i64 0),Lf.sc (Value.string ⟨#[]⟩)],.n [.sc (.string ⟨#[]⟩)]])],rt:= [(5,(Md.o 201 (fun _=> [Md.s,(Md.o 236 (fun _=> [Md.s,Md.s,Md.s,Md.s,Md.s,Md.s,Md.s])),Md.o 9 (fun _=> [Md.s])])),.ls [Lf.sc (Value.string ⟨#[]⟩),Lf.ls [Lf.sc (Value.string ⟨#[]⟩),Lf.sc (Value.int IntKind.i64 0),Lf.sc (Value.bool false),Lf.sc (Value.bool false),Lf.sc (Value.int IntKind.i64 0),Lf.sc (Value.int IntKind.i64 0),Lf.sc (Value.string ⟨#[]⟩)] [],Lf.ls [Lf.sc (Value.string ⟨#[]⟩)] []] [eTable ⟨t.fName,colsCh d (t.fCols.take i),t.fKeys⟩])]}) (fun E=>t.fCols.length- (E.num 19).toNat) _ (Gh.kb _ [3,4,5,17,18,19] [3,4] [5]) ⟨0,by omega,by simp[colsCh,eTable]⟩ ?_
 rintro E1 ⟨i,hi,rfl⟩
 have hcl:=colsCh_len d (t.fCols.take i)
 have hcs:=fun h=>colsCh_succ d (l:=t.fCols) (i:=i) h
 rw[List.length_take] at hcl
 simp[eTable,md,lf,List.range']
 have hmd:(fun k:Nat=>if k=0 then [Md.s,(Md.o 236 (fun _=> [Md.s,Md.s,Md.s,Md.s,Md.s,Md.s,Md.s])),Md.o 9 (fun _=> [Md.s])] else if k=0 then [Md.s,Md.x,Md.o 9 (fun _=> [Md.s])] else [Md.s,(Md.o 236 (fun _=> [Md.s,Md.s,Md.s,Md.s,Md.s,Md.s,Md.s])),Md.o 9 (fun _=> [Md.s])])=fun _=> [Md.s,(Md.o 236 (fun _=> [Md.s,Md.s,Md.s,Md.s,Md.s,Md.s,Md.s])),Md.o 9 (fun _=> [Md.s])]:=by
  funext k
  by_cases hj:k=0<;>simp[hj]
 refine ⟨fun h=>⟨h,fun k4 q=> .of _ (Gh.kb _ [3,4,5,17,18,19] [3,4] [5]) ⟨i+1,by omega, ?_⟩ ?_,fun q=>⟨fun k5 e=>⟨by omega,.of _ (Gh.kb _ [3,4,5,17,18,19] [3,4] [5]) ⟨i+1,by omega, ?_⟩ ?_⟩,fun e=>⟨by omega,.of _ (Gh.kb _ [3,4,5,17,18,19] [3,4] [5]) ⟨i+1,by omega, ?_⟩ ?_⟩⟩⟩,fun h=> ?_⟩
 ·rw[hcs h,if_pos ⟨k4,q⟩]
  simp[wrapS (show i<9223372036854775807 by omega),eTable]
 ·simp[wrapS (show i<9223372036854775807 by omega)];omega
 ·rw[hcs h,if_neg (fun g=>q g.1 g.2),if_pos k5]
  simp[wrapS (show i<9223372036854775807 by omega),eTable,renC,e,eCol,hmd]
 ·simp[wrapS (show i<9223372036854775807 by omega)];omega
 ·have:colsCh d (t.fCols.take (i+1))=colsCh d (t.fCols.take i)++ [t.fCols[i]?.getD dCol]:=by
   rw[hcs h,if_neg (fun g=>q g.1 g.2)]
   split
   ·rename_i k5
    rw[renC_no (fun e2=>e k5 (by rw[e2]))]
   ·rfl
  rw[this]
  simp[wrapS (show i<9223372036854775807 by omega),eTable,eCol,hmd]
 ·simp[wrapS (show i<9223372036854775807 by omega)];omega
 ·have:i=t.fCols.length:=by omega
  subst this
  rw[List.take_length] at hcl⊢
  refine ew_loop (fun E=> ∃j:Nat,j≤t.fKeys.length∧E= {nt:=92,sl:= [(3,.p (.bx 3 0)),(4,.p (.bx 4 0)),(5,.p (.pt [5] 3 0 0)),(55,int .i64 t.fKeys.length),(56,int .i64 j)],bx:= [(3,cDdl d),(4,[.s (.sc (.string ⟨#[]⟩)),.n [Lf.sc (Value.string ⟨#[]⟩),Lf.sc (Value.int IntKind.i64 0),Lf.sc (Value.bool false),Lf.sc (Value.bool false),Lf.sc (Value.int IntKind.i64 0),Lf.sc (Value.int IntKind.i64 0),Lf.sc (Value.string ⟨#[]⟩)],.n [.sc (.string ⟨#[]⟩)]])],rt:= [(5,(Md.o 201 (fun _=> [Md.s,(Md.o 236 (fun _=> [Md.s,Md.s,Md.s,Md.s,Md.s,Md.s,Md.s])),Md.o 9 (fun _=> [Md.s])])),.ls [Lf.sc (Value.string ⟨#[]⟩),Lf.ls [Lf.sc (Value.string ⟨#[]⟩),Lf.sc (Value.int IntKind.i64 0),Lf.sc (Value.bool false),Lf.sc (Value.bool false),Lf.sc (Value.int IntKind.i64 0),Lf.sc (Value.int IntKind.i64 0),Lf.sc (Value.string ⟨#[]⟩)] [],Lf.ls [Lf.sc (Value.string ⟨#[]⟩)] []] [eTable ⟨t.fName,colsCh d t.fCols,chTo (keyCh d) t.fKeys j⟩])]}) (fun E=>t.fKeys.length- (E.num 56).toNat) _ (Gh.kb _ [3,4,5,55,56] [3,4] [5]) ⟨0,by omega,by simp[chTo_zero,eTable]⟩ ?_
  rintro E1 ⟨j,hj,rfl⟩
  have hlen:=chTo_len (keyCh d) t.fKeys j
  have hget:=chTo_get (keyCh d) t.fKeys j
  have hsu:=fun h=>chTo_succ (keyCh d) (⟨#[]⟩:ByteArray) (l:=t.fKeys) (i:=j) h
  have hal:=chTo_all (keyCh d) t.fKeys
  generalize hM:chTo (keyCh d) t.fKeys j=M at hlen hget hsu
  simp[eTable,md,lf,List.range',hlen]
  have hg: ∀h:j<t.fKeys.length,M[j]?.getD ⟨#[]⟩=t.fKeys[j]?.getD ⟨#[]⟩:=fun _=>by rw[hget]
  refine ⟨fun h=>⟨fun k5=>⟨k5,h⟩,fun k5 e=>⟨h,.of _ (Gh.kb _ [3,4,5,55,56] [3,4] [5]) ⟨j+1,by omega, ?_⟩ ?_⟩,fun e=> .of _ (Gh.kb _ [3,4,5,55,56] [3,4] [5]) ⟨j+1,by omega, ?_⟩ ?_⟩,fun h=> ?_⟩
  ·rw[hsu h,List.map_set]
   rw[hg h] at e
   simp[wrapS (show j<9223372036854775807 by omega),eTable,hmd,keyCh,k5,renS,e]
  ·simp[wrapS (show j<9223372036854775807 by omega)];omega
  ·have:M.set j (keyCh d (t.fKeys[j]?.getD ⟨#[]⟩))=M:=by
    have h1:keyCh d (t.fKeys[j]?.getD ⟨#[]⟩)=M[j]'(by omega):=by
     have h2:=hg h
     rw[List.getElem?_eq_getElem (l:=M) (by omega)] at h2
     simp only[Option.getD_some] at h2
     unfold keyCh
     split
     ·rename_i k5
      rw[(renS_eq _ _ _).2 (fun e2=>e k5 (by rw[hg h,e2])),h2]
     ·exact h2.symm
    rw[h1]
    exact List.set_getElem_self ..
   rw[hsu h,this]
   simp[wrapS (show j<9223372036854775807 by omega),eTable]
  ·simp[wrapS (show j<9223372036854775807 by omega)];omega
  ·have:j=t.fKeys.length:=by omega
   subst this
   rw[hM] at hal
   rw[hal,tabCh_eq]
   refine ⟨fun k3=>⟨by have:=(ddlOk_3 hd2 k3).1;omega,by omega, ?_⟩,fun k3=> ?_⟩
   ·simp[k3,eCol,col0]
   ·simp[k3]
end Go.Proofs.YteeolohhmfjafaaGreat
namespace Go.Proofs.YteeolohhmfjafaaGreat
open Go Go.Proofs Go.Sm
attribute [local simp] ti eStr eInt eByte eVal cVal vVal eValS vValS eRow cRow vRow eCol cCol vCol vColS eStrS vStrS eDdl cDdl vDdl cStmt vStmt ePart vPart vPartS eTable cTable vTable vTableS cCat vCat vRowS eRows vRows vRowsS eDb cDb vDb eFol vFol eSnap cSnap vSnap
set_option linter.unusedVariables false
set_option linter.unusedSimpArgs false
set_option maxRecDepth 8000
theorem full_sT (cols:Nat→List Md) (hc: ∀i,cols i= [Md.s,(Md.o 236 (fun _=> [Md.s,Md.s,Md.s,Md.s,Md.s,Md.s,Md.s])),Md.o 9 (fun _=> [Md.s])]∨cols i= [Md.s,Md.s,Md.s]) (l:List GTable):Full (Md.o 201 cols) (.ls [Lf.sc (Value.string ⟨#[]⟩),Lf.ls [Lf.sc (Value.string ⟨#[]⟩),Lf.sc (Value.int IntKind.i64 0),Lf.sc (Value.bool false),Lf.sc (Value.bool false),Lf.sc (Value.int IntKind.i64 0),Lf.sc (Value.int IntKind.i64 0),Lf.sc (Value.string ⟨#[]⟩)] [],Lf.ls [Lf.sc (Value.string ⟨#[]⟩)] []] (l.map eTable)):=by
 refine Full_rowsF (fun i x j hj=> ?_) _
 rcases hc i with h|h<;>rw[h]
 ·exact (match j,hj with
  |0,_=> .s
  |1,_=>of_eq_true (full_ColS x.fCols)
  |2,_=>of_eq_true (full_StrS x.fKeys)
  |n+3,hj=>absurd hj (by simp))
 ·exact (match j,hj with
  |0,_=> .s
  |1,_=> .s
  |2,_=> .s
  |n+3,hj=>absurd hj (by simp))
theorem ddlApplyS_ok (c:GCat) (d:GDdl) (hc:okCat c) (hd:okDdl d) (h1:d.fCols.length≤1048576) (h2:d.fKeys.length≤1048576):VC Tryz.prog 289 [vCat c,vDdl d] [(true,fCat (ddlApply c d).1),(false,[(.s,.sc (.int .i64 (ddlApply c d).2))])]:=by
 refine vc_of_ewF good hm [0,1,2,3,4,5,16,6,7,26,28,33,46,8,56,61] Tryz.func289 rfl (by kernel_rfl) (by kernel_rfl) rfl ?_
 simp[Tryz.f289,fCat]
 refine .of (catOkS_ok c hc) ?_
 simp
 refine .of (fun g=>⟨g,ddlOkS_ok d hd⟩) ?_
 simp
 have hE:ddlApply c d=if catOk c=false∨ddlOk d=false then (⟨[]⟩,1) else if ddlCode c d≠0 then (⟨[]⟩,ddlCode c d) else (catCh c d,0):=rfl
 refine ⟨fun h=>by rw[hE,if_pos h];simp,fun h3 h4=> ?_⟩
 rw[if_neg (by simp[h3,h4])] at hE
 obtain ⟨hcl,hct⟩:=(catOk_ok h3).2
 have hat:=l02At_ok c d.fTable hc.1.1
 have hb:=tabAt_bd c.fTables d.fTable
 have hcp:=l02Copy_ok c (by omega) (fun t ht=>(hct t ht).2)
 have hE1:d.fKind=1→ddlCode c d=if 0≤tabAt c.fTables d.fTable then 2 else if c.fTables.length=6 then 3 else 0:=fun h=>by simp[ddlCode,h]
 have hE2:d.fKind≠1→ddlCode c d=if tabAt c.fTables d.fTable<0 then 4 else tabCode (tabOf c d.fTable) d:=fun h=>by simp[ddlCode,h]
 by_cases k1:d.fKind=1
 ·refine .of hat ?_
  simp
  refine .of (hcp.frz (by simp[FullRs,FullML,mCat])) ?_
  simp[mCat,k1]
  have hE1:=hE1 k1
  refine ⟨fun q=>by
   have:ddlCode c d=2:=by rw[hE1,if_pos q]
   rw[hE,this]
   simp,fun q=>⟨fun q2=>by
   have:ddlCode c d=3:=by rw[hE1,if_neg (by omega),if_pos (by omega)]
   rw[hE,this]
   simp,fun q2=> ?_⟩⟩
  rw[if_neg (by omega),if_neg (by omega)] at hE1
  rw[hE,hE1]
  refine .of ((l02Table_ok (madeT d) ⟨h1,h2⟩).frz (by simp[FullRs,FullML,mTable])) ?_
  simp[mTable]
  refine .of (l02Put_ok c (madeT d) (by omega)) ?_
  simp
  have hne:=(ddlCode_0 hE1).1 k1
  unfold catCh
  rw[if_pos k1]
  have:insW (fun y=> !tabLt (madeT d) y) (madeT d) c.fTables=insW (fun y=>tabLt y (madeT d)) (madeT d) c.fTables:=insW_congr _ fun y hy=>by
   rcases tabLt_total (a:=y) (b:=madeT d) (fun e=>hne.1 y hy e) with h|h
   ·rw[h,tabLt_asymm h];rfl
   ·rw[h,tabLt_asymm h];rfl
  rw[this]
 ·have hE2:=hE2 k1
  by_cases ht:tabAt c.fTables d.fTable<0
  ·rw[if_pos ht] at hE2
   refine .of hat ?_
   simp
   refine .of (hcp.frz (by simp[FullRs,FullML,mCat])) ?_
   simp[mCat,k1,ht]
   rw[hE,hE2]
   simp
  ·rw[if_neg ht] at hE2
   obtain ⟨k,hk⟩: ∃k:Nat,tabAt c.fTables d.fTable=k:=⟨_,(Int.toNat_of_nonneg (by omega)).symm⟩
   have hkl:k<c.fTables.length:=by omega
   have hk0: ¬((k:Int)<0):=by omega
   rw[hk] at hat
   have htk:tabOf c d.fTable=c.fTables[k]:=by
    unfold tabOf
    rw[hk]
    simp[hkl]
   rw[htk] at hE2
   have hm:c.fTables[k]∈c.fTables:=List.getElem_mem hkl
   have hbt:=(hct _ hm).2
   have hfa:=l02Fault_ok c.fTables[k] d hbt h4
   by_cases k2:d.fKind=2
   ·refine .of hat ?_
    simp
    refine .of (hcp.frz (by simp[FullRs,FullML,mCat])) ?_
    simp[mCat,k1,hk0,hkl,eTable]
    refine .of hfa ?_
    simp[k2]
    refine ⟨fun h=>by rw[hE,hE2,if_pos h];simp,fun h=> ?_⟩
    rw[hE,hE2,if_neg (by simp[h])]
    have hw:=wrapS (show k<9223372036854775807 by omega)
    have hcc:(catCh c d).fTables=c.fTables.eraseIdx k:=by
     unfold catCh
     rw[if_neg k1,if_pos k2,hk]
     rfl
    rw[hw]
    refine ⟨by omega,by omega,⟨by omega,by omega⟩,by omega, ?_,rfl⟩
    show _=(catCh c d).fTables.map eTable
    rw[hcc,List.eraseIdx_eq_take_drop_succ,List.take_of_length_le (l:=c.fTables.map eTable) (i:=c.fTables.length) (by simp)]
    simp
   ·refine .of hat ?_
    simp
    refine .of hcp ?_
    simp[mCat,k1,hk0,hkl,eTable]
    refine .of hfa ?_
    simp[k2]
    refine ⟨fun h=>by rw[hE,hE2,if_pos h];simp[FullRs,FullML],fun h=> ?_⟩
    rw[hE,hE2,if_neg (by simp[h])]
    refine ⟨hkl, ?_⟩
    have hlc:=l02Change_ok c.fTables[k] d hbt h4 k1 k2
    simp only[List.getElem?_eq_getElem hkl,Option.getD_some]
    refine .of hlc ?_
    simp[fTable,md,lf,eTable,List.range',hkl,FullRs,FullML]
    have hset:(catCh c d).fTables=c.fTables.set k (tabCh c.fTables[k] d):=by
     unfold catCh
     rw[if_neg k1,if_neg k2,hk,htk]
     rfl
    have hfin:(c.fTables.map eTable).set k (eTable (tabCh c.fTables[k] d))=(catCh c d).fTables.map eTable:=by
     rw[hset,List.map_set]
    refine ⟨?_,hfin⟩
    have hfu:=full_sT (fun j=>if j=k then [Md.s,Md.s,Md.s] else [Md.s,(Md.o 236 (fun _=> [Md.s,Md.s,Md.s,Md.s,Md.s,Md.s,Md.s])),Md.o 9 (fun _=> [Md.s])]) (fun i=>by by_cases h:i=k<;>simp[h]) (catCh c d).fTables
    rw[←hfin] at hfu
    exact hfu
end Go.Proofs.YteeolohhmfjafaaGreat
namespace Go.Proofs.YteeolohhmfjafaaGreat
open Go Go.Proofs Go.Sm
attribute [local simp] ti eStr eInt eByte eVal cVal vVal eValS vValS eRow cRow vRow eCol cCol vCol vColS eStrS vStrS eDdl cDdl vDdl cStmt vStmt ePart vPart vPartS eTable cTable vTable vTableS cCat vCat vRowS eRows vRows vRowsS eDb cDb vDb eFol vFol eSnap cSnap vSnap
set_option linter.unusedVariables false
set_option linter.unusedSimpArgs false
set_option maxRecDepth 8000
def bdDb (d:GDb):Prop:=(d.fCat.fTables.length≤1048576∧ ∀t∈d.fCat.fTables,bdTable t)∧d.fData.length≤1048576∧ ∀r∈d.fData,r.fRows.length≤1048576∧ ∀x∈r.fRows,x.fVals.length≤1048576
theorem dbOk_bd {d:GDb} (h:dbOk d=true):bdDb d:=by
 obtain ⟨_,h1,h2⟩:=catOk_ok (dbOk_cat h)
 refine ⟨⟨by omega,fun t ht=>(h2 t ht).2⟩,by have:=dbOk_len h;omega,fun r hr=> ?_⟩
 obtain ⟨t,ht,hr2⟩:=dbOk_rows h r hr
 have:=rowsOk_ok hr2
 exact ⟨by omega,fun x hx=>by have:=this.2.2 x hx;omega⟩
theorem copyDb_ok (d:GDb) (h:bdDb d):VC Tryz.prog 152 [vDb d] [(true,mDb d)]:=by
 obtain ⟨⟨h1,h2⟩,h3,h4⟩:=h
 refine vc_of_ew good hm [0,1,2,3,11,12,13,14,5] Tryz.func152 rfl (by kernel_rfl) (by kernel_rfl) rfl ?_
 simp[Tryz.f152,mDb]
 refine .of (copyCat_ok d.fCat h1 h2) ?_
 simp[mCat]
 refine ew_loop (fun E=> ∃i:Nat,i≤d.fData.length∧E= {nt:=28,sl:= [(2,.p (.bx 2 0)),(3,.p (.bx 3 0)),(11,vRowsS d.fData),(12,int .i64 d.fData.length),(13,int .i64 i)],bx:= [(2,[.n [Lf.sc (Value.string ⟨#[]⟩),Lf.ls [Lf.sc (Value.string ⟨#[]⟩),Lf.sc (Value.int IntKind.i64 0),Lf.sc (Value.bool false),Lf.sc (Value.bool false),Lf.sc (Value.int IntKind.i64 0),Lf.sc (Value.int IntKind.i64 0),Lf.sc (Value.string ⟨#[]⟩)] [],Lf.ls [Lf.sc (Value.string ⟨#[]⟩)] []],.n [Lf.ls [Lf.ls [Lf.sc (Value.int IntKind.i64 0),Lf.sc (Value.int IntKind.i64 0),Lf.sc (Value.string ⟨#[]⟩)] []] []]]),(3,[.r [8],.r [990]])],rt:=((mRowsS (d.fData.take i)).map fun y=>(990,y))++((mTableS d.fCat.fTables).map fun y=>(8,y))}) (fun E=>d.fData.length- (E.num 13).toNat) _ ((Gh.nlB _ 3 1 990 205 (fun _=> [(Md.o 120 (fun _=> [(Md.o 234 (fun _=> [Md.s,Md.s,Md.s]))]))]) [Lf.ls [Lf.ls [Lf.sc (Value.int IntKind.i64 0),Lf.sc (Value.int IntKind.i64 0),Lf.sc (Value.string ⟨#[]⟩)] []] []]).trans (Gh.kb _ [2,3,11,12,13] [2,3] [990,8])) ⟨0,by omega,by simp[mRowsS,mTableS]⟩ ?_
 rintro E1 ⟨i,hi,rfl⟩
 simp[mRowsS,mTableS]
 refine ⟨fun h=>⟨h,.of (copyRows_ok _ (h4 _ (getD_mem dRows h)).1 (h4 _ (getD_mem dRows h)).2) ?_⟩,fun h=> ?_⟩
 ·simp[mRowS]
  refine ⟨by omega,.of _ ((Gh.kb _ [2,3,11,12,13] [2,3] [24,8]).trans (Gh.rn _ 24 990)) ⟨i+1,by omega, ?_⟩ ?_⟩
  ·rw[take_rowM dRows h]
   simp[wrapS (show i<9223372036854775807 by omega),mRowsS,mTableS,eRows]
  ·simp[wrapS (show i<9223372036854775807 by omega)];omega
 ·have:i=d.fData.length:=by omega
  subst this
  rw[←List.map_take,List.take_length]
theorem changed_ok (d:GDb) (x:GDdl) (hd:dbOk d=true) (hx:okDdl x) (h1:x.fCols.length≤1048576) (h2:x.fKeys.length≤1048576):VC Tryz.prog 202 [vDb d,vDdl x] [(true,mDb (dbCh d x).1),(false,[(.s,.sc (.int .i64 (dbCh d x).2))])]:=by
 have hod:=dbOk_ok hd
 have hco:=catOk_ok (dbOk_cat hd)
 refine vc_of_ew good hm [0,1,2,3,4,5,6,7,20,8,9,31,55,67,10] Tryz.func202 rfl (by kernel_rfl) (by kernel_rfl) rfl ?_
 simp[Tryz.f202,mDb]
 refine .of (ddlApplyI_ok d.fCat x hco.1 hx h1 h2) ?_
 have hE:dbCh d x=if (ddlApply d.fCat x).2≠0 then (dDb,(ddlApply d.fCat x).2) else (⟨catCh d.fCat x,dataCh d x⟩,0):=rfl
 simp[mCat]
 refine ⟨fun h=>by rw[hE,if_pos h];simp[dDb,dCat],fun h3=> .of (copyDb_ok d (dbOk_bd hd)) ?_⟩
 rw[if_neg (by simp[h3])] at hE
 obtain ⟨q1,q2,q3,q4⟩:=ddlApply_ok h3
 rw[hE]
 have hz:=ddlCode_0 q3
 rw[q4]
 simp[mDb]
 have hl:=dbOk_len hd
 by_cases k1:x.fKind=1
 ·refine .of (at_ok d.fCat x.fTable hco.1.1.1) ?_
  simp[k1]
  have hcc:=catCh_ok q1 q2 q3
  have hca:=at_ok (catCh d.fCat x) x.fTable (by have:=(catOk_ok hcc).2.1;unfold okM;omega)
  have hn:(tabAt (catCh d.fCat x).fTables x.fTable)=((tabAt (catCh d.fCat x).fTables x.fTable).toNat:Nat):=by
   have h4:0≤tabAt (catCh d.fCat x).fTables x.fTable:=(tabAt_nn _ _).2 ⟨madeT x,by unfold catCh;rw[if_pos k1];exact insW_mem.2 (.inl rfl),rfl⟩
   omega
  have hnl:(tabAt (catCh d.fCat x).fTables x.fTable).toNat≤d.fData.length:=by
   rw[insW_tab q1 q2 k1 q3,hl]
   exact takeW_len _ _
  have hdc:dataCh d x=insAt d.fData (tabAt (catCh d.fCat x).fTables x.fTable).toNat ⟨[]⟩:=by unfold dataCh;rw[if_pos k1]
  generalize (tabAt (catCh d.fCat x).fTables x.fTable).toNat=n at hn hnl hdc
  rw[hn] at hca
  refine .of hca ?_
  simp
  refine ⟨of_eq_true (full_RowsS [⟨[]⟩]),.use (vx_ins (i:=n) (rows:=d.fData.map eRows) (row:=eRows ⟨[]⟩) (z:= [Lf.ls [Lf.ls [Lf.sc (Value.int IntKind.i64 0),Lf.sc (Value.int IntKind.i64 0),Lf.sc (Value.string ⟨#[]⟩)] []] []]) (cols:=fun _=> [(Md.o 120 (fun _=> [(Md.o 234 (fun _=> [Md.s,Md.s,Md.s]))]))]) (cols':=fun _=> [(Md.o 120 (fun _=> [(Md.o 234 (fun _=> [Md.s,Md.s,Md.s]))]))]) ⟨_,_,Tryz.func313,rfl,by kernel_rfl⟩ rawIns_Rows (by decide) (by decide) rfl (by simp;omega) (by simp;omega)) ?_⟩
  simp[colsI_const]
  rw[hdc]
  simp[insAt,eRows]
 ·obtain ⟨z1,z2⟩:=hz.2 k1
  obtain ⟨k,hk⟩: ∃k:Nat,tabAt d.fCat.fTables x.fTable=k:=⟨_,(Int.toNat_of_nonneg z1).symm⟩
  have hat:=at_ok d.fCat x.fTable hco.1.1.1
  have hb:=tabAt_bd d.fCat.fTables x.fTable
  have hkl:k<d.fCat.fTables.length:=by omega
  have hkd:k<d.fData.length:=by omega
  rw[hk] at hat
  refine .of hat ?_
  simp[k1]
  have htk:tabOf d.fCat x.fTable=d.fCat.fTables[k]:=by
   unfold tabOf
   rw[hk]
   simp[hkl]
  have hix:dbIx d x.fTable=k:=by unfold dbIx;rw[hk];rfl
  have hdk:dataOf d k=d.fData[k].fRows:=by unfold dataOf;simp[hkd]
  have hm:d.fCat.fTables[k]∈d.fCat.fTables:=List.getElem_mem hkl
  have hmd:d.fData[k]∈d.fData:=List.getElem_mem hkd
  refine ⟨fun k2=> ?_,fun k2=> ?_⟩
  ·simp[wrapS (show k<9223372036854775807 by omega)]
   refine .use (vx_del (i:=k) (rows:=d.fData.map eRows) (z:= [Lf.ls [Lf.ls [Lf.sc (Value.int IntKind.i64 0),Lf.sc (Value.int IntKind.i64 0),Lf.sc (Value.string ⟨#[]⟩)] []] []]) (cols:=fun _=> [(Md.o 120 (fun _=> [(Md.o 234 (fun _=> [Md.s,Md.s,Md.s]))]))]) ⟨_,_,Tryz.func314,rfl,by kernel_rfl⟩ rawDel_Rows (by decide) rfl (by simp;omega)) ?_
   simp[colsD_const]
   unfold dataCh
   rw[if_neg k1,if_pos k2,hix,List.eraseIdx_eq_take_drop_succ]
   simp
  ·have hro:rowsOk d.fCat.fTables[k] d.fData[k].fRows=true:=by
    have:=((dbOk_iff d).1 hd).2.2 k hkl
    simpa [hkl,hkd] using this
   have htab:=hco.1.1.2 _ hm
   refine ⟨hkl,hkd, ?_⟩
   have hrd:=rowsDdlI_ok d.fCat.fTables[k] d.fData[k].fRows x htab (by have:=(hco.2.2 _ hm).2.2;omega) (rowsOk_ok hro).1 hx h1 h2
   simp[hkl,hkd]
   refine .of hrd ?_
   simp[mRowS,md,lf,eRows,List.range',hkd]
   unfold dataCh
   rw[if_neg k1,if_neg k2,hix,htk,hdk,List.map_set]
   rfl
end Go.Proofs.YteeolohhmfjafaaGreat
namespace Go.Proofs.YteeolohhmfjafaaGreat
open Go Go.Proofs Go.Sm
attribute [local simp] ti eStr eInt eByte eVal cVal vVal eValS vValS eRow cRow vRow eCol cCol vCol vColS eStrS vStrS eDdl cDdl vDdl cStmt vStmt ePart vPart vPartS eTable cTable vTable vTableS cCat vCat vRowS eRows vRows vRowsS eDb cDb vDb eFol vFol eSnap cSnap vSnap
set_option linter.unusedVariables false
set_option linter.unusedSimpArgs false
set_option maxRecDepth 8000
theorem l04Copy_ok (d:GDb) (h:bdDb d):VC Tryz.prog 143 [vDb d] [(true,mDb d)]:=by
 obtain ⟨⟨h1,h2⟩,h3,h4⟩:=h
 refine vc_of_ew good hm [0,1,2,3,11,12,13,14,5] Tryz.func143 rfl (by kernel_rfl) (by kernel_rfl) rfl ?_
 simp[Tryz.f143,mDb]
 refine .of (l02Copy_ok d.fCat h1 h2) ?_
 simp[mCat]
 refine ew_loop (fun E=> ∃i:Nat,i≤d.fData.length∧E= {nt:=28,sl:= [(2,.p (.bx 2 0)),(3,.p (.bx 3 0)),(11,vRowsS d.fData),(12,int .i64 d.fData.length),(13,int .i64 i)],bx:= [(2,[.n [Lf.sc (Value.string ⟨#[]⟩),Lf.ls [Lf.sc (Value.string ⟨#[]⟩),Lf.sc (Value.int IntKind.i64 0),Lf.sc (Value.bool false),Lf.sc (Value.bool false),Lf.sc (Value.int IntKind.i64 0),Lf.sc (Value.int IntKind.i64 0),Lf.sc (Value.string ⟨#[]⟩)] [],Lf.ls [Lf.sc (Value.string ⟨#[]⟩)] []],.n [Lf.ls [Lf.ls [Lf.sc (Value.int IntKind.i64 0),Lf.sc (Value.int IntKind.i64 0),Lf.sc (Value.string ⟨#[]⟩)] []] []]]),(3,[.r [8],.r [990]])],rt:=((mRowsS (d.fData.take i)).map fun y=>(990,y))++((mTableS d.fCat.fTables).map fun y=>(8,y))}) (fun E=>d.fData.length- (E.num 13).toNat) _ ((Gh.nlB _ 3 1 990 205 (fun _=> [(Md.o 120 (fun _=> [(Md.o 234 (fun _=> [Md.s,Md.s,Md.s]))]))]) [Lf.ls [Lf.ls [Lf.sc (Value.int IntKind.i64 0),Lf.sc (Value.int IntKind.i64 0),Lf.sc (Value.string ⟨#[]⟩)] []] []]).trans (Gh.kb _ [2,3,11,12,13] [2,3] [990,8])) ⟨0,by omega,by simp[mRowsS,mTableS]⟩ ?_
 rintro E1 ⟨i,hi,rfl⟩
 simp[mRowsS,mTableS]
 refine ⟨fun h=>⟨h,.of (l03Copy_ok _ (h4 _ (getD_mem dRows h)).1 (h4 _ (getD_mem dRows h)).2) ?_⟩,fun h=> ?_⟩
 ·simp[mRowS]
  refine ⟨by omega,.of _ ((Gh.kb _ [2,3,11,12,13] [2,3] [24,8]).trans (Gh.rn _ 24 990)) ⟨i+1,by omega, ?_⟩ ?_⟩
  ·rw[take_rowM dRows h]
   simp[wrapS (show i<9223372036854775807 by omega),mRowsS,mTableS,eRows]
  ·simp[wrapS (show i<9223372036854775807 by omega)];omega
 ·have:i=d.fData.length:=by omega
  subst this
  rw[←List.map_take,List.take_length]
def stAll (t:GTable) (l:List GRow) (s:GStmt):List GRow×Int:=if s.fKind=5 then rowsDdl t l s.fDdl else stRows t l s
end Go.Proofs.YteeolohhmfjafaaGreat
namespace Go.Proofs.YteeolohhmfjafaaGreat
open Go Go.Proofs Go.Sm
attribute [local simp] ti eStr eInt eByte eVal cVal vVal eValS vValS eRow cRow vRow eCol cCol vCol vColS eStrS vStrS eDdl cDdl vDdl cStmt vStmt ePart vPart vPartS eTable cTable vTable vTableS cCat vCat vRowS eRows vRows vRowsS eDb cDb vDb eFol vFol eSnap cSnap vSnap
set_option linter.unusedVariables false
set_option linter.unusedSimpArgs false
set_option maxRecDepth 8000
def vch (d:GDdl) (k:Nat) (l:List GVal):List GVal:=if d.fKind=4 then l.eraseIdx k else l
theorem vch_len (d:GDdl) (k:Nat) (l:List GVal):(vch d k l).length≤l.length:=by
 unfold vch
 split
 ·exact (List.eraseIdx_sublist ..).length_le
 ·exact Nat.le_refl _
theorem vch_succ (d:GDdl) (k:Nat) {l:List GVal} {j:Nat} (h:j<l.length):vch d k (l.take (j+1))=if d.fKind=4∧(j:Int)=k then vch d k (l.take j) else vch d k (l.take j)++ [l[j]?.getD dVal]:=by
 unfold vch
 by_cases k4:d.fKind=4
 ·simp only[k4,if_true,true_and]
  exact erTo dVal h
 ·simp only[k4,if_false,false_and]
  exact take_row dVal h
theorem rowsDdlS_ok (t:GTable) (l:List GRow) (d:GDdl) (ht:okTable t) (hk:t.fKeys.length≤1048576) (hl:okRowS l) (hd:okDdl d) (h1:d.fCols.length≤1048576) (h2:d.fKeys.length≤1048576):VC Tryz.prog 293 [vTable t,vRowS l,vDdl d] [(false,fRowS (rowsDdl t l d).1),(false,[(.s,.sc (.int .i64 (rowsDdl t l d).2))])]:=by
 refine vc_of_ewF good hm [0,1,2,3,5,6,7,37,9,47,10,11,54,55,56,57,13,14,62,63,64,65,16,15,76,86,99] Tryz.func293 rfl (by kernel_rfl) (by kernel_rfl) rfl ?_
 simp[Tryz.f293,fRowS]
 refine .of (rowsOkS_ok t l ht hl hk) ?_
 simp
 refine .of (fun g=>⟨g,ddlOkS_ok d hd⟩) ?_
 simp
 have hE:rowsDdl t l d=if rowsOk t l=false∨ddlOk d=false∨(d.fTable.toList==t.fName.toList)=false∨d.fKind=1 then ([],1) else if ddlCode ⟨[t]⟩ d≠0 then ([],ddlCode ⟨[t]⟩ d) else (if d.fKind=2 then [] else l.map (rowCh t d),0):=rfl
 refine ⟨fun h=>by rw[hE,if_pos (by simp only[beq_eq_false_iff_ne];grind)];simp,fun h3 h4 h5 k1=> ?_⟩
 rw[if_neg (by simp[h3,h4,h5,k1])] at hE
 have hn:d.fTable=t.fName:=tl_inj h5
 obtain ⟨g2,g3,g4,g5,g6⟩:=rowsOk_inv h3
 have htl:=tableOk_len g2
 have hoc:okCat ⟨[t]⟩:=⟨⟨by simp[okM],by simpa using ht⟩,trivial⟩
 have hcok:catOk ⟨[t]⟩=true:=(catOk_iff ⟨[t]⟩).2 ⟨by simpa using g2,by simp,by simp[tabPw]⟩
 have hD2:(ddlApply ⟨[t]⟩ d).2=ddlCode ⟨[t]⟩ d:=by
  unfold ddlApply
  rw[if_neg (by simp[hcok,h4])]
  split
  ·rfl
  ·rename_i h
   exact (Classical.not_not.1 h).symm
 have hda:=(ddlApplyS_ok ⟨[t]⟩ d hoc hd h1 h2).dim
 rw[hD2] at hda
 refine .of hda ?_
 simp[fCat]
 refine ⟨fun h=>by rw[hE,if_pos h];simp,fun h6=> ?_⟩
 rw[if_neg (by simp[h6])] at hE
 rw[hE]
 rw[ddlCode_one k1 hn] at h6
 obtain ⟨k,hk'⟩: ∃k:Int,colAt t d.fName=k:=⟨_,rfl⟩
 have hkn:d.fKind=4→ ∃n:Nat,k=n:=fun k4=>by
  have h:=colAt_nn.2 ((tabCode_0 h6).2.2 k4).1
  rw[hk'] at h
  exact ⟨_,(Int.toNat_of_nonneg h).symm⟩
 have hca:=colAtS_ok t d.fName ht.2.1.1
 rw[hk'] at hca
 refine .of hca ?_
 simp
 refine ew_loop (fun E=> ∃i:Nat,i≤l.length∧E= {nt:=106,sl:= [(5,.p (.bx 5 0)),(10,.v false [.r [49]]),(11,int .i64 k),(54,vRowS l),(55,int .i64 l.length),(56,int .i64 i)],bx:= [(5,cDdl d)],rt:=(mRowS (if d.fKind=2 then [] else (l.take i).map (rowCh t d))).map fun y=>(49,y)}) (fun E=>l.length- (E.num 56).toNat) _ (Gh.kb _ [5,10,11,54,55,56] [5] [49]) ⟨0,by omega,by simp[mRowS]⟩ ?_
 rintro E1 ⟨i,hi,rfl⟩
 simp[mRowS]
 refine ⟨fun h=>⟨h, ?_⟩,fun h=> ?_⟩
 ·have hrl:=rowFit_len (g4 _ (getD_mem dRow h))
  generalize hr:l[i]?.getD dRow=r at hrl
  refine ew_loop (fun E=> ∃j:Nat,j≤r.fVals.length∧E= {nt:=106,sl:= [(5,.p (.bx 5 0)),(10,.v false [.r [49]]),(11,int .i64 k),(54,vRowS l),(55,int .i64 l.length),(56,int .i64 i),(14,.p (.bx 14 0)),(62,vValS r.fVals),(63,int .i64 r.fVals.length),(64,int .i64 j)],bx:= [(5,cDdl d),(14,[.r [990]])],rt:=((mValS (vch d k.toNat (r.fVals.take j))).map fun y=>(990,y))++((mRowS (if d.fKind=2 then [] else (l.take i).map (rowCh t d))).map fun y=>(49,y))}) (fun E=>r.fVals.length- (E.num 64).toNat) _ ((Gh.nlB _ 14 0 990 234 (fun _=> [.s,.s,.s]) [Lf.sc (Value.int IntKind.i64 0),Lf.sc (Value.int IntKind.i64 0),Lf.sc (Value.string ⟨#[]⟩)]).trans (Gh.kb _ [5,10,11,54,55,56,14,62,63,64] [5,14] [990,49])) ⟨0,by omega,by simp[mRowS,mValS,vch]⟩ ?_
  rintro E2 ⟨j,hj,rfl⟩
  have hvl:=vch_len d k.toNat (r.fVals.take j)
  have hvs:=fun h=>vch_succ d k.toNat (l:=r.fVals) (j:=j) h
  rw[List.length_take] at hvl
  simp[mRowS,mValS]
  have hdr:(l.map (rowCh t d)).take (i+1)=(l.map (rowCh t d)).take i++ [rowCh t d r]:=by rw[take_rowM dRow h,hr]
  have hk4:d.fKind=4→((j:Int)=k.toNat↔ (j:Int)=k):=fun k4=>by
   obtain ⟨n,hn2⟩:=hkn k4
   rw[hn2,Int.toNat_natCast]
  refine ⟨fun hj2=>⟨hj2,fun q=>⟨by omega,.of _ ((Gh.kb _ [5,10,11,54,55,56,14,62,63,64] [5,14] [81,49]).trans (Gh.rn _ 81 990)) ⟨j+1,by omega, ?_⟩ ?_⟩,fun k4 q=> .of _ (Gh.kb _ [5,10,11,54,55,56,14,62,63,64] [5,14] [990,49]) ⟨j+1,by omega, ?_⟩ ?_⟩,fun hj2=> ?_⟩
  ·have hv:vch d k.toNat (r.fVals.take (j+1))=vch d k.toNat (r.fVals.take j)++ [r.fVals[j]?.getD dVal]:=by
    rw[hvs hj2,if_neg (fun g=>q.elim (fun q=>q g.1) (fun q=>q ((hk4 g.1).1 g.2)))]
   rw[hv]
   simp[wrapS (show j<9223372036854775807 by omega),mRowS,mValS,eVal]
  ·simp[wrapS (show j<9223372036854775807 by omega)];omega
  ·have hv:vch d k.toNat (r.fVals.take (j+1))=vch d k.toNat (r.fVals.take j):=by
    rw[hvs hj2,if_pos ⟨k4,(hk4 k4).2 q⟩]
   rw[hv]
   simp[wrapS (show j<9223372036854775807 by omega),mRowS,mValS]
  ·simp[wrapS (show j<9223372036854775807 by omega)];omega
  ·have:j=r.fVals.length:=by omega
   subst this
   rw[List.take_length] at hvl⊢
   refine ⟨fun k3=>⟨by have:=(ddlOk_3 h4 k3).1;omega,by omega,fun k2=>⟨by rw[if_neg k2];simp;omega,.of _ ((Gh.kb _ [5,10,11,54,55,56] [5] [103]).trans (Gh.rn _ 103 49)) ⟨i+1,by omega, ?_⟩ ?_⟩,fun k2=>by rw[k3] at k2;exact absurd k2 (by decide)⟩,fun k3=>⟨fun k2=>⟨by rw[if_neg k2];simp;omega,.of _ ((Gh.kb _ [5,10,11,54,55,56] [5] [103]).trans (Gh.rn _ 103 49)) ⟨i+1,by omega, ?_⟩ ?_⟩,fun k2=> .of _ (Gh.kb _ [5,10,11,54,55,56] [5] [49]) ⟨i+1,by omega, ?_⟩ ?_⟩⟩
   ·rw[hdr]
    have hrc:rowCh t d r=⟨r.fVals++ [(col0 d).fDef]⟩:=by simp[rowCh,k3]
    simp[wrapS (show i<9223372036854775807 by omega),mRowS,k2,hrc,vch,k3,eRow,eVal,col0]
   ·simp[wrapS (show i<9223372036854775807 by omega)];omega
   ·rw[hdr]
    have hrc:rowCh t d r=⟨vch d k.toNat r.fVals⟩:=by
     unfold rowCh vch
     rw[if_neg k3,hk']
     split<;>rfl
    simp[wrapS (show i<9223372036854775807 by omega),mRowS,k2,hrc,eRow]
   ·simp[wrapS (show i<9223372036854775807 by omega)];omega
   ·simp[wrapS (show i<9223372036854775807 by omega),mRowS,k2]
   ·simp[wrapS (show i<9223372036854775807 by omega)];omega
 ·have:i=l.length:=by omega
  subst this
  rw[←List.map_take,List.take_length]
end Go.Proofs.YteeolohhmfjafaaGreat
namespace Go.Proofs.YteeolohhmfjafaaGreat
open Go Go.Proofs Go.Sm
attribute [local simp] ti eStr eInt eByte eVal cVal vVal eValS vValS eRow cRow vRow eCol cCol vCol vColS eStrS vStrS eDdl cDdl vDdl cStmt vStmt ePart vPart vPartS eTable cTable vTable vTableS cCat vCat vRowS eRows vRows vRowsS eDb cDb vDb eFol vFol eSnap cSnap vSnap
set_option linter.unusedVariables false
set_option linter.unusedSimpArgs false
set_option maxRecDepth 8000
theorem full_set (cols:Nat→List Md) (hc: ∀i,cols i= [(Md.o 120 (fun _=> [(Md.o 234 (fun _=> [Md.s,Md.s,Md.s]))]))]∨cols i= [Md.s]) (l:List GRows) (k:Nat) (x:List GRow):Full (Md.o 205 cols) (.ls [Lf.ls [Lf.ls [Lf.sc (Value.int IntKind.i64 0),Lf.sc (Value.int IntKind.i64 0),Lf.sc (Value.string ⟨#[]⟩)] []] []] ((l.map eRows).set k (eRows ⟨x⟩))):=by
 rw[←List.map_set]
 refine Full_rowsF (fun i x j hj=> ?_) _
 match j,hj with
 |0,_=>
  rcases hc i with h|h<;>rw[h]
  ·exact of_eq_true (full_RowS x.fRows)
  ·exact .s
 |n+1,hj=>exact absurd hj (by simp)
theorem wrap10 {n:Int} (h:0≤n) (h2:n≤100):IntKind.i64.wrap (10+n)=10+n:=by
 obtain ⟨m,rfl⟩: ∃m:Nat,n=m:=⟨_,(Int.toNat_of_nonneg h).symm⟩
 have:=wrapS (show 9+m<9223372036854775807 by omega)
 rw[show (10+(m:Int))=((9+m:Nat):Int)+1 by omega]
 exact this
theorem dbCh_bd (d:GDb) (x:GDdl):0≤(dbCh d x).2∧(dbCh d x).2≤100:=by
 unfold dbCh
 split
 ·show 0≤(ddlApply d.fCat x).2∧(ddlApply d.fCat x).2≤100
  unfold ddlApply
  split
  ·exact ⟨(by decide:(0:Int)≤1),(by decide:(1:Int)≤100)⟩
  split
  ·show 0≤ddlCode _ _∧ddlCode _ _≤100
   unfold ddlCode tabCode
   grind
  ·exact ⟨(by decide:(0:Int)≤0),(by decide:(0:Int)≤100)⟩
 ·exact ⟨(by decide:(0:Int)≤0),(by decide:(0:Int)≤100)⟩
theorem stRows_bd (t:GTable) (l:List GRow) (s:GStmt):0≤(stRows t l s).2∧(stRows t l s).2≤100:=by
 unfold stRows rowPut rowSet rowOut
 grind
theorem execO_ok (d:GDb) (s:GStmt) (hd:dbOk d=true) (hs:stmtOk s=true):VC Tryz.prog 96 [vDb d,vStmt s] [(true,mDb (dbExec d s).1),(false,[(.s,.sc (.int .i64 (dbExec d s).2))])]:=by
 obtain ⟨hso,_,hs1,hs2,hs3,hs4⟩:=stmtOk_ok hs
 have hod:=dbOk_ok hd
 have hco:=catOk_ok (dbOk_cat hd)
 have hl:=dbOk_len hd
 have hb:=tabAt_bd d.fCat.fTables s.fTable
 refine vc_of_ew good hm [0,1,2,3,4,5,6,30,34,7,8,43,9,10,11,61,62,72,84,95,12] Tryz.func96 rfl (by kernel_rfl) (by kernel_rfl) rfl ?_
 simp[Tryz.f96,mDb]
 have hat:=at_ok d.fCat s.fTable hco.1.1.1
 have hE:dbExec d s=if tabAt d.fCat.fTables s.fTable<0∧ ¬(s.fKind=5∧s.fDdl.fKind=1) then (dDb,4) else
  if s.fKind=5 then (if (dbCh d s.fDdl).2≠0 then (dDb,10+(dbCh d s.fDdl).2) else dbCh d s.fDdl) else
  if (stRows (tabOf d.fCat s.fTable) (dataOf d (dbIx d s.fTable)) s).2≠0 then (dDb,10+(stRows (tabOf d.fCat s.fTable) (dataOf d (dbIx d s.fTable)) s).2) else
  (⟨d.fCat,d.fData.set (dbIx d s.fTable) ⟨(stRows (tabOf d.fCat s.fTable) (dataOf d (dbIx d s.fTable)) s).1⟩⟩,0):=rfl
 by_cases k5:s.fKind=5
 ·refine .of hat ?_
  simp[k5]
  have hbd:=dbCh_bd d s.fDdl
  refine ⟨fun h1 h2=>by rw[hE,if_pos ⟨h1,fun h=>h2 h.2⟩];simp[dDb,dCat,FullRs,FullML],fun h1=> ?_⟩
  rw[if_neg (fun h=>h.2 ⟨k5,h1 h.1⟩),if_pos k5] at hE
  refine .of (changed_ok d s.fDdl hd hso.2.2.2.2.1 (by omega) (by omega)) ?_
  simp[mDb,FullRs,FullML]
  refine ⟨fun h=>by rw[hE,if_pos h,wrap10 hbd.1 hbd.2];simp[dDb,dCat,FullRs,FullML],fun h=> ?_⟩
  rw[hE,if_neg (by simp[h])]
  simp[h]
 ·by_cases ht:tabAt d.fCat.fTables s.fTable<0
  ·refine .of hat ?_
   simp[k5,ht]
   rw[hE,if_pos ⟨ht,fun h=>k5 h.1⟩]
   simp[dDb,dCat,FullRs,FullML]
  ·rw[if_neg (fun h=>ht h.1),if_neg k5] at hE
   obtain ⟨k,hk⟩: ∃k:Nat,tabAt d.fCat.fTables s.fTable=k:=⟨_,(Int.toNat_of_nonneg (by omega)).symm⟩
   have hkl:k<d.fCat.fTables.length:=by omega
   have hkd:k<d.fData.length:=by omega
   rw[hk] at hat
   have htk:tabOf d.fCat s.fTable=d.fCat.fTables[k]:=by
    unfold tabOf
    rw[hk]
    simp[hkl]
   have hix:dbIx d s.fTable=k:=by unfold dbIx;rw[hk];rfl
   have hdk:dataOf d k=d.fData[k].fRows:=by unfold dataOf;simp[hkd]
   have hm:d.fCat.fTables[k]∈d.fCat.fTables:=List.getElem_mem hkl
   have hmd:d.fData[k]∈d.fData:=List.getElem_mem hkd
   have hro:rowsOk d.fCat.fTables[k] d.fData[k].fRows=true:=by
    have:=((dbOk_iff d).1 hd).2.2 k hkl
    simpa [hkl,hkd] using this
   have htab:=hco.1.1.2 _ hm
   have hky:(d.fCat.fTables[k]).fKeys.length≤1048576:=by have:=(hco.2.2 _ hm).2.2;omega
   have hrs:=(rowsOk_ok hro).1
   rw[htk,hix,hdk] at hE
   have hk0: ¬((k:Int)<0):=by omega
   by_cases k1:s.fKind=1
   ·have hst:stRows d.fCat.fTables[k] d.fData[k].fRows s=rowPut d.fCat.fTables[k] d.fData[k].fRows s.fRow:=by simp[stRows,k1]
    rw[hst] at hE
    refine .of hat ?_
    simp[k5,hkl,hkd,hk0,k1,md,lf,List.range']
    refine .of (rowPutI_ok d.fCat.fTables[k] d.fData[k].fRows s.fRow htab hky hrs hso.2.2.2.1) ?_
    simp[mRowS]
    have hbd:=stRows_bd d.fCat.fTables[k] d.fData[k].fRows s
    rw[hst] at hbd
    refine ⟨fun h=>by rw[hE,if_pos h,wrap10 hbd.1 hbd.2];simp[dDb,dCat,FullRs,FullML],fun h=> .of (copyDb_ok d (dbOk_bd hd)) ?_⟩
    rw[hE,if_neg (by simp[h])]
    simp[mDb,md,lf,eRows,List.range',hkd,FullRs,FullML]
   by_cases k2:s.fKind=2
   ·have hst:stRows d.fCat.fTables[k] d.fData[k].fRows s=rowSet d.fCat.fTables[k] d.fData[k].fRows s.fKey s.fRow:=by simp[stRows,k1,k2]
    rw[hst] at hE
    refine .of hat ?_
    simp[k5,hkl,hkd,hk0,k1,k2,md,lf,List.range']
    refine .of (rowSetI_ok d.fCat.fTables[k] d.fData[k].fRows s.fKey s.fRow htab hky hrs (by unfold okM;omega) hso.2.2.2.1) ?_
    simp[mRowS]
    have hbd:=stRows_bd d.fCat.fTables[k] d.fData[k].fRows s
    rw[hst] at hbd
    refine ⟨fun h=>by rw[hE,if_pos h,wrap10 hbd.1 hbd.2];simp[dDb,dCat,FullRs,FullML],fun h=> .of (copyDb_ok d (dbOk_bd hd)) ?_⟩
    rw[hE,if_neg (by simp[h])]
    simp[mDb,md,lf,eRows,List.range',hkd,FullRs,FullML]
   by_cases k3:s.fKind=3
   ·have hst:stRows d.fCat.fTables[k] d.fData[k].fRows s=rowOut d.fCat.fTables[k] d.fData[k].fRows s.fKey:=by simp[stRows,k1,k2,k3]
    rw[hst] at hE
    refine .of hat ?_
    simp[k5,hkl,hkd,hk0,k1,k2,k3,md,lf,List.range']
    refine .of (rowOutI_ok d.fCat.fTables[k] d.fData[k].fRows s.fKey htab hky hrs (by unfold okM;omega)) ?_
    simp[mRowS]
    have hbd:=stRows_bd d.fCat.fTables[k] d.fData[k].fRows s
    rw[hst] at hbd
    refine ⟨fun h=>by rw[hE,if_pos h,wrap10 hbd.1 hbd.2];simp[dDb,dCat,FullRs,FullML],fun h=> .of (copyDb_ok d (dbOk_bd hd)) ?_⟩
    rw[hE,if_neg (by simp[h])]
    simp[mDb,md,lf,eRows,List.range',hkd,FullRs,FullML]
   have hst:stRows d.fCat.fTables[k] d.fData[k].fRows s=([],0):=by simp[stRows,k1,k2,k3]
   rw[hst] at hE
   refine .of hat ?_
   simp[k5,hkl,hkd,hk0,k1,k2,k3,md,lf,List.range']
   refine .of (copyDb_ok d (dbOk_bd hd)) ?_
   rw[hE]
   simp[mDb,md,lf,eRows,List.range',hkd,FullRs,FullML]
end Go.Proofs.YteeolohhmfjafaaGreat
namespace Go.Proofs.YteeolohhmfjafaaGreat
open Go Go.Proofs Go.Sm
attribute [local simp] ti eStr eInt eByte eVal cVal vVal eValS vValS eRow cRow vRow eCol cCol vCol vColS eStrS vStrS eDdl cDdl vDdl cStmt vStmt ePart vPart vPartS eTable cTable vTable vTableS cCat vCat vRowS eRows vRows vRowsS eDb cDb vDb eFol vFol eSnap cSnap vSnap
set_option linter.unusedVariables false
set_option linter.unusedSimpArgs false
set_option maxRecDepth 8000
theorem l04Rows_ok (t:GTable) (l:List GRow) (s:GStmt) (ht:okTable t) (hk:t.fKeys.length≤1048576) (hl:okRowS l) (hs:okStmt s) (h1:s.fKey.length≤8) (h3:s.fDdl.fCols.length≤8) (h4:s.fDdl.fKeys.length≤8):VC Tryz.prog 186 [vTable t,vRowS l,vStmt s] [(false,fRowS (stAll t l s).1),(false,[(.s,.sc (.int .i64 (stAll t l s).2))])]:=by
 refine vc_of_ewF good hm [0,1,2,3,5,6,7,9,10,19,30,39] Tryz.func186 rfl (by kernel_rfl) (by kernel_rfl) rfl ?_
 simp[Tryz.f186,fRowS]
 refine ⟨fun k1=> ?_,fun k1=>⟨fun k2=> ?_,fun k2=>⟨fun k3=> ?_,fun k3=>⟨fun k5=> ?_,fun k5=> ?_⟩⟩⟩⟩
 ·refine .of (rowPutS_ok t l s.fRow ht hk hl hs.2.2.2.1) ?_
  simp[mRowS,stAll,stRows,k1,FullRs,FullML]
 ·refine .of (rowSetS_ok t l s.fKey s.fRow ht hk hl (by unfold okM;omega) hs.2.2.2.1) ?_
  simp[mRowS,stAll,stRows,k1,k2,FullRs,FullML]
 ·refine .of (rowOutS_ok t l s.fKey ht hk hl (by unfold okM;omega)) ?_
  simp[mRowS,stAll,stRows,k1,k2,k3,FullRs,FullML]
 ·refine .of (rowsDdlS_ok t l s.fDdl ht hk hl hs.2.2.2.2.1 (by omega) (by omega)) ?_
  simp[fRowS,stAll,k5]
 ·simp[stAll,stRows,k1,k2,k3,k5]
theorem full_rowsC (cols:Nat→List Md) (hc: ∀i,cols i= [(Md.o 120 (fun _=> [(Md.o 234 (fun _=> [Md.s,Md.s,Md.s]))]))]∨cols i= [Md.s]) (l:List GRows):Full (Md.o 205 cols) (.ls [Lf.ls [Lf.ls [Lf.sc (Value.int IntKind.i64 0),Lf.sc (Value.int IntKind.i64 0),Lf.sc (Value.string ⟨#[]⟩)] []] []] (l.map eRows)):=by
 refine Full_rowsF (fun i x j hj=> ?_) _
 match j,hj with
 |0,_=>
  rcases hc i with h|h<;>rw[h]
  ·exact of_eq_true (full_RowS x.fRows)
  ·exact .s
 |n+1,hj=>exact absurd hj (by simp)
theorem ddlApply_bd (c:GCat) (x:GDdl):0≤(ddlApply c x).2∧(ddlApply c x).2≤100:=by
 unfold ddlApply
 split
 ·exact ⟨(by decide:(0:Int)≤1),(by decide:(1:Int)≤100)⟩
 split
 ·show 0≤ddlCode _ _∧ddlCode _ _≤100
  unfold ddlCode tabCode
  grind
 ·exact ⟨(by decide:(0:Int)≤0),(by decide:(0:Int)≤100)⟩
def chRow (d:GDb) (s:GStmt) (t:GTable):GRows:=⟨if 0≤tabAt d.fCat.fTables t.fName∧t.fName.toList=s.fTable.toList then (stAll (tabOf d.fCat t.fName) (dataOf d (dbIx d t.fName)) s).1 else if 0≤tabAt d.fCat.fTables t.fName then dataOf d (dbIx d t.fName) else []⟩
theorem l04Change_ok (d:GDb) (s:GStmt) (hd:dbOk d=true) (hs:stmtOk s=true):VC Tryz.prog 185 [vDb d,vStmt s] [(true,fDb (if (ddlApply d.fCat s.fDdl).2≠0 then dDb else ⟨catCh d.fCat s.fDdl,(catCh d.fCat s.fDdl).fTables.map (chRow d s)⟩)),(false,[(.s,.sc (.int .i64 (if (ddlApply d.fCat s.fDdl).2≠0 then 10+(ddlApply d.fCat s.fDdl).2 else 0)))])]:=by
 obtain ⟨hso,_,hs1,hs2,hs3,hs4⟩:=stmtOk_ok hs
 have hco:=catOk_ok (dbOk_cat hd)
 have hl:=dbOk_len hd
 refine vc_of_ewF good hm [0,1,2,3,4,5,6,7,22,8,29,30,31,32,10,11,12,49,69] Tryz.func185 rfl (by kernel_rfl) (by kernel_rfl) rfl ?_
 simp[Tryz.f185,fDb]
 refine .of (ddlApplyS_ok d.fCat s.fDdl hco.1 hso.2.2.2.2.1 (by omega) (by omega)) ?_
 simp[fCat]
 have hbd:=ddlApply_bd d.fCat s.fDdl
 refine ⟨fun h=>by rw[wrap10 hbd.1 hbd.2,if_neg h,if_neg h];simp[dDb,dCat],fun h=> ?_⟩
 rw[if_pos h,if_pos h]
 obtain ⟨q1,q2,q3,q4⟩:=ddlApply_ok h
 rw[q4]
 have hcc:=catCh_ok q1 q2 q3
 have hcl:=(catOk_ok hcc).2.1
 generalize hT:(catCh d.fCat s.fDdl).fTables=T at hcl
 refine ew_loop (fun E=> ∃ (i:Nat) (cols:Nat→List Md),i≤T.length∧(∀k,cols k= [(Md.o 120 (fun _=> [(Md.o 234 (fun _=> [Md.s,Md.s,Md.s]))]))]∨cols k= [Md.s])∧E= {nt:=86,sl:= [(2,.p (.bx 2 0)),(3,.p (.bx 3 0)),(4,.p (.bx 4 0)),(8,.p (.bx 8 0)),(29,vTableS T),(30,int .i64 T.length),(31,int .i64 i)],bx:= [(2,cDb d),(3,cStmt s),(4,[.n [Lf.sc (Value.string ⟨#[]⟩),Lf.ls [Lf.sc (Value.string ⟨#[]⟩),Lf.sc (Value.int IntKind.i64 0),Lf.sc (Value.bool false),Lf.sc (Value.bool false),Lf.sc (Value.int IntKind.i64 0),Lf.sc (Value.int IntKind.i64 0),Lf.sc (Value.string ⟨#[]⟩)] [],Lf.ls [Lf.sc (Value.string ⟨#[]⟩)] []],.n [Lf.ls [Lf.ls [Lf.sc (Value.int IntKind.i64 0),Lf.sc (Value.int IntKind.i64 0),Lf.sc (Value.string ⟨#[]⟩)] []] []]]),(8,[.s (.ls [Lf.sc (Value.string ⟨#[]⟩),Lf.ls [Lf.sc (Value.string ⟨#[]⟩),Lf.sc (Value.int IntKind.i64 0),Lf.sc (Value.bool false),Lf.sc (Value.bool false),Lf.sc (Value.int IntKind.i64 0),Lf.sc (Value.int IntKind.i64 0),Lf.sc (Value.string ⟨#[]⟩)] [],Lf.ls [Lf.sc (Value.string ⟨#[]⟩)] []] (T.map eTable)),.r [990]])],rt:= [(990,.o 205 cols,.ls [Lf.ls [Lf.ls [Lf.sc (Value.int IntKind.i64 0),Lf.sc (Value.int IntKind.i64 0),Lf.sc (Value.string ⟨#[]⟩)] []] []] (((T.take i).map (chRow d s)).map eRows))]}) (fun E=>T.length- (E.num 31).toNat) _ ((Gh.nlB _ 8 1 990 205 (fun _=> [(Md.o 120 (fun _=> [(Md.o 234 (fun _=> [Md.s,Md.s,Md.s]))]))]) [Lf.ls [Lf.ls [Lf.sc (Value.int IntKind.i64 0),Lf.sc (Value.int IntKind.i64 0),Lf.sc (Value.string ⟨#[]⟩)] []] []]).trans (Gh.kb _ [2,3,4,8,29,30,31] [2,3,4,8] [990])) ⟨0,fun _=> [(Md.o 120 (fun _=> [(Md.o 234 (fun _=> [Md.s,Md.s,Md.s]))]))],by omega,fun _=> .inl rfl,by simp[hT]⟩ ?_
 rintro E1 ⟨i,cols,hi,hcols,rfl⟩
 simp
 refine ⟨fun hil=>⟨hil, ?_⟩,fun hil=> ?_⟩
 ·have htr:(T.map (eRows∘chRow d s)).take (i+1)=(T.map (eRows∘chRow d s)).take i++ [(eRows∘chRow d s) (T[i]?.getD dTable)]:=take_rowM dTable hil
  generalize hti:T[i]?.getD dTable=t at htr
  have hat:=l02At_ok d.fCat t.fName hco.1.1.1
  have hb:=tabAt_bd d.fCat.fTables t.fName
  by_cases h0:0≤tabAt d.fCat.fTables t.fName
  ·obtain ⟨k,hk⟩: ∃k:Nat,tabAt d.fCat.fTables t.fName=k:=⟨_,(Int.toNat_of_nonneg h0).symm⟩
   have hkl:k<d.fCat.fTables.length:=by omega
   have hkd:k<d.fData.length:=by omega
   have htk:tabOf d.fCat t.fName=d.fCat.fTables[k]:=by
    unfold tabOf
    rw[hk]
    simp[hkl]
   have hix:dbIx d t.fName=k:=by unfold dbIx;rw[hk];rfl
   have hdk:dataOf d k=d.fData[k].fRows:=by unfold dataOf;simp[hkd]
   have hm:d.fCat.fTables[k]∈d.fCat.fTables:=List.getElem_mem hkl
   have hro:rowsOk d.fCat.fTables[k] d.fData[k].fRows=true:=by
    have:=((dbOk_iff d).1 hd).2.2 k hkl
    simpa [hkl,hkd] using this
   have hrb:=rowsOk_ok hro
   have hch:chRow d s t=⟨if t.fName.toList=s.fTable.toList then (stAll d.fCat.fTables[k] d.fData[k].fRows s).1 else d.fData[k].fRows⟩:=by
    unfold chRow
    rw[htk,hix,hdk,if_pos h0]
    simp only[h0,true_and]
   rw[hk] at hat
   refine .of hat ?_
   simp[hkl,hkd,eTable,eRows]
   refine ⟨fun hn=> .of (l04Rows_ok d.fCat.fTables[k] d.fData[k].fRows s (hco.1.1.2 _ hm) (by have:=(hco.2.2 _ hm).2.2;omega) hrb.1 hso hs1 hs3 hs4) ?_,fun hn=> .of ((l03Copy_ok d.fData[k].fRows (by omega) (fun x hx=>by have:=hrb.2.2 x hx;omega)).frz (by simp[FullRs,FullML,mRowS])) ?_⟩
   ·simp[fRowS]
    refine ⟨by omega,.of _ ((Gh.kb _ [2,3,4,8,29,30,31] [2,3,4,8] [82]).trans (Gh.rn _ 82 990)) ⟨i+1,by omega,(fun k=>if k<min i T.length then cols k else [Md.s]),fun k=> ?_, ?_⟩ ?_⟩
    ·by_cases hk2:k<min i T.length
     all_goals simp[hk2,hcols k]
    ·rw[htr,Function.comp,hch]
     simp[wrapS (show i<9223372036854775807 by omega),hn,eRows]
    ·simp[wrapS (show i<9223372036854775807 by omega)];omega
   ·simp[mRowS]
    refine ⟨by omega,.of _ ((Gh.kb _ [2,3,4,8,29,30,31] [2,3,4,8] [82]).trans (Gh.rn _ 82 990)) ⟨i+1,by omega,(fun k=>if k<min i T.length then cols k else [Md.s]),fun k=> ?_, ?_⟩ ?_⟩
    ·by_cases hk2:k<min i T.length
     all_goals simp[hk2,hcols k]
    ·rw[htr,Function.comp,hch]
     simp[wrapS (show i<9223372036854775807 by omega),hn,eRows]
    ·simp[wrapS (show i<9223372036854775807 by omega)];omega
  ·have hch:chRow d s t=⟨[]⟩:=by
    unfold chRow
    rw[if_neg (fun g=>h0 g.1),if_neg h0]
   have h0':tabAt d.fCat.fTables t.fName<0:=by omega
   refine .of hat ?_
   simp[h0,h0',eTable,eRows]
   refine ⟨by omega,.of _ ((Gh.kb _ [2,3,4,8,29,30,31] [2,3,4,8] [82]).trans (Gh.rn _ 82 990)) ⟨i+1,by omega,(fun k=>if k<min i T.length then cols k else [(Md.o 120 (fun _=> [(Md.o 234 (fun _=> [Md.s,Md.s,Md.s]))]))]),fun k=> ?_, ?_⟩ ?_⟩
   ·by_cases hk2:k<min i T.length
    all_goals simp[hk2,hcols k]
   ·rw[htr,Function.comp,hch]
    simp[wrapS (show i<9223372036854775807 by omega),hti,eRows]
   ·simp[wrapS (show i<9223372036854775807 by omega)];omega
 ·have:i=T.length:=by omega
  subst this
  rw[List.take_of_length_le (by simp)]
  have hfu:=full_rowsC cols hcols (T.map (chRow d s))
  rw[List.map_map] at hfu
  exact ⟨hfu,rfl⟩
end Go.Proofs.YteeolohhmfjafaaGreat
namespace Go.Proofs.YteeolohhmfjafaaGreat
open Go Go.Proofs Go.Sm
attribute [local simp] ti eStr eInt eByte eVal cVal vVal eValS vValS eRow cRow vRow eCol cCol vCol vColS eStrS vStrS eDdl cDdl vDdl cStmt vStmt ePart vPart vPartS eTable cTable vTable vTableS cCat vCat vRowS eRows vRows vRowsS eDb cDb vDb eFol vFol eSnap cSnap vSnap
set_option linter.unusedVariables false
set_option linter.unusedSimpArgs false
set_option maxRecDepth 8000
theorem chRow_at {d:GDb} (hd:dbOk d=true) (s:GStmt) {t:GTable} {k:Nat} (hk:k<d.fCat.fTables.length) (hn:t.fName=(d.fCat.fTables[k]?.getD dTable).fName):chRow d s t=⟨if t.fName=s.fTable then (stAll (d.fCat.fTables[k]?.getD dTable) (dataOf d k) s).1 else dataOf d k⟩:=by
 have hpw:=((catOk_iff _).1 (dbOk_cat hd)).2.2
 have h1:tabAt d.fCat.fTables t.fName=k:=by rw[hn];exact tabAt_at hpw hk
 have h2:dbIx d t.fName=k:=by unfold dbIx;rw[h1];rfl
 have h3:tabOf d.fCat t.fName=d.fCat.fTables[k]?.getD dTable:=by unfold tabOf;rw[h1];rfl
 unfold chRow
 rw[h2,h3,h1]
 have:(t.fName.toList=s.fTable.toList)↔t.fName=s.fTable:=⟨tl_inj,fun h=>by rw[h]⟩
 simp[this]
theorem data_at {d:GDb} {k:Nat} (h:k<d.fData.length):(⟨dataOf d k⟩:GRows)=d.fData[k]:=by
 unfold dataOf
 rw[List.getElem?_eq_getElem h]
 rfl
theorem chData {d:GDb} {s:GStmt} (hd:dbOk d=true) (hx:ddlOk s.fDdl=true) (k5:s.fKind=5) (hn:s.fDdl.fTable=s.fTable) (h0:ddlCode d.fCat s.fDdl=0):(catCh d.fCat s.fDdl).fTables.map (chRow d s)=dataCh d s.fDdl:=by
 have hl:=dbOk_len hd
 have hpw:=((catOk_iff _).1 (dbOk_cat hd)).2.2
 obtain ⟨z1,z2⟩:=ddlCode_0 h0
 have hin: ∀k (h:k<d.fCat.fTables.length),d.fCat.fTables[k].fName≠s.fTable→chRow d s d.fCat.fTables[k]=d.fData[k]'(by omega):=fun k h hne=>by
  rw[chRow_at hd s h (by rw[List.getElem?_eq_getElem h];rfl),if_neg hne,data_at (by omega)]
 have e: ∀c:GCat,c.fTables=(catCh d.fCat s.fDdl).fTables→c=catCh d.fCat s.fDdl:=fun c h=>by cases c;cases hq:catCh d.fCat s.fDdl;rw[hq] at h;exact congrArg _ h
 unfold dataCh
 by_cases k1:s.fDdl.fKind=1
 ·rw[if_pos k1,insW_tab (dbOk_cat hd) hx k1 h0]
  have e:(catCh d.fCat s.fDdl).fTables=insAt d.fCat.fTables (d.fCat.fTables.takeWhile (fun y=>tabLt y (madeT s.fDdl))).length (madeT s.fDdl):=by unfold catCh;rw[if_pos k1];exact insW_at _ _ _
  rw[e]
  have hw:=takeW_len (fun y=>tabLt y (madeT s.fDdl)) d.fCat.fTables
  generalize (d.fCat.fTables.takeWhile (fun y=>tabLt y (madeT s.fDdl))).length=n at hw⊢
  have hne: ∀k (h:k<d.fCat.fTables.length),d.fCat.fTables[k].fName≠s.fTable:=fun k h=>by
   rw[←hn]
   exact (z1 k1).1 _ (List.getElem_mem h)
  have hall:d.fCat.fTables.map (chRow d s)=d.fData:=by
   apply List.ext_getElem
   ·simp[hl]
   ·intro k h1 h2
    simp only[List.getElem_map]
    exact hin k (by simpa using h1) (hne k (by simpa using h1))
  have hnew:chRow d s (madeT s.fDdl)=⟨[]⟩:=by
   have: ¬0≤tabAt d.fCat.fTables (madeT s.fDdl).fName:=fun h=>by
    obtain ⟨t,ht,hq⟩:=(tabAt_nn _ _).1 h
    exact (z1 k1).1 t ht hq
   unfold chRow
   rw[if_neg (fun g=>this g.1),if_neg this]
  unfold insAt
  rw[List.map_append,List.map_cons,hnew,←hall,List.map_take,List.map_drop]
 rw[if_neg k1]
 obtain ⟨z3,z4⟩:=z2 k1
 have hb:=tabAt_bd d.fCat.fTables s.fDdl.fTable
 obtain ⟨k,hk⟩: ∃k:Nat,tabAt d.fCat.fTables s.fDdl.fTable=k:=⟨_,(Int.toNat_of_nonneg z3).symm⟩
 have hkl:k<d.fCat.fTables.length:=by omega
 have hix:dbIx d s.fDdl.fTable=k:=by unfold dbIx;rw[hk];rfl
 have hnk:d.fCat.fTables[k].fName=s.fTable:=by
  have:=tabAt_get z3
  rw[hk,Int.toNat_natCast,List.getElem?_eq_getElem hkl] at this
  rw[←hn]
  exact this
 have hne: ∀j (h:j<d.fCat.fTables.length),j≠k→d.fCat.fTables[j].fName≠s.fTable:=fun j h hj e=>hj (tab_once hpw h hkl (by
  rw[List.getElem?_eq_getElem h,List.getElem?_eq_getElem hkl]
  simp only[Option.getD_some]
  rw[e,hnk]))
 by_cases k2:s.fDdl.fKind=2
 ·rw[if_pos k2,hix]
  have e:(catCh d.fCat s.fDdl).fTables=d.fCat.fTables.eraseIdx k:=by unfold catCh;rw[if_neg k1,if_pos k2,hk];rfl
  rw[e]
  apply List.ext_getElem
  ·rw[List.length_map,List.length_eraseIdx_of_lt hkl,List.length_eraseIdx_of_lt (by omega),hl]
  ·intro j h1 h2
   rw[List.length_map,List.length_eraseIdx_of_lt hkl] at h1
   simp only[List.getElem_map,List.getElem_eraseIdx]
   split
   ·exact hin j (by omega) (hne j (by omega) (by omega))
   ·exact hin (j+1) (by omega) (hne (j+1) (by omega) (by omega))
 ·rw[if_neg k2,hix]
  have e:(catCh d.fCat s.fDdl).fTables=d.fCat.fTables.set k (tabCh (tabOf d.fCat s.fDdl.fTable) s.fDdl):=by unfold catCh;rw[if_neg k1,if_neg k2,hk];rfl
  have hto:tabOf d.fCat s.fDdl.fTable=d.fCat.fTables[k]:=by
   unfold tabOf
   rw[hk,Int.toNat_natCast,List.getElem?_eq_getElem hkl]
   rfl
  rw[e,hto]
  apply List.ext_getElem
  ·simp[hl]
  ·intro j h1 h2
   simp only[List.length_map,List.length_set] at h1
   simp only[List.getElem_map,List.getElem_set]
   split
   ·rename_i hjk
    subst hjk
    rw[chRow_at hd s hkl (by rw[List.getElem?_eq_getElem hkl,tabCh_name];rfl),tabCh_name,if_pos hnk,List.getElem?_eq_getElem hkl]
    simp[stAll,k5]
   ·rename_i hjk
    exact hin j h1 (hne j h1 (fun e=>hjk e.symm))
theorem stmtOk_5 {s:GStmt} (h:stmtOk s=true) (k:s.fKind=5):ddlOk s.fDdl=true∧s.fDdl.fTable=s.fTable:=by
 simp only[stmtOk,Bool.and_eq_true,Bool.or_eq_true,decide_eq_true_eq,beq_iff_eq] at h
 rcases h.2 with (((h|h)|h)|h)|h
 ·omega
 ·omega
 ·omega
 ·omega
 ·exact ⟨h.2.1.2,tl_inj h.2.2⟩
def specExec (d:GDb) (s:GStmt):GDb×Int:=if dbOk d=false∨stmtOk s=false then (dDb,1) else dbExec d s
theorem execS_ok (d:GDb) (s:GStmt) (hd:okDb d) (hky: ∀t∈d.fCat.fTables,t.fKeys.length≤1048576) (hso:okStmt s):VC Tryz.prog 88 [vDb d,vStmt s] [(true,fDb (specExec d s).1),(false,[(.s,.sc (.int .i64 (specExec d s).2))])]:=by
 refine vc_of_ewF good hm [0,1,2,3,4,5,17,6,36,40,7,8,64,9] Tryz.func88 rfl (by kernel_rfl) (by kernel_rfl) rfl ?_
 simp[Tryz.f88,fDb]
 refine .of (dbOkS_ok d hd hky) ?_
 simp
 refine .of (fun g=>⟨g,stmtOkS_ok s hso⟩) ?_
 simp
 refine ⟨fun h=>by simp[specExec,h,dDb,dCat],fun h1 h2=> ?_⟩
 have hE0:specExec d s=dbExec d s:=by simp[specExec,h1,h2]
 rw[hE0]
 obtain ⟨_,_,hs1,hs2,hs3,hs4⟩:=stmtOk_ok h2
 have hco:=catOk_ok (dbOk_cat h1)
 have hl:=dbOk_len h1
 have hb:=tabAt_bd d.fCat.fTables s.fTable
 have hat:=l02At_ok d.fCat s.fTable hco.1.1.1
 have hE:dbExec d s=if tabAt d.fCat.fTables s.fTable<0∧ ¬(s.fKind=5∧s.fDdl.fKind=1) then (dDb,4) else
  if s.fKind=5 then (if (dbCh d s.fDdl).2≠0 then (dDb,10+(dbCh d s.fDdl).2) else dbCh d s.fDdl) else
  if (stRows (tabOf d.fCat s.fTable) (dataOf d (dbIx d s.fTable)) s).2≠0 then (dDb,10+(stRows (tabOf d.fCat s.fTable) (dataOf d (dbIx d s.fTable)) s).2) else
  (⟨d.fCat,d.fData.set (dbIx d s.fTable) ⟨(stRows (tabOf d.fCat s.fTable) (dataOf d (dbIx d s.fTable)) s).1⟩⟩,0):=rfl
 by_cases k5:s.fKind=5
 ·refine .of hat ?_
  simp[k5]
  refine ⟨fun h1 h2=>by rw[hE,if_pos ⟨h1,fun h=>h2 h.2⟩];simp[dDb,dCat],fun h3=> ?_⟩
  rw[if_neg (fun h=>h.2 ⟨k5,h3 h.1⟩),if_pos k5] at hE
  obtain ⟨hx,hn⟩:=stmtOk_5 h2 k5
  have hlc:=l04Change_ok d s h1 h2
  unfold vStmt at hlc
  rw[k5] at hlc
  refine .of hlc ?_
  simp[fDb]
  have hch:dbCh d s.fDdl=if (ddlApply d.fCat s.fDdl).2≠0 then (dDb,(ddlApply d.fCat s.fDdl).2) else (⟨catCh d.fCat s.fDdl,dataCh d s.fDdl⟩,0):=rfl
  by_cases h0:(ddlApply d.fCat s.fDdl).2=0
  ·rw[if_neg (by simp[h0])] at hch
   rw[hch,if_neg (by simp)] at hE
   obtain ⟨q1,q2,q3,q4⟩:=ddlApply_ok h0
   rw[hE]
   simp only[h0,if_true]
   rw[←chData h1 hx k5 hn q3]
   simp
  ·rw[if_pos h0] at hch
   rw[hch,if_pos h0] at hE
   rw[hE]
   simp[h0]
 ·by_cases ht:tabAt d.fCat.fTables s.fTable<0
  ·refine .of hat ?_
   simp[k5,ht]
   rw[hE,if_pos ⟨ht,fun h=>k5 h.1⟩]
   simp[dDb,dCat]
  ·rw[if_neg (fun h=>ht h.1),if_neg k5] at hE
   obtain ⟨k,hk⟩: ∃k:Nat,tabAt d.fCat.fTables s.fTable=k:=⟨_,(Int.toNat_of_nonneg (by omega)).symm⟩
   have hkl:k<d.fCat.fTables.length:=by omega
   have hkd:k<d.fData.length:=by omega
   rw[hk] at hat
   have htk:tabOf d.fCat s.fTable=d.fCat.fTables[k]:=by
    unfold tabOf
    rw[hk]
    simp[hkl]
   have hix:dbIx d s.fTable=k:=by unfold dbIx;rw[hk];rfl
   have hdk:dataOf d k=d.fData[k].fRows:=by unfold dataOf;simp[hkd]
   have hm:d.fCat.fTables[k]∈d.fCat.fTables:=List.getElem_mem hkl
   have hro:rowsOk d.fCat.fTables[k] d.fData[k].fRows=true:=by
    have:=((dbOk_iff d).1 h1).2.2 k hkl
    simpa [hkl,hkd] using this
   have hrs:=(rowsOk_ok hro).1
   rw[htk,hix,hdk] at hE
   have hk0: ¬((k:Int)<0):=by omega
   have hsa:stAll d.fCat.fTables[k] d.fData[k].fRows s=stRows d.fCat.fTables[k] d.fData[k].fRows s:=by simp[stAll,k5]
   have hlr:=l04Rows_ok d.fCat.fTables[k] d.fData[k].fRows s (hco.1.1.2 _ hm) (by have:=(hco.2.2 _ hm).2.2;omega) hrs hso hs1 hs3 hs4
   rw[hsa] at hlr
   have hbd:=stRows_bd d.fCat.fTables[k] d.fData[k].fRows s
   refine .of hat ?_
   simp[k5,hk0,hkl,hkd,eTable,eRows]
   refine .of hlr ?_
   simp[fRowS]
   refine ⟨fun h=>by rw[hE,if_pos h,wrap10 hbd.1 hbd.2];simp[dDb,dCat],fun h=> .of (l04Copy_ok d (dbOk_bd h1)) ?_⟩
   rw[hE,if_neg (by simp[h])]
   simp[mDb,md,lf,eRows,List.range',hkd]
   exact full_set (fun j=>if j=k then [Md.s] else [(Md.o 120 (fun _=> [(Md.o 234 (fun _=> [Md.s,Md.s,Md.s]))]))]) (fun i=>by by_cases h:i=k<;>simp[h]) d.fData k (stRows d.fCat.fTables[k] d.fData[k].fRows s).1
end Go.Proofs.YteeolohhmfjafaaGreat
namespace Go.Proofs.YteeolohhmfjafaaGreat
open Go Go.Proofs Go.Sm
attribute [local simp] ti eStr eInt eByte eVal cVal vVal eValS vValS eRow cRow vRow eCol cCol vCol vColS eStrS vStrS eDdl cDdl vDdl cStmt vStmt ePart vPart vPartS eTable cTable vTable vTableS cCat vCat vRowS eRows vRows vRowsS eDb cDb vDb eFol vFol eSnap cSnap vSnap
set_option linter.unusedVariables false
set_option linter.unusedSimpArgs false
set_option maxRecDepth 8000
theorem mapStmtS_ok (d:GDb) (p:GPart) (hd0:okDb d) (hk0: ∀t∈d.fCat.fTables,t.fKeys.length≤1048576) (hp:okPart p) (hb0:bdStmt p.fStmt) (hc:bdStrs p.fCols) (hk:bdStrs p.fKeys):
  VC Tryz.prog 247 [vDb d,vPart p] [(true,mStmt (mapStmt d p).1),(false,[(.s,.sc (.int .i64 (mapStmt d p).2))])]:=by
 refine vc_of_ew good hm [0,1,2,3,4,5,6,26,30,7,39,8,9,54,10,11,70,12,13,81,14,96,113,15,16,126] Tryz.func247 rfl (by kernel_rfl) (by kernel_rfl) rfl ?_
 simp[Tryz.f247,mStmt]
 refine .of (dbOkS_ok d hd0 hk0) ?_
 simp
 refine .of (fun g=>⟨g,stmtOkS_ok p.fStmt hp.1⟩) ?_
 simp
 have hE0:mapStmt d p=if dbOk d=false∨stmtOk p.fStmt=false then (dStmt,1) else mapStP d p:=rfl
 refine ⟨fun h=>by rw[hE0,if_pos h];simp[dStmt,dRow,dDdl],fun hd hs=> ?_⟩
 rw[hE0,if_neg (by simp[hd,hs])]
 clear hE0
 obtain ⟨hso,hs0,hs1,hs2,hs3,hs4⟩:=stmtOk_ok hs
 have hco:=catOk_ok (dbOk_cat hd)
 have hl:=dbOk_len hd
 have hb:=tabAt_bd d.fCat.fTables p.fStmt.fTable
 obtain ⟨hw,hkd⟩:=stmtOk_k hs
 have hE:mapStP d p=if p.fStmt.fKind=5 then (p.fStmt,0) else if tabAt d.fCat.fTables p.fStmt.fTable<0 then (dStmt,10) else mapSt (tabOf d.fCat p.fStmt.fTable) (dataOf d (dbIx d p.fStmt.fTable)) p.fCols p.fKeys p.fStmt:=rfl
 refine ⟨fun k5=> .of (l07Stmt_ok p.fStmt hb0) ?_,fun k5=> .of (l02At_ok d.fCat p.fStmt.fTable hco.1.1.1) ?_⟩
 ·rw[hE,if_pos k5];simp[mStmt]
 rw[if_neg k5] at hE
 simp
 refine ⟨fun h0=>by rw[hE,if_pos h0];simp[dStmt,dRow,dDdl],fun h0=> ?_⟩
 rw[if_neg (by omega)] at hE
 obtain ⟨hto,hro,hx1,hx2⟩:=tab_data hd (s:=p.fStmt.fTable) (by omega)
 have ht0:d.fCat.fTables[(tabAt d.fCat.fTables p.fStmt.fTable).toNat]?.getD dTable=tabOf d.fCat p.fStmt.fTable:=rfl
 have hd0:(d.fData[(tabAt d.fCat.fTables p.fStmt.fTable).toNat]?.getD dRows).fRows=dataOf d (dbIx d p.fStmt.fTable):=rfl
 rw[ht0]
 generalize tabOf d.fCat p.fStmt.fTable=T at*
 generalize dataOf d (dbIx d p.fStmt.fTable)=L at*
 obtain ⟨hT1,hT2,hT3⟩:=table_b hto
 refine ⟨by omega,.of (S_Drift_ok p.fCols p.fKeys T hc.1 hc.2.1 hc.2.2 hk.1 hk.2.1 hk.2.2 hT1 hT2 hT3) ?_⟩
 simp
 have hS:mapSt T L p.fCols p.fKeys p.fStmt=if drift p.fCols p.fKeys T≠0 then (dStmt,drift p.fCols p.fKeys T) else
  if p.fStmt.fKind=1 then (if (mapRow p.fCols T p.fStmt.fRow.fVals []).2≠0 then (dStmt,(mapRow p.fCols T p.fStmt.fRow.fVals []).2) else (⟨1,p.fStmt.fTable,[],(mapRow p.fCols T p.fStmt.fRow.fVals []).1,dDdl⟩,0)) else
  if p.fStmt.fKind=4 then (⟨4,p.fStmt.fTable,[],⟨[]⟩,dDdl⟩,0) else
  if (mapKey p.fKeys T p.fStmt.fKey).2≠0 then (dStmt,(mapKey p.fKeys T p.fStmt.fKey).2) else
  if p.fStmt.fKind=3 then (⟨3,p.fStmt.fTable,(mapKey p.fKeys T p.fStmt.fKey).1,⟨[]⟩,dDdl⟩,0) else
  if (mapRow p.fCols T p.fStmt.fRow.fVals []).2≠0 then (dStmt,(mapRow p.fCols T p.fStmt.fRow.fVals []).2) else
  (⟨2,p.fStmt.fTable,(mapKey p.fKeys T p.fStmt.fKey).1,(mapRow p.fCols T p.fStmt.fRow.fVals (if 0≤keyAt T L (mapKey p.fKeys T p.fStmt.fKey).1 then (L[(keyAt T L (mapKey p.fKeys T p.fStmt.fKey).1).toNat]?.getD dRow).fVals else [])).1,dDdl⟩,0):=rfl
 refine ⟨fun h1=>by rw[hE,hS,if_pos h1];simp[dStmt,dRow,dDdl],fun h1=> ?_⟩
 rw[if_neg (by simp[h1])] at hS
 have hRo:=(rowsOk_ok hro).1
 have hTk:T.fKeys.length≤1048576:=(tableOk_ok hto).2.2
 have hTc:T.fCols.length≤1048576:=(tableOk_ok hto).2.1
 rcases hkd with ⟨k,e1,e2,e3⟩|⟨k,e1,e2,e3⟩|⟨k,e1,e2,e3⟩|⟨k,e1,e2,e3⟩|k
 ·rw[if_pos k] at hS
  obtain ⟨v1,v2,v3⟩:=vals_w e2
  simp[k]
  refine .of (l10Map_ok p.fCols T p.fStmt.fRow.fVals [] hc.1 hT1 hTc) ?_
  simp[mRow]
  refine ⟨fun h2=>by rw[hE,hS,if_pos h2];simp[dStmt,dRow,dDdl],fun h2=> ?_⟩
  rw[if_neg (by simp[h2])] at hS
  rw[hE,hS]
  simp[dDdl]
 ·rw[if_neg (by omega),if_neg (by omega)] at hS
  obtain ⟨v1,v2,v3⟩:=vals_w e1
  obtain ⟨u1,u2,u3⟩:=vals_w e2
  simp[k]
  refine .of (S_MapKey_ok p.fKeys T p.fStmt.fKey hk.1 hk.2.1 hk.2.2 hT1 hT2 hT3 v1 v2 v3) ?_
  simp[mValS]
  refine ⟨fun h2=>by rw[hE,hS,if_pos h2];simp[dStmt,dRow,dDdl],fun h2=> ?_⟩
  rw[if_neg (by simp[h2]),if_neg (by omega)] at hS
  generalize (mapKey p.fKeys T p.fStmt.fKey).1=key at hS⊢
  have hb2:=keyAt_bd T L key
  rw[hd0]
  refine ⟨by omega,.of (rowAtS_ok T L key hT1 hTk hRo) ?_⟩
  simp[hro,k]
  refine ⟨fun ha=>⟨by omega, ?_⟩,fun ha=> ?_⟩
  ·rw[hd0]
   have hz:=mapRow_other (other:=(L[(keyAt T L key).toNat]?.getD dRow).fVals) h1 p.fStmt.fRow.fVals (rowsOk_row hro ha)
   refine ⟨by omega,.of (l10Map_ok p.fCols T p.fStmt.fRow.fVals (L[(keyAt T L key).toNat]?.getD dRow).fVals hc.1 hT1 hTc) ?_⟩
   simp[mRow]
   rw[hz]
   refine ⟨fun h3=>by rw[hE,hS,if_pos h3];simp[dStmt,dRow,dDdl],fun h3=> ?_⟩
   rw[if_neg (by simp[h3]),if_pos ha] at hS
   rw[hE,hS]
   simp[dDdl]
  ·refine .of (l10Map_ok p.fCols T p.fStmt.fRow.fVals [] hc.1 hT1 hTc) ?_
   simp[mRow]
   refine ⟨fun h3=>by rw[hE,hS,if_pos h3];simp[dStmt,dRow,dDdl],fun h3=> ?_⟩
   rw[if_neg (by simp[h3]),if_neg (by omega)] at hS
   rw[hE,hS]
   simp[dDdl]
 ·rw[if_neg (by omega),if_neg (by omega)] at hS
  obtain ⟨v1,v2,v3⟩:=vals_w e1
  simp[k]
  refine .of (S_MapKey_ok p.fKeys T p.fStmt.fKey hk.1 hk.2.1 hk.2.2 hT1 hT2 hT3 v1 v2 v3) ?_
  simp[mValS]
  refine ⟨fun h2=>by rw[hE,hS,if_pos h2];simp[dStmt,dRow,dDdl],fun h2=> ?_⟩
  rw[if_neg (by simp[h2]),if_pos k] at hS
  generalize (mapKey p.fKeys T p.fStmt.fKey).1=key at hS⊢
  have hb2:=keyAt_bd T L key
  rw[hd0]
  refine ⟨by omega,.of (rowAtS_ok T L key hT1 hTk hRo) ?_⟩
  simp[hro,k]
  rw[hE,hS]
  simp[dDdl]
  rw[hd0]
  exact fun ha=>⟨by omega,by omega⟩
 ·rw[if_neg (by omega),if_pos k] at hS
  simp[k]
  rw[hE,hS]
  simp[dDdl]
 ·exact absurd k k5
end Go.Proofs.YteeolohhmfjafaaGreat
namespace Go.Proofs.YteeolohhmfjafaaGreat
open Go Go.Proofs Go.Sm
attribute [local simp] ti eStr eInt eByte eVal cVal vVal eValS vValS eRow cRow vRow eCol cCol vCol vColS eStrS vStrS eDdl cDdl vDdl cStmt vStmt ePart vPart vPartS eTable cTable vTable vTableS cCat vCat vRowS eRows vRows vRowsS eDb cDb vDb eFol vFol eSnap cSnap vSnap
set_option linter.unusedVariables false
set_option linter.unusedSimpArgs false
set_option maxRecDepth 8000
theorem takeAddI_ok (d:GDb) (k:Nat) (c:GCol) (hd:dbOk d=true) (hk:k<d.fCat.fTables.length) (hc:0≤colAt (d.fCat.fTables[k]?.getD dTable) c.fName):
  VC Tryz.prog 354 [vDb d,int .i64 k,vCol c] [(true,mDb (takeAdd d k c).1),(false,[(.s,.sc (.int .i64 (takeAdd d k c).2))])]:=by
 have hl:=dbOk_len hd
 have hro:=((dbOk_iff d).1 hd).2.2 k hk
 have hto:=dbOk_tab hd _ (getD_mem dTable hk)
 have hL0:(d.fData[k]?.getD dRows).fRows=dataOf d k:=rfl
 have hE:takeAdd d k c=if (addCol d k c).fTy≠c.fTy then (dDb,15) else
  if dataOf d k≠ []∧(stands (addCol d k c) c.fDef=false∨has (d.fCat.fTables[k]?.getD dTable).fKeys c.fName=true) then (dDb,14) else
  (⟨d.fCat,d.fData.set k ⟨(dataOf d k).map (fillR (colAt (d.fCat.fTables[k]?.getD dTable) c.fName).toNat c.fDef)⟩⟩,0):=rfl
 have hAC:addCol d k c=(d.fCat.fTables[k]?.getD dTable).fCols[(colAt (d.fCat.fTables[k]?.getD dTable) c.fName).toNat]?.getD dCol:=rfl
 refine vc_of_ew good hm [0,1,2,3,5,6,7,8,9,10,29,40,11,71,72,73,12] Tryz.func354 rfl (by kernel_rfl) (by kernel_rfl) rfl ?_
 simp[Tryz.f354,mDb]
 refine ⟨by omega,by omega, ?_⟩
 rw[hL0] at hro⊢
 generalize hT:d.fCat.fTables[k]?.getD dTable=T at*
 simp[md,lf,List.range']
 obtain ⟨hT1,hT2,hT3⟩:=table_b hto
 have hTl:=tableOk_len hto
 refine .of (colAtI_ok T c.fName hT1.2.1.1) ?_
 have hcb:=idxF_bd (fun x:GCol=>x.fName.toList==c.fName.toList) T.fCols
 rw[show idxF (fun x:GCol=>x.fName.toList==c.fName.toList) T.fCols=colAt T c.fName from rfl] at hcb
 simp[md,lf,List.range']
 rw[←hAC]
 generalize hAd:addCol d k c=A at*
 refine ⟨by omega,fun h1=>by rw[hE,if_pos h1];simp[dDb,dCat],fun h1=> ?_⟩
 rw[if_neg (by simp[h1])] at hE
 refine ⟨fun g=>⟨g,by omega,by omega⟩,.of (fun g=>⟨g,stands_ok A c.fDef⟩) ?_⟩
 simp[md,lf,List.range']
 have hcs:VC Tryz.prog 415 [vStrS T.fKeys,str c.fName] [(false,[(.s,.sc (.bool (has T.fKeys c.fName)))])]:=containsStr_ok _ _ hT1.2.2.1.1
 refine .of (fun g=>⟨g,hcs⟩) ?_
 simp[md,lf,List.range']
 refine ⟨fun g=>⟨g,fun g2=>⟨g,g2⟩⟩,fun g g2=>by rw[hE,if_pos ⟨fun e=>by simp[e] at g,g2⟩];simp[dDb,dCat],fun g=> .of (copyDb_ok d (dbOk_bd hd)) ?_⟩
 have hkd:k<d.fData.length:=by omega
 have hLk:d.fData[k].fRows=dataOf d k:=by rw[←hL0];simp[hkd]
 have hrf:=((rowsOk_iff T (dataOf d k)).1 hro).2.2.1
 have hLl:=((rowsOk_iff T (dataOf d k)).1 hro).2.1
 simp[mDb,md,lf,List.range',eRows,hkd]
 rw[hLk]
 generalize hL:dataOf d k=L at*
 obtain ⟨a,ha⟩: ∃a:Nat,colAt T c.fName=a:=⟨_,(Int.toNat_of_nonneg hc).symm⟩
 rw[ha] at hE hcb⊢
 have hal:a<T.fCols.length:=by omega
 refine ew_loop (fun E=> ∃ (i:Nat) (X:List GRow) (D:List GRows),i≤L.length∧X=chTo (fillR a c.fDef) L i∧D=d.fData.set k ⟨X⟩∧E= {nt:=91,sl:= [(1,int .i64 k),(5,.p (.bx 5 0)),(6,.p (.bx 6 0)),(10,int .i64 a),(11,.p (.bx 11 0)),(71,int .i64 L.length),(72,int .i64 i)],bx:= [(5,cCol c),(6,[.n [Lf.sc (Value.string ⟨#[]⟩),Lf.ls [Lf.sc (Value.string ⟨#[]⟩),Lf.sc (Value.int IntKind.i64 0),Lf.sc (Value.bool false),Lf.sc (Value.bool false),Lf.sc (Value.int IntKind.i64 0),Lf.sc (Value.int IntKind.i64 0),Lf.sc (Value.string ⟨#[]⟩)] [],Lf.ls [Lf.sc (Value.string ⟨#[]⟩)] []],.n [Lf.ls [Lf.ls [Lf.sc (Value.int IntKind.i64 0),Lf.sc (Value.int IntKind.i64 0),Lf.sc (Value.string ⟨#[]⟩)] []] []]]),(11,[.r [64],.r [1064]])],rt:= [(64,(Md.o 201 (fun _=> [Md.s,(Md.o 236 (fun _=> [Md.s,Md.s,Md.s,Md.s,Md.s,Md.s,Md.s])),Md.o 9 (fun _=> [Md.s])])),.ls [Lf.sc (Value.string ⟨#[]⟩),Lf.ls [Lf.sc (Value.string ⟨#[]⟩),Lf.sc (Value.int IntKind.i64 0),Lf.sc (Value.bool false),Lf.sc (Value.bool false),Lf.sc (Value.int IntKind.i64 0),Lf.sc (Value.int IntKind.i64 0),Lf.sc (Value.string ⟨#[]⟩)] [],Lf.ls [Lf.sc (Value.string ⟨#[]⟩)] []] (d.fCat.fTables.map eTable)),(1064,(Md.o 205 (fun _=> [(Md.o 120 (fun _=> [(Md.o 234 (fun _=> [Md.s,Md.s,Md.s]))]))])),.ls [Lf.ls [Lf.ls [Lf.sc (Value.int IntKind.i64 0),Lf.sc (Value.int IntKind.i64 0),Lf.sc (Value.string ⟨#[]⟩)] []] []] (D.map eRows))]}) (fun E=>L.length- (E.num 72).toNat) _ (Gh.kb _ [1,5,6,10,11,71,72] [5,6,11] [64,1064]) ⟨0,_,_,by omega,rfl,rfl, ?_⟩ ?_
 ·have e:d.fData.set k ⟨chTo (fillR a c.fDef) L 0⟩=d.fData:=by
   rw[chTo_zero,←hLk]
   exact List.set_getElem_self hkd
  rw[e]
  simp
 rintro E1 ⟨i,X,D,hi,hX,hD,rfl⟩
 have hXl:X.length=L.length:=by rw[hX,chTo_len]
 have hDl:k<D.length:=by rw[hD];simpa using hkd
 have hDk:D[k]=⟨X⟩:=by subst hD;simp
 simp
 refine ⟨fun h=> ?_,fun h=> ?_⟩
 ·have hiX:i<X.length:=by omega
  have hXi:X[i]=L[i]:=by
   have:=chTo_get (fillR a c.fDef) L i
   rw[←hX,List.getElem?_eq_getElem hiX,List.getElem?_eq_getElem h] at this
   exact Option.some.inj this
  have hvl:(L[i]).fVals.length=T.fCols.length:=((rowFit_iff T _).1 (hrf _ (List.getElem_mem h))).1
  simp[md,lf,List.range',hDl,hDk,hiX,hXi,eRows,eRow,h]
  refine ⟨by omega,.of _ (Gh.kb _ [1,5,6,10,11,71,72] [5,6,11] [64,1064]) ⟨i+1,by omega, ?_⟩ ?_⟩
  ·have e1:chTo (fillR a c.fDef) L (i+1)=X.set i (fillR a c.fDef L[i]):=by
    rw[hX,chTo_succ _ dRow h]
    simp[h]
   rw[e1,hD]
   simp[wrapS (show i<9223372036854775807 by omega),List.map_set,eRows,eRow,fillR,eVal,List.set_set]
  ·simp[wrapS (show i<9223372036854775807 by omega)];omega
 ·have:i=L.length:=by omega
  subst this
  rw[chTo_all] at hX
  rw[hE,if_neg (fun q=>by
   obtain ⟨q1,q2⟩:=q
   have:=g (List.length_pos_iff.2 q1)
   rcases q2 with q2|q2
   ·rw[this.1] at q2;cases q2
   ·rw[this.2] at q2;cases q2),hD,hX]
  simp
theorem takeDdl1_ok (d:GDb) (k:Int) (s:ByteArray) (hd:dbOk d=true) (hb:k<d.fCat.fTables.length):VC Tryz.prog 352 [str s,.p (.ps [.sc (.int .i64 k)]),.p (.ps (eDb d))] [(false,[(.s,.sc (.bool (decide (0≤k)&&decide (0≤colAt (d.fCat.fTables[k.toNat]?.getD dTable) s))))])]:=by
 have hl:=dbOk_len hd
 refine vc_of_ew good hm [0,1,2,4] Tryz.func352 rfl (by kernel_rfl) (by kernel_rfl) rfl ?_
 simp[Tryz.f352,eDb]
 refine ⟨fun g=>⟨g,hb⟩,.of (fun g=>⟨g,colAtI_ok _ s (by
  have h2:k.toNat<d.fCat.fTables.length:=by omega
  exact (table_b (dbOk_tab hd _ (getD_mem dTable h2))).1.2.1.1)⟩) ?_⟩
 simp
theorem made_words {t:GTable} (h:tableOk t=true):bdStrs (colNames t.fCols)∧bdStrs t.fKeys:=by
 obtain ⟨h1,h2,h3,h4,h5,h6,h7,h8⟩:=(tableOk_iff t).1 h
 have key: ∀l:List ByteArray,l.length≤8→(∀s∈l,wordOk s=true)→bdStrs l:=fun l hl hw=>by
  have a:=sumF (w:=wStr) (B:=8) hl fun s hs=>by simpa [wStr] using word_w (hw s hs)
  have hs:(wStrS l).sum≤1048576:=by
   simp only[wStrS,List.sum_cons,List.sum_append,List.sum_nil]
   omega
  refine ⟨⟨by unfold okM;omega,fun s hs=> ?_⟩,(of_sum hs).1,hs⟩
  have:=word_w (hw s hs)
  show s.size≤_
  omega
 refine ⟨key _ (by simpa [colNames] using h3) fun s hs=> ?_,key _ ?_ fun s hs=> ?_⟩
 ·obtain ⟨c,hc,rfl⟩:=List.mem_map.1 hs
  have:=h5 c hc
  simp only[colOk,Bool.and_eq_true] at this
  exact this.1.1
 ·have:=h7.length_le
  simp only[cnm,List.length_map] at this
  omega
 ·obtain ⟨c,hc,rfl⟩:=List.mem_map.1 (h7.mem hs)
  have:=h5 c hc
  simp only[colOk,Bool.and_eq_true] at this
  exact this.1.1
theorem takeDdlI_ok (d:GDb) (s:GStmt) (hd:dbOk d=true) (hs:stmtOk s=true) (k5:s.fKind=5):
  VC Tryz.prog 250 [vDb d,vStmt s] [(true,mDb (takeDdl d s).1),(false,[(.s,.sc (.int .i64 (takeDdl d s).2))])]:=by
 obtain ⟨hso,hs0,hs1,hs2,hs3,hs4⟩:=stmtOk_ok hs
 obtain ⟨hx,hn⟩:=stmtOk_5 hs k5
 have hco:=catOk_ok (dbOk_cat hd)
 have hl:=dbOk_len hd
 have hb:=tabAt_bd d.fCat.fTables s.fTable
 have hE:takeDdl d s=if tabAt d.fCat.fTables s.fTable<0 then (if s.fDdl.fKind=2 then (d,0) else dbExec d s) else
  if s.fDdl.fKind=1 then (if dataOf d (dbIx d s.fTable)≠ [] then (dDb,16) else if drift (colNames s.fDdl.fCols) s.fDdl.fKeys (tabOf d.fCat s.fTable)≠0 then (dDb,drift (colNames s.fDdl.fCols) s.fDdl.fKeys (tabOf d.fCat s.fTable)) else (d,0)) else
  if s.fDdl.fKind=3∧0≤colAt (tabOf d.fCat s.fTable) (col0 s.fDdl).fName then takeAdd d (dbIx d s.fTable) (col0 s.fDdl) else
  if s.fDdl.fKind=4∧colAt (tabOf d.fCat s.fTable) s.fDdl.fName<0 then (d,0) else
  if s.fDdl.fKind=5∧colAt (tabOf d.fCat s.fTable) s.fDdl.fName<0∧0≤colAt (tabOf d.fCat s.fTable) s.fDdl.fTo then (d,0) else dbExec d s:=rfl
 have hat:VC Tryz.prog 196 [vCat d.fCat,str s.fDdl.fTable] [(false,[(.s,.sc (.int .i64 (tabAt d.fCat.fTables s.fTable)))])]:=by
  have h:=at_ok d.fCat s.fDdl.fTable hco.1.1.1
  rw[show tabAt d.fCat.fTables s.fTable=tabAt d.fCat.fTables s.fDdl.fTable by rw[hn]]
  exact h
 have hcd:=copyDb_ok d (dbOk_bd hd)
 have hex:=execO_ok d s hd hs
 by_cases hk:tabAt d.fCat.fTables s.fTable<0
 ·rw[if_pos hk] at hE
  refine vc_of_ew good hm [0,1,2,3,4,5,6,7,8,18,33,9,48,53,63,80,103] Tryz.func250 rfl (by kernel_rfl) (by kernel_rfl) rfl ?_
  simp[Tryz.f250,mDb]
  refine .of hat ?_
  have hk': ¬0≤tabAt d.fCat.fTables s.fTable:=by omega
  simp[hk,hk']
  refine ⟨fun k2=> .of hcd ?_,fun k2=> ?_⟩
  ·rw[hE,if_pos k2]
   simp[mDb]
  rw[if_neg k2] at hE
  have hfn:=fun s'=>takeDdl1_ok d (tabAt d.fCat.fTables s.fTable) s' hd hb.2
  refine .of (fun g=>⟨g,hfn _⟩) ?_
  simp[hk']
  refine .of (fun g=>⟨g,hfn _⟩) ?_
  simp[hk']
  refine .of (fun g=>⟨g,hfn _⟩) ?_
  simp[hk']
  refine ⟨fun g=>⟨g,by have:=(ddlOk_3 hx g).1;omega⟩,.of (fun g=>⟨g,hfn _⟩) ?_⟩
  simp[hk']
  refine .of hex ?_
  rw[hE]
  simp[mDb]
 ·rw[if_neg hk] at hE
  have hk':0≤tabAt d.fCat.fTables s.fTable:=by omega
  obtain ⟨hto,hro,hx1,hx2⟩:=tab_data hd (s:=s.fTable) (by omega)
  have ht0:d.fCat.fTables[(tabAt d.fCat.fTables s.fTable).toNat]?.getD dTable=tabOf d.fCat s.fTable:=rfl
  have hd0:(d.fData[(tabAt d.fCat.fTables s.fTable).toNat]?.getD dRows).fRows=dataOf d (dbIx d s.fTable):=rfl
  have hfn:=fun s'=>takeDdl1_ok d (tabAt d.fCat.fTables s.fTable) s' hd hb.2
  have hadd:=fun c h=>takeAddI_ok d (dbIx d s.fTable) c hd hx1 h
  rw[ht0] at hfn
  have hix:((dbIx d s.fTable:Nat):Int)=tabAt d.fCat.fTables s.fTable:=Int.toNat_of_nonneg hk'
  rw[hix] at hadd
  have hta:d.fCat.fTables[dbIx d s.fTable]?.getD dTable=tabOf d.fCat s.fTable:=rfl
  rw[hta] at hadd
  refine vc_of_ew good hm [0,1,2,3,4,5,6,7,8,18,33,9,48,53,63,80,103] Tryz.func250 rfl (by kernel_rfl) (by kernel_rfl) rfl ?_
  simp[Tryz.f250,mDb]
  refine .of hat ?_
  rcases ddlOk_kind hx with k|k|k|k|k<;>(have hexk:=hex;unfold vStmt at hexk;simp only[k] at hexk)
  ·rw[if_pos k] at hE
   simp[hk,hk',k]
   rw[hd0]
   have hmd:=made_ok s.fDdl (by omega) (by omega)
   unfold vDdl at hmd
   rw[k] at hmd
   have hmt:=ddlOk_1 hx k
   have hmb:=tableOk_len hmt
   have hwd:=made_words hmt
   refine ⟨by omega,fun h=>by rw[hE,if_pos (fun e=>by simp[e] at h)];simp[dDb,dCat],fun h=> .of hmd ?_⟩
   rw[if_neg (by simp[h])] at hE
   simp[mTable,madeT]
   refine .of (names_ok (madeT s.fDdl) (by show s.fDdl.fCols.length≤1048576;omega)) ?_
   simp[mStrS,madeT]
   rw[ht0]
   obtain ⟨hT1,hT2,hT3⟩:=table_b hto
   refine ⟨by omega,.of (I_Drift_ok (colNames s.fDdl.fCols) s.fDdl.fKeys (tabOf d.fCat s.fTable) hwd.1.1 hwd.1.2.1 hwd.1.2.2 hwd.2.1 hwd.2.2.1 hwd.2.2.2 hT1 hT2 hT3) ?_⟩
   simp
   refine ⟨fun h1=>by rw[hE,if_pos h1];simp[dDb,dCat],fun h1=> .of hcd ?_⟩
   rw[hE,if_neg (by simp[h1])]
   simp[mDb]
  ·rw[if_neg (by omega),if_neg (by omega),if_neg (by omega),if_neg (by omega)] at hE
   simp[hk,hk',k]
   refine .of (fun g=>⟨g,hfn _⟩) ?_
   simp[hk',k]
   refine .of (fun g=>⟨g,hfn _⟩) ?_
   simp[hk',k]
   refine .of (fun g=>⟨g,hfn _⟩) ?_
   simp[hk',k]
   refine .of (fun g=>⟨g,hfn _⟩) ?_
   simp[hk',k]
   refine .of hexk ?_
   rw[hE]
   simp[mDb]
  ·rw[if_neg (by omega)] at hE
   simp[hk,hk',k]
   refine .of (fun g=>⟨g,hfn _⟩) ?_
   simp[hk',k]
   refine .of (fun g=>⟨g,hfn _⟩) ?_
   simp[hk',k]
   refine .of (fun g=>⟨g,hfn _⟩) ?_
   simp[hk',k]
   have hcb:s.fDdl.fCols[0]?.getD dCol=col0 s.fDdl:=rfl
   rw[hcb]
   refine ⟨by have:=(ddlOk_3 hx k).1;omega,.of (fun g=>⟨g,hfn _⟩) ?_⟩
   simp[hk',k]
   rw[hcb]
   refine ⟨fun hc=>⟨by have:=(ddlOk_3 hx k).1;omega,.of (hadd (col0 s.fDdl) hc) ?_⟩,fun hc=> ?_⟩
   ·rw[hE,if_pos ⟨k,hc⟩]
    simp[mDb]
   ·rw[if_neg (by omega),if_neg (by omega),if_neg (by omega)] at hE
    refine .of hexk ?_
    rw[hE]
    simp[mDb]
  ·rw[if_neg (by omega),if_neg (by omega)] at hE
   simp[hk,hk',k]
   refine .of (fun g=>⟨g,hfn _⟩) ?_
   simp[hk',k]
   refine ⟨fun h=> .of hcd ?_,fun h=> ?_⟩
   ·rw[hE,if_pos ⟨k,h⟩]
    simp[mDb]
   rw[if_neg (by omega),if_neg (by omega)] at hE
   refine .of (fun g=>⟨g,hfn _⟩) ?_
   simp[hk',k]
   refine .of (fun g=>⟨g,hfn _⟩) ?_
   simp[hk',k]
   refine .of (fun g=>⟨g,hfn _⟩) ?_
   simp[hk',k]
   refine .of hexk ?_
   rw[hE]
   simp[mDb]
  ·rw[if_neg (by omega),if_neg (by omega),if_neg (by omega)] at hE
   simp[hk,hk',k]
   refine .of (fun g=>⟨g,hfn _⟩) ?_
   simp[hk',k]
   refine .of (fun g=>⟨g,hfn _⟩) ?_
   simp[hk',k]
   refine .of (fun g=>⟨g,hfn _⟩) ?_
   simp[hk',k]
   refine ⟨fun h1 h2=> .of hcd ?_,fun h=> ?_⟩
   ·rw[hE,if_pos ⟨k,h1,h2⟩]
    simp[mDb]
   rw[if_neg (by intro q;have:=h q.2.1;omega)] at hE
   refine .of (fun g=>⟨g,hfn _⟩) ?_
   simp[hk',k]
   refine .of hexk ?_
   rw[hE]
   simp[mDb]
end Go.Proofs.YteeolohhmfjafaaGreat
namespace Go.Proofs.YteeolohhmfjafaaGreat
open Go Go.Proofs Go.Sm
attribute [local simp] ti eStr eInt eByte eVal cVal vVal eValS vValS eRow cRow vRow eCol cCol vCol vColS eStrS vStrS eDdl cDdl vDdl cStmt vStmt ePart vPart vPartS eTable cTable vTable vTableS cCat vCat vRowS eRows vRows vRowsS eDb cDb vDb eFol vFol eSnap cSnap vSnap
set_option linter.unusedVariables false
set_option linter.unusedSimpArgs false
set_option maxRecDepth 8000
theorem takePI_ok (d:GDb) (p:GPart) (hd:dbOk d=true) (hs:stmtOk p.fStmt=true) (hc:bdStrs p.fCols) (hk:bdStrs p.fKeys):
  VC Tryz.prog 151 [vDb d,vPart p] [(true,mDb (takeP d p).1),(false,[(.s,.sc (.int .i64 (takeP d p).2))])]:=by
 have hE:takeP d p=if p.fStmt.fKind=5 then takeDdl d p.fStmt else if (mapStP d p).2≠0 then (dDb,(mapStP d p).2) else dbExec d (mapStP d p).1:=rfl
 refine vc_of_ew good hm [0,1,2,3,4,5,11,6,7,25] Tryz.func151 rfl (by kernel_rfl) (by kernel_rfl) rfl ?_
 simp[Tryz.f151,mDb]
 refine ⟨fun k5=> ?_,fun k5=> .of (mapStI_ok d p hd hs hc hk) ?_⟩
 ·have ht:=takeDdlI_ok d p.fStmt hd hs k5
  refine .of ht ?_
  rw[hE,if_pos k5]
  simp[mDb,-OwRs,-OwML]
 rw[if_neg k5] at hE
 simp[mStmt]
 refine ⟨fun h=>by rw[hE,if_pos h];simp[dDb,dCat],fun h=> .of (execO_ok d (mapStP d p).1 hd (mapStP_ok hd hs h)) ?_⟩
 rw[hE,if_neg (by simp[h])]
 simp[mDb,-OwRs,-OwML]
theorem l11Exec_ok (d:GDb) (s:GStmt) (hd:dbOk d=true) (hs:stmtOk s=true):VC Tryz.prog 248 [vDb d,vStmt s] [(true,fDb (dbExec d s).1),(false,[(.s,.sc (.int .i64 (dbExec d s).2))])]:=by
 have h:=execS_ok d s (dbOk_ok hd) (dbOk_key hd) (stmtOk_ok hs).1
 have hE:specExec d s=dbExec d s:=by unfold specExec;rw[if_neg (by simp[hd,hs])]
 rw[hE] at h
 refine vc_of_ewF good hm [0,1,2,3,4,5] Tryz.func248 rfl (by kernel_rfl) (by kernel_rfl) rfl ?_
 simp[Tryz.f248,fDb]
 refine .of h ?_
 simp[fDb,FullRs,FullML]
theorem l11Fill_ok (d:GDb) (k a:Nat) (v:GVal) (hd:dbOk d=true) (hk:k<d.fCat.fTables.length) (ha:a< (d.fCat.fTables[k]?.getD dTable).fCols.length):
  VC Tryz.prog 413 [vDb d,int .i64 k,int .i64 a,vVal v] [(true,mDb ⟨d.fCat,d.fData.set k ⟨(dataOf d k).map (fillR a v)⟩⟩)]:=by
 have hl:=dbOk_len hd
 have hro:=((dbOk_iff d).1 hd).2.2 k hk
 have hL0:(d.fData[k]?.getD dRows).fRows=dataOf d k:=rfl
 rw[hL0] at hro
 have hkd:k<d.fData.length:=by omega
 have hLk:d.fData[k].fRows=dataOf d k:=by rw[←hL0];simp[hkd]
 generalize d.fCat.fTables[k]?.getD dTable=T at*
 have hrf:=((rowsOk_iff T (dataOf d k)).1 hro).2.2.1
 have hLl:=((rowsOk_iff T (dataOf d k)).1 hro).2.1
 refine vc_of_ew good hm [0,1,2,3,4,7,8,9,19,20,21,10] Tryz.func413 rfl (by kernel_rfl) (by kernel_rfl) rfl ?_
 simp[Tryz.f413,mDb]
 refine .of (l04Copy_ok d (dbOk_bd hd)) ?_
 simp[mDb,md,lf,List.range',eRows,hkd]
 rw[hLk]
 generalize hL:dataOf d k=L at*
 refine ew_loop (fun E=> ∃ (i:Nat) (X:List GRow) (D:List GRows),i≤L.length∧X=chTo (fillR a v) L i∧D=d.fData.set k ⟨X⟩∧E= {nt:=38,sl:= [(1,int .i64 k),(2,int .i64 a),(7,.p (.bx 7 0)),(8,.p (.bx 8 0)),(9,.p (.bx 9 0)),(19,int .i64 L.length),(20,int .i64 i)],bx:= [(7,cVal v),(8,[.n [Lf.sc (Value.string ⟨#[]⟩),Lf.ls [Lf.sc (Value.string ⟨#[]⟩),Lf.sc (Value.int IntKind.i64 0),Lf.sc (Value.bool false),Lf.sc (Value.bool false),Lf.sc (Value.int IntKind.i64 0),Lf.sc (Value.int IntKind.i64 0),Lf.sc (Value.string ⟨#[]⟩)] [],Lf.ls [Lf.sc (Value.string ⟨#[]⟩)] []],.n [Lf.ls [Lf.ls [Lf.sc (Value.int IntKind.i64 0),Lf.sc (Value.int IntKind.i64 0),Lf.sc (Value.string ⟨#[]⟩)] []] []]]),(9,[.r [12],.r [1012]])],rt:= [(12,(Md.o 201 (fun _=> [Md.s,(Md.o 236 (fun _=> [Md.s,Md.s,Md.s,Md.s,Md.s,Md.s,Md.s])),Md.o 9 (fun _=> [Md.s])])),.ls [Lf.sc (Value.string ⟨#[]⟩),Lf.ls [Lf.sc (Value.string ⟨#[]⟩),Lf.sc (Value.int IntKind.i64 0),Lf.sc (Value.bool false),Lf.sc (Value.bool false),Lf.sc (Value.int IntKind.i64 0),Lf.sc (Value.int IntKind.i64 0),Lf.sc (Value.string ⟨#[]⟩)] [],Lf.ls [Lf.sc (Value.string ⟨#[]⟩)] []] (d.fCat.fTables.map eTable)),(1012,(Md.o 205 (fun _=> [(Md.o 120 (fun _=> [(Md.o 234 (fun _=> [Md.s,Md.s,Md.s]))]))])),.ls [Lf.ls [Lf.ls [Lf.sc (Value.int IntKind.i64 0),Lf.sc (Value.int IntKind.i64 0),Lf.sc (Value.string ⟨#[]⟩)] []] []] (D.map eRows))]}) (fun E=>L.length- (E.num 20).toNat) _ (Gh.kb _ [1,2,7,8,9,19,20] [7,8,9] [12,1012]) ⟨0,_,_,by omega,rfl,rfl, ?_⟩ ?_
 ·have e:d.fData.set k ⟨chTo (fillR a v) L 0⟩=d.fData:=by
   rw[chTo_zero,←hLk]
   exact List.set_getElem_self hkd
  rw[e]
  simp
 rintro E1 ⟨i,X,D,hi,hX,hD,rfl⟩
 have hXl:X.length=L.length:=by rw[hX,chTo_len]
 have hDl:k<D.length:=by rw[hD];simpa using hkd
 have hDk:D[k]=⟨X⟩:=by subst hD;simp
 simp
 refine ⟨fun h=> ?_,fun h=> ?_⟩
 ·have hiX:i<X.length:=by omega
  have hXi:X[i]=L[i]:=by
   have:=chTo_get (fillR a v) L i
   rw[←hX,List.getElem?_eq_getElem hiX,List.getElem?_eq_getElem h] at this
   exact Option.some.inj this
  have hvl:(L[i]).fVals.length=T.fCols.length:=((rowFit_iff T _).1 (hrf _ (List.getElem_mem h))).1
  simp[md,lf,List.range',hDl,hDk,hiX,hXi,eRows,eRow,h]
  refine ⟨by omega,.of _ (Gh.kb _ [1,2,7,8,9,19,20] [7,8,9] [12,1012]) ⟨i+1,by omega, ?_⟩ ?_⟩
  ·have e1:chTo (fillR a v) L (i+1)=X.set i (fillR a v L[i]):=by
    rw[hX,chTo_succ _ dRow h]
    simp[h]
   rw[e1,hD]
   simp[wrapS (show i<9223372036854775807 by omega),List.map_set,eRows,eRow,fillR,eVal,List.set_set]
  ·simp[wrapS (show i<9223372036854775807 by omega)];omega
 ·have:i=L.length:=by omega
  subst this
  rw[chTo_all] at hX
  rw[hD,hX]
  simp
theorem l11Add_ok (d:GDb) (k:Nat) (c:GCol) (hd:dbOk d=true) (hk:k<d.fCat.fTables.length) (hc:0≤colAt (d.fCat.fTables[k]?.getD dTable) c.fName):
  VC Tryz.prog 348 [vDb d,int .i64 k,int .i64 (colAt (d.fCat.fTables[k]?.getD dTable) c.fName),vCol c] [(true,mDb (takeAdd d k c).1),(false,[(.s,.sc (.int .i64 (takeAdd d k c).2))])]:=by
 have hl:=dbOk_len hd
 have hto:=dbOk_tab hd _ (getD_mem dTable hk)
 have hL0:(d.fData[k]?.getD dRows).fRows=dataOf d k:=rfl
 have hE:takeAdd d k c=if (addCol d k c).fTy≠c.fTy then (dDb,15) else
  if dataOf d k≠ []∧(stands (addCol d k c) c.fDef=false∨has (d.fCat.fTables[k]?.getD dTable).fKeys c.fName=true) then (dDb,14) else
  (⟨d.fCat,d.fData.set k ⟨(dataOf d k).map (fillR (colAt (d.fCat.fTables[k]?.getD dTable) c.fName).toNat c.fDef)⟩⟩,0):=rfl
 have hAC:addCol d k c=(d.fCat.fTables[k]?.getD dTable).fCols[(colAt (d.fCat.fTables[k]?.getD dTable) c.fName).toNat]?.getD dCol:=rfl
 have hcb:=idxF_bd (fun x:GCol=>x.fName.toList==c.fName.toList) (d.fCat.fTables[k]?.getD dTable).fCols
 rw[show idxF (fun x:GCol=>x.fName.toList==c.fName.toList) (d.fCat.fTables[k]?.getD dTable).fCols=colAt (d.fCat.fTables[k]?.getD dTable) c.fName from rfl] at hcb
 have hfl:=l11Fill_ok d k (colAt (d.fCat.fTables[k]?.getD dTable) c.fName).toNat c.fDef hd hk (by omega)
 rw[Int.toNat_of_nonneg hc] at hfl
 have hck:colOk (addCol d k c)=true:=by rw[hAC];exact tableOk_col hto (by omega)
 refine vc_of_ew good hm [0,1,2,3,4,7,8,9,10,11,27,50] Tryz.func348 rfl (by kernel_rfl) (by kernel_rfl) rfl ?_
 simp[Tryz.f348,mDb]
 rw[←hAC,hL0]
 generalize addCol d k c=A at*
 generalize d.fCat.fTables[k]?.getD dTable=T at*
 obtain ⟨hT1,hT2,hT3⟩:=table_b hto
 have hfit:VC Tryz.prog 376 [vCol A,vVal c.fDef] [(false,[(.s,.sc (.bool (stands A c.fDef)))])]:=by rw[←fits_eq hck];exact fits_ok A c.fDef
 refine ⟨by omega,by omega,fun h1=>by rw[hE,if_pos h1];simp[dDb,dCat],fun h1=>⟨by omega,.of (fun g=>⟨g,hfit⟩) ?_⟩⟩
 rw[if_neg (by simp[h1])] at hE
 simp
 refine .of (fun g=>⟨g,l02Has_ok T.fKeys c.fName hT1.2.2.1.1⟩) ?_
 simp
 refine ⟨fun g=>⟨g,fun g2=>⟨g,g2⟩⟩,fun g g2=>by rw[hE,if_pos ⟨fun e=>by simp[e] at g,g2⟩];simp[dDb,dCat],fun g=> .of hfl ?_⟩
 rw[hE,if_neg (fun q=>by
  obtain ⟨q1,q2⟩:=q
  have:=g (List.length_pos_iff.2 q1)
  rcases q2 with q2|q2
  ·rw[this.1] at q2;cases q2
  ·rw[this.2] at q2;cases q2)]
 simp[mDb]
theorem l11Ddl_ok (d:GDb) (s:GStmt) (hd:dbOk d=true) (hs:stmtOk s=true) (k5:s.fKind=5):
  VC Tryz.prog 246 [vDb d,vStmt s] [(true,fDb (takeDdl d s).1),(false,[(.s,.sc (.int .i64 (takeDdl d s).2))])]:=by
 obtain ⟨hso,hs0,hs1,hs2,hs3,hs4⟩:=stmtOk_ok hs
 obtain ⟨hx,hn⟩:=stmtOk_5 hs k5
 have hco:=catOk_ok (dbOk_cat hd)
 have hl:=dbOk_len hd
 have hb:=tabAt_bd d.fCat.fTables s.fTable
 have hE:takeDdl d s=if tabAt d.fCat.fTables s.fTable<0 then (if s.fDdl.fKind=2 then (d,0) else dbExec d s) else
  if s.fDdl.fKind=1 then (if dataOf d (dbIx d s.fTable)≠ [] then (dDb,16) else if drift (colNames s.fDdl.fCols) s.fDdl.fKeys (tabOf d.fCat s.fTable)≠0 then (dDb,drift (colNames s.fDdl.fCols) s.fDdl.fKeys (tabOf d.fCat s.fTable)) else (d,0)) else
  if s.fDdl.fKind=3∧0≤colAt (tabOf d.fCat s.fTable) (col0 s.fDdl).fName then takeAdd d (dbIx d s.fTable) (col0 s.fDdl) else
  if s.fDdl.fKind=4∧colAt (tabOf d.fCat s.fTable) s.fDdl.fName<0 then (d,0) else
  if s.fDdl.fKind=5∧colAt (tabOf d.fCat s.fTable) s.fDdl.fName<0∧0≤colAt (tabOf d.fCat s.fTable) s.fDdl.fTo then (d,0) else dbExec d s:=rfl
 have hat:=l02At_ok d.fCat s.fTable hco.1.1.1
 have hcd:=(l04Copy_ok d (dbOk_bd hd)).frz (by simp[FullRs,FullML,mDb])
 have hex:=l11Exec_ok d s hd hs
 by_cases hk:tabAt d.fCat.fTables s.fTable<0
 ·rw[if_pos hk] at hE
  refine vc_of_ewF good hm [0,1,2,3,4,5,6,7,22,25,8,40,41,50,9,54,55,56,57,11,12,72,77,13,87,98,104,107,120] Tryz.func246 rfl (by kernel_rfl) (by kernel_rfl) rfl ?_
  simp[Tryz.f246,fDb]
  refine .of hat ?_
  simp[hk]
  refine ⟨fun k2=> .of hcd ?_,fun k2=> .of hex ?_⟩
  ·rw[hE,if_pos k2]
   simp[mDb]
  ·rw[hE,if_neg k2]
   simp[fDb]
 ·rw[if_neg hk] at hE
  have hk':0≤tabAt d.fCat.fTables s.fTable:=by omega
  obtain ⟨hto,hro,hx1,hx2⟩:=tab_data hd (s:=s.fTable) (by omega)
  have ht0:d.fCat.fTables[(tabAt d.fCat.fTables s.fTable).toNat]?.getD dTable=tabOf d.fCat s.fTable:=rfl
  have hd0:(d.fData[(tabAt d.fCat.fTables s.fTable).toNat]?.getD dRows).fRows=dataOf d (dbIx d s.fTable):=rfl
  have hadd:=fun c h=>l11Add_ok d (dbIx d s.fTable) c hd hx1 h
  have hix:((dbIx d s.fTable:Nat):Int)=tabAt d.fCat.fTables s.fTable:=Int.toNat_of_nonneg hk'
  have hta:d.fCat.fTables[dbIx d s.fTable]?.getD dTable=tabOf d.fCat s.fTable:=rfl
  rw[hix,hta] at hadd
  obtain ⟨hT1,hT2,hT3⟩:=table_b hto
  refine vc_of_ewF good hm [0,1,2,3,4,5,6,7,22,25,8,40,41,50,9,54,55,56,57,11,12,72,77,13,87,98,104,107,120] Tryz.func246 rfl (by kernel_rfl) (by kernel_rfl) rfl ?_
  simp[Tryz.f246,fDb]
  refine .of hat ?_
  rcases ddlOk_kind hx with k|k|k|k|k<;>(have hexk:=hex;unfold vStmt at hexk;simp only[k] at hexk)
  ·rw[if_pos k] at hE
   simp[hk,hk',k]
   rw[hd0]
   have hmt:=ddlOk_1 hx k
   have hwd:=made_words hmt
   refine ⟨hb.2,by omega,fun h=>by rw[hE,if_pos (fun e=>by simp[e] at h)];simp[dDb,dCat],fun h=> ?_⟩
   rw[if_neg (by simp[h])] at hE
   have hta2:d.fCat.fTables[(tabAt d.fCat.fTables s.fTable).toNat]?.getD dTable=tabOf d.fCat s.fTable:=rfl
   rw[hta2]
   refine ew_loop (fun E=> ∃i:Nat,i≤s.fDdl.fCols.length∧E= {nt:=128,sl:= [(2,.p (.bx 2 0)),(4,.p (.bx 4 0)),(6,.p (.bx 6 0)),(8,.p (.bx 8 0)),(9,.v false [.r [52]]),(54,vColS s.fDdl.fCols),(55,int .i64 s.fDdl.fCols.length),(56,int .i64 i)],bx:= [(2,cDb d),(4,[.n [Lf.sc (Value.string ⟨#[]⟩),Lf.ls [Lf.sc (Value.string ⟨#[]⟩),Lf.sc (Value.int IntKind.i64 0),Lf.sc (Value.bool false),Lf.sc (Value.bool false),Lf.sc (Value.int IntKind.i64 0),Lf.sc (Value.int IntKind.i64 0),Lf.sc (Value.string ⟨#[]⟩)] [],Lf.ls [Lf.sc (Value.string ⟨#[]⟩)] []],.n [Lf.ls [Lf.ls [Lf.sc (Value.int IntKind.i64 0),Lf.sc (Value.int IntKind.i64 0),Lf.sc (Value.string ⟨#[]⟩)] []] []]]),(6,cDdl s.fDdl),(8,cTable (tabOf d.fCat s.fTable))],rt:=(mStrS (colNames (s.fDdl.fCols.take i))).map fun y=>(52,y)}) (fun E=>s.fDdl.fCols.length- (E.num 56).toNat) _ (Gh.kb _ [2,4,6,8,9,54,55,56] [2,4,6,8] [52]) ⟨0,by omega,by simp[mStrS,colNames,k]⟩ ?_
   rintro E1 ⟨i,hi,rfl⟩
   have hcn:=fun h=>colNames_succ (l:=s.fDdl.fCols) (i:=i) h
   have hcl:(colNames (s.fDdl.fCols.take i)).length=i:=by simp[colNames];omega
   simp[mStrS]
   refine ⟨fun h=>⟨h,by omega,.of _ ((Gh.kb _ [2,4,6,8,9,54,55,56] [2,4,6,8] [64]).trans (Gh.rn _ 64 52)) ⟨i+1,by omega, ?_⟩ ?_⟩,fun h=> ?_⟩
   ·rw[hcn h]
    simp[wrapS (show i<9223372036854775807 by omega),mStrS]
   ·simp[wrapS (show i<9223372036854775807 by omega)];omega
   ·have:i=s.fDdl.fCols.length:=by omega
    subst this
    rw[List.take_length]
    refine .of (S_Drift_ok (colNames s.fDdl.fCols) s.fDdl.fKeys (tabOf d.fCat s.fTable) hwd.1.1 hwd.1.2.1 hwd.1.2.2 hwd.2.1 hwd.2.2.1 hwd.2.2.2 hT1 hT2 hT3) ?_
    simp
    refine ⟨fun h1=>by rw[hE,if_pos h1];simp[dDb,dCat],fun h1=> .of hcd ?_⟩
    rw[hE,if_neg (by simp[h1])]
    simp[mDb]
  ·rw[if_neg (by omega),if_neg (by omega),if_neg (by omega),if_neg (by omega)] at hE
   simp[hk,hk',k]
   refine ⟨hb.2,.of hexk ?_⟩
   rw[hE]
   simp[fDb]
  ·rw[if_neg (by omega)] at hE
   simp[hk,hk',k]
   rw[ht0]
   have hcb:s.fDdl.fCols[0]?.getD dCol=col0 s.fDdl:=rfl
   rw[hcb]
   have h31:=(ddlOk_3 hx k).1
   refine ⟨hb.2,by omega,.of (colAtS_ok _ _ hT1.2.1.1) ?_⟩
   simp
   rw[hcb]
   refine ⟨fun hc=>⟨by omega,.of ((hadd (col0 s.fDdl) hc).frz (by simp[FullRs,FullML,mDb])) ?_⟩,fun hc=> .of hexk ?_⟩
   ·rw[hE,if_pos ⟨k,hc⟩]
    simp[mDb]
   ·rw[if_neg (by omega),if_neg (by omega),if_neg (by omega)] at hE
    rw[hE]
    simp[fDb]
  ·rw[if_neg (by omega),if_neg (by omega)] at hE
   simp[hk,hk',k]
   rw[ht0]
   refine ⟨hb.2,.of (colAtS_ok _ _ hT1.2.1.1) ?_⟩
   simp
   refine ⟨fun h=> .of hcd ?_,fun h=> .of hexk ?_⟩
   ·rw[hE,if_pos ⟨k,h⟩]
    simp[mDb]
   ·rw[if_neg (by omega),if_neg (by omega)] at hE
    rw[hE]
    simp[fDb]
  ·rw[if_neg (by omega),if_neg (by omega),if_neg (by omega)] at hE
   simp[hk,hk',k]
   rw[ht0]
   refine ⟨hb.2,.of (colAtS_ok _ _ hT1.2.1.1) ?_⟩
   simp
   refine .of (fun g=>⟨g,colAtS_ok _ _ hT1.2.1.1⟩) ?_
   simp
   refine ⟨fun h1 h2=> .of hcd ?_,fun h=> .of hexk ?_⟩
   ·rw[hE,if_pos ⟨k,h1,h2⟩]
    simp[mDb]
   ·rw[if_neg (by intro q;have:=h q.2.1;omega)] at hE
    rw[hE]
    simp[fDb]
end Go.Proofs.YteeolohhmfjafaaGreat
namespace Go.Proofs.YteeolohhmfjafaaGreat
open Go Go.Proofs Go.Sm
attribute [local simp] ti eStr eInt eByte eVal cVal vVal eValS vValS eRow cRow vRow eCol cCol vCol vColS eStrS vStrS eDdl cDdl vDdl cStmt vStmt ePart vPart vPartS eTable cTable vTable vTableS cCat vCat vRowS eRows vRows vRowsS eDb cDb vDb eFol vFol eSnap cSnap vSnap
set_option linter.unusedVariables false
set_option linter.unusedSimpArgs false
set_option maxRecDepth 8000
@[simp] theorem row_Ints (l:List Int) (i:Nat):(Option.map eInt l[i]?).getD [.sc (.int .i64 0)]=eInt (l[i]?.getD 0):=by cases l[i]? <;>rfl
end Go.Proofs.YteeolohhmfjafaaGreat
namespace Go.Proofs.YteeolohhmfjafaaGreat
open Go Go.Proofs Go.Sm
attribute [local simp] ti eStr eInt eByte eVal cVal vVal eValS vValS eRow cRow vRow eCol cCol vCol vColS eStrS vStrS eDdl cDdl vDdl cStmt vStmt ePart vPart vPartS eTable cTable vTable vTableS cCat vCat vRowS eRows vRows vRowsS eDb cDb vDb eFol vFol eSnap cSnap vSnap
set_option linter.unusedVariables false
set_option linter.unusedSimpArgs false
set_option maxRecDepth 8000
@[simp] theorem ow_Ints (l:List Int):Ow (Md.o 3 (fun _=> [Md.s])) (.ls [Lf.sc (Value.int IntKind.i64 0)] (l.map eInt))=True:=eq_true (Ow_rows (fun x j hj=>match j,hj with|0,_=> .sc|n+1,hj=>absurd hj (by simp)) l)
@[simp] theorem full_Ints (l:List Int):Full (Md.o 3 (fun _=> [Md.s])) (.ls [Lf.sc (Value.int IntKind.i64 0)] (l.map eInt))=True:=eq_true (Full_rows (fun x j hj=>match j,hj with|0,_=> .s|n+1,hj=>absurd hj (by simp)) l)
def hasI (l:List Int) (x:Int):Bool:=l.any (fun y=>x==y)
def usedR (x:Int) (r:GRec):Bool:=decide (r.fKind=1)&&decide (r.fXid=x)
def usedX (l:List GRec) (x:Int):Bool:=l.any (usedR x)
def openStep (o:List Int) (r:GRec):List Int:=
 if r.fKind=1 then (if hasI o r.fXid=true then o else o++ [r.fXid]) else if r.fKind=3∨r.fKind=4 then o.filter (fun y=> !(y==r.fXid)) else o
def openL (l:List GRec):List Int:=l.foldl openStep []
def recBad (l:List GRec) (r:GRec):Bool:= !recOk r||((decide (r.fKind=1)&&usedX l r.fXid)||(!decide (r.fKind=1)&& !hasI (openL l) r.fXid))
def playStep (l:List GRec) (db:GDb) (r:GRec):Option GDb:=
 if recBad l r=true then none else if r.fKind=3 then (if (execAll db (stmtsOf l r.fXid)).2.1≠0 then none else some (execAll db (stmtsOf l r.fXid)).1) else some db
def playTo (db:GDb) (l:List GRec):Nat→Option GDb
 |0=>some db
 |i+1=>(playTo db l i).bind fun D=>playStep (l.take i) D (l[i]?.getD dRec)
def play (db:GDb) (l:List GRec):Option GDb:=playTo db l l.length
theorem dbOk_nil:dbOk ⟨⟨[]⟩,[]⟩=true:=by decide
end Go.Proofs.YteeolohhmfjafaaGreat
