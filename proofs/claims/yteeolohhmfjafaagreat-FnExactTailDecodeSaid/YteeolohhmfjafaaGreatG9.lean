import Derived.Test.YteeolohhmfjafaaGreatG8
import Derived.Test.YteeolohhmfjafaaGreatG4
import Derived.Test.YteeolohhmfjafaaGreatG6
import Derived.Test.YteeolohhmfjafaaGreatG7
set_option maxHeartbeats 8000000
set_option maxRecDepth 8000
namespace Go.Proofs.YteeolohhmfjafaaGreat
open Go Go.Proofs Go.Sm
attribute [local simp] ti eStr eInt eByte eVal vVal eValS vValS eRow cRow vRow eCol vCol vColS vStrS eDdl cDdl vDdl eStmt cStmt vStmt ePart vPart vPartS eBatch vBatch eTable cTable vTable vTableS cCat vCat vRowS eRows vRows vRowsS cDb vDb eRec vRec vRecS eTail cTail vTail vBatchS vStmtS
set_option linter.unusedVariables false
set_option linter.unusedSimpArgs false
set_option maxRecDepth 8000
theorem full_set (cols:Nat→List Md) (hc: ∀i,cols i= [(Md.o 120 (fun _=> [(Md.o 234 (fun _=> [Md.s,Md.s,Md.s]))]))]∨cols i= [Md.s]) (l:List GRows) (k:Nat) (x:List GRow):Full (Md.o 205 cols) (.ls [Lf.ls [Lf.ls [Lf.sc (Value.int IntKind.i64 0),Lf.sc (Value.int IntKind.i64 0),Lf.sc (Value.string ⟨#[]⟩)] []] []] ((l.map eRows).set k (eRows ⟨x⟩))):=by
 rw[←List.map_set]
 refine Full_rowsF (fun i x j hj=> ?_) _
 match j,hj with
 |0,_=>
  rcases hc i with h|h<;>rw[h]
  ·exact of_eq_true (full_RowS x.fRows)
  ·exact .s
 |n+1,hj=>exact absurd hj (by simp)
theorem wrap10 {n:Int} (h:0≤n) (h2:n≤100):IntKind.i64.wrap (10+n)=10+n:=by
 obtain ⟨m,rfl⟩: ∃m:Nat,n=m:=⟨_,(Int.toNat_of_nonneg h).symm⟩
 have:=wrapS (show 9+m<9223372036854775807 by omega)
 rw[show (10+(m:Int))=((9+m:Nat):Int)+1 by omega]
 exact this
theorem dbCh_bd (d:GDb) (x:GDdl):0≤(dbCh d x).2∧(dbCh d x).2≤100:=by
 unfold dbCh
 split
 ·show 0≤(ddlApply d.fCat x).2∧(ddlApply d.fCat x).2≤100
  unfold ddlApply
  split
  ·exact ⟨(by decide:(0:Int)≤1),(by decide:(1:Int)≤100)⟩
  split
  ·show 0≤ddlCode _ _∧ddlCode _ _≤100
   unfold ddlCode tabCode
   grind
  ·exact ⟨(by decide:(0:Int)≤0),(by decide:(0:Int)≤100)⟩
 ·exact ⟨(by decide:(0:Int)≤0),(by decide:(0:Int)≤100)⟩
theorem stRows_bd (t:GTable) (l:List GRow) (s:GStmt):0≤(stRows t l s).2∧(stRows t l s).2≤100:=by
 unfold stRows rowPut rowSet rowOut
 grind
theorem execO_ok (d:GDb) (s:GStmt) (hd:dbOk d=true) (hs:stmtOk s=true):VC Tryz.prog 96 [vDb d,vStmt s] [(true,mDb (dbExec d s).1),(false,[(.s,.sc (.int .i64 (dbExec d s).2))])]:=by
 obtain ⟨hso,_,hs1,hs2,hs3,hs4⟩:=stmtOk_ok hs
 have hod:=dbOk_ok hd
 have hco:=catOk_ok (dbOk_cat hd)
 have hl:=dbOk_len hd
 have hb:=tabAt_bd d.fCat.fTables s.fTable
 refine vc_of_ew good hm [0,1,2,3,4,5,6,30,34,7,8,43,9,10,11,61,62,72,84,95,12] Tryz.func96 rfl (by kernel_rfl) (by kernel_rfl) rfl ?_
 simp[Tryz.f96,mDb]
 have hat:=at_ok d.fCat s.fTable hco.1.1.1
 have hE:dbExec d s=if tabAt d.fCat.fTables s.fTable<0∧ ¬(s.fKind=5∧s.fDdl.fKind=1) then (dDb,4) else
  if s.fKind=5 then (if (dbCh d s.fDdl).2≠0 then (dDb,10+(dbCh d s.fDdl).2) else dbCh d s.fDdl) else
  if (stRows (tabOf d.fCat s.fTable) (dataOf d (dbIx d s.fTable)) s).2≠0 then (dDb,10+(stRows (tabOf d.fCat s.fTable) (dataOf d (dbIx d s.fTable)) s).2) else
  (⟨d.fCat,d.fData.set (dbIx d s.fTable) ⟨(stRows (tabOf d.fCat s.fTable) (dataOf d (dbIx d s.fTable)) s).1⟩⟩,0):=rfl
 by_cases k5:s.fKind=5
 ·refine .of hat ?_
  simp[k5]
  have hbd:=dbCh_bd d s.fDdl
  refine ⟨fun h1 h2=>by rw[hE,if_pos ⟨h1,fun h=>h2 h.2⟩];simp[dDb,dCat,FullRs,FullML],fun h1=> ?_⟩
  rw[if_neg (fun h=>h.2 ⟨k5,h1 h.1⟩),if_pos k5] at hE
  refine .of (changed_ok d s.fDdl hd hso.2.2.2.2.1 (by omega) (by omega)) ?_
  simp[mDb,FullRs,FullML]
  refine ⟨fun h=>by rw[hE,if_pos h,wrap10 hbd.1 hbd.2];simp[dDb,dCat,FullRs,FullML],fun h=> ?_⟩
  rw[hE,if_neg (by simp[h])]
  simp[h]
 ·by_cases ht:tabAt d.fCat.fTables s.fTable<0
  ·refine .of hat ?_
   simp[k5,ht]
   rw[hE,if_pos ⟨ht,fun h=>k5 h.1⟩]
   simp[dDb,dCat,FullRs,FullML]
  ·rw[if_neg (fun h=>ht h.1),if_neg k5] at hE
   obtain ⟨k,hk⟩: ∃k:Nat,tabAt d.fCat.fTables s.fTable=k:=⟨_,(Int.toNat_of_nonneg (by omega)).symm⟩
   have hkl:k<d.fCat.fTables.length:=by omega
   have hkd:k<d.fData.length:=by omega
   rw[hk] at hat
   have htk:tabOf d.fCat s.fTable=d.fCat.fTables[k]:=by
    unfold tabOf
    rw[hk]
    simp[hkl]
   have hix:dbIx d s.fTable=k:=by unfold dbIx;rw[hk];rfl
   have hdk:dataOf d k=d.fData[k].fRows:=by unfold dataOf;simp[hkd]
   have hm:d.fCat.fTables[k]∈d.fCat.fTables:=List.getElem_mem hkl
   have hmd:d.fData[k]∈d.fData:=List.getElem_mem hkd
   have hro:rowsOk d.fCat.fTables[k] d.fData[k].fRows=true:=by
    have:=((dbOk_iff d).1 hd).2.2 k hkl
    simpa [hkl,hkd] using this
   have htab:=hco.1.1.2 _ hm
   have hky:(d.fCat.fTables[k]).fKeys.length≤1048576:=by have:=(hco.2.2 _ hm).2.2;omega
   have hrs:=(rowsOk_ok hro).1
   rw[htk,hix,hdk] at hE
   have hk0: ¬((k:Int)<0):=by omega
   by_cases k1:s.fKind=1
   ·have hst:stRows d.fCat.fTables[k] d.fData[k].fRows s=rowPut d.fCat.fTables[k] d.fData[k].fRows s.fRow:=by simp[stRows,k1]
    rw[hst] at hE
    refine .of hat ?_
    simp[k5,hkl,hkd,hk0,k1,md,lf,List.range']
    refine .of (rowPutI_ok d.fCat.fTables[k] d.fData[k].fRows s.fRow htab hky hrs hso.2.2.2.1) ?_
    simp[mRowS]
    have hbd:=stRows_bd d.fCat.fTables[k] d.fData[k].fRows s
    rw[hst] at hbd
    refine ⟨fun h=>by rw[hE,if_pos h,wrap10 hbd.1 hbd.2];simp[dDb,dCat,FullRs,FullML],fun h=> .of (copyDb_ok d (dbOk_bd hd)) ?_⟩
    rw[hE,if_neg (by simp[h])]
    simp[mDb,md,lf,eRows,List.range',hkd,FullRs,FullML]
   by_cases k2:s.fKind=2
   ·have hst:stRows d.fCat.fTables[k] d.fData[k].fRows s=rowSet d.fCat.fTables[k] d.fData[k].fRows s.fKey s.fRow:=by simp[stRows,k1,k2]
    rw[hst] at hE
    refine .of hat ?_
    simp[k5,hkl,hkd,hk0,k1,k2,md,lf,List.range']
    refine .of (rowSetI_ok d.fCat.fTables[k] d.fData[k].fRows s.fKey s.fRow htab hky hrs (by unfold okM;omega) hso.2.2.2.1) ?_
    simp[mRowS]
    have hbd:=stRows_bd d.fCat.fTables[k] d.fData[k].fRows s
    rw[hst] at hbd
    refine ⟨fun h=>by rw[hE,if_pos h,wrap10 hbd.1 hbd.2];simp[dDb,dCat,FullRs,FullML],fun h=> .of (copyDb_ok d (dbOk_bd hd)) ?_⟩
    rw[hE,if_neg (by simp[h])]
    simp[mDb,md,lf,eRows,List.range',hkd,FullRs,FullML]
   by_cases k3:s.fKind=3
   ·have hst:stRows d.fCat.fTables[k] d.fData[k].fRows s=rowOut d.fCat.fTables[k] d.fData[k].fRows s.fKey:=by simp[stRows,k1,k2,k3]
    rw[hst] at hE
    refine .of hat ?_
    simp[k5,hkl,hkd,hk0,k1,k2,k3,md,lf,List.range']
    refine .of (rowOutI_ok d.fCat.fTables[k] d.fData[k].fRows s.fKey htab hky hrs (by unfold okM;omega)) ?_
    simp[mRowS]
    have hbd:=stRows_bd d.fCat.fTables[k] d.fData[k].fRows s
    rw[hst] at hbd
    refine ⟨fun h=>by rw[hE,if_pos h,wrap10 hbd.1 hbd.2];simp[dDb,dCat,FullRs,FullML],fun h=> .of (copyDb_ok d (dbOk_bd hd)) ?_⟩
    rw[hE,if_neg (by simp[h])]
    simp[mDb,md,lf,eRows,List.range',hkd,FullRs,FullML]
   have hst:stRows d.fCat.fTables[k] d.fData[k].fRows s=([],0):=by simp[stRows,k1,k2,k3]
   rw[hst] at hE
   refine .of hat ?_
   simp[k5,hkl,hkd,hk0,k1,k2,k3,md,lf,List.range']
   refine .of (copyDb_ok d (dbOk_bd hd)) ?_
   rw[hE]
   simp[mDb,md,lf,eRows,List.range',hkd,FullRs,FullML]
theorem exec_ok (d:GDb) (s:GStmt) (hd:dbOk d=true) (hs:stmtOk s=true):VC Tryz.prog 96 [vDb d,vStmt s] [(true,fDb (dbExec d s).1),(false,[(.s,.sc (.int .i64 (dbExec d s).2))])]:=(execO_ok d s hd hs).frz (by simp[FullRs,FullML,mDb])
theorem execL_at (D:GDb) {l:List GStmt} {i:Nat} (h:i<l.length):execL D (l.drop i) i=if stmtOk (l[i]?.getD dStmt)=false then (dDb,1,(i:Int)) else if (dbExec D (l[i]?.getD dStmt)).2≠0 then (dDb,(dbExec D (l[i]?.getD dStmt)).2,(i:Int)) else execL (dbExec D (l[i]?.getD dStmt)).1 (l.drop (i+1)) (i+1):=by
 rw[List.drop_eq_getElem_cons h,execL,List.getElem?_eq_getElem h]
 rfl
theorem execAllI_ok (d:GDb) (l:List GStmt) (hd:okDb d) (hk: ∀t∈d.fCat.fTables,t.fKeys.length≤1048576) (hl: ∀s∈l,okStmt s∧bdStmt s) (hml:okM l.length):VC Tryz.prog 326 [vDb d,vStmtS l] [(true,fDb (execAll d l).1),(false,[(.s,.sc (.int .i64 (execAll d l).2.1))]),(false,[(.s,.sc (.int .i64 (execAll d l).2.2))])]:=by
 unfold okM at hml
 refine vc_of_ewF good hm [0,1,2,4,5,6,14,7,18,19,20,21,9,8,27,10,11,37] Tryz.func326 rfl (by kernel_rfl) (by kernel_rfl) rfl ?_
 simp[Tryz.f326,fDb]
 refine .of (dbOkI_ok d hd hk) ?_
 simp[FullRs,FullML]
 refine ⟨fun h=>by simp[execAll,h,dDb,dCat],fun h=> .of ((copyDb_ok d (dbOk_bd h)).frz (by simp[FullRs,FullML,mDb])) ?_⟩
 simp[mDb]
 have hE:execAll d l=execL d l 0:=by simp[execAll,h]
 rw[hE]
 refine ew_loop (fun E=> ∃ (i:Nat) (D:GDb),i≤l.length∧dbOk D=true∧execL d l 0=execL D (l.drop i) i∧E= {nt:=44,sl:= [(4,.p (.bx 4 0)),(7,.p (.bx 7 0)),(18,vStmtS l),(19,int .i64 l.length),(20,int .i64 i)],bx:= [(4,[.n [Lf.sc (Value.string ⟨#[]⟩),Lf.ls [Lf.sc (Value.string ⟨#[]⟩),Lf.sc (Value.int IntKind.i64 0),Lf.sc (Value.bool false),Lf.sc (Value.bool false),Lf.sc (Value.int IntKind.i64 0),Lf.sc (Value.int IntKind.i64 0),Lf.sc (Value.string ⟨#[]⟩)] [],Lf.ls [Lf.sc (Value.string ⟨#[]⟩)] []],.n [Lf.ls [Lf.ls [Lf.sc (Value.int IntKind.i64 0),Lf.sc (Value.int IntKind.i64 0),Lf.sc (Value.string ⟨#[]⟩)] []] []]]),(7,[.s (.ls [Lf.sc (Value.string ⟨#[]⟩),Lf.ls [Lf.sc (Value.string ⟨#[]⟩),Lf.sc (Value.int IntKind.i64 0),Lf.sc (Value.bool false),Lf.sc (Value.bool false),Lf.sc (Value.int IntKind.i64 0),Lf.sc (Value.int IntKind.i64 0),Lf.sc (Value.string ⟨#[]⟩)] [],Lf.ls [Lf.sc (Value.string ⟨#[]⟩)] []] (D.fCat.fTables.map eTable)),.s (.ls [Lf.ls [Lf.ls [Lf.sc (Value.int IntKind.i64 0),Lf.sc (Value.int IntKind.i64 0),Lf.sc (Value.string ⟨#[]⟩)] []] []] (D.fData.map eRows))])],rt:= []}) (fun E=>l.length- (E.num 20).toNat) _ (Gh.kb _ [4,7,18,19,20] [4,7] []) ⟨0,d,by omega,h,by simp,by simp⟩ ?_
 rintro E1 ⟨i,D,hi,hD,hx,rfl⟩
 simp
 refine ⟨fun hil=> ?_,fun hil=> ?_⟩
 ·have hs:=hl _ (getD_mem dStmt hil)
  rw[execL_at D hil] at hx
  refine ⟨hil,.of (stmtOkI_ok _ hs.1 hs.2.2.2.1 hs.2.2.2.2) ?_⟩
  simp[FullRs,FullML]
  refine ⟨fun h1=>by rw[hx,if_pos h1];simp[dDb,dCat],fun h1=> .of (exec_ok D _ hD h1) ?_⟩
  rw[if_neg (by simp[h1])] at hx
  simp[fDb,FullRs,FullML]
  refine ⟨fun h2=>by rw[hx,if_pos h2];simp[dDb,dCat],fun h2=> ?_⟩
  rw[if_neg (by simp[h2])] at hx
  refine .of _ (Gh.kb _ [4,7,18,19,20] [4,7] []) ⟨i+1,by omega,(dbExec D (l[i]?.getD dStmt)).1,dbExec_ok hD h2,hx, ?_⟩ ?_
  ·simp[wrapS (show i<9223372036854775807 by omega)]
  ·simp[wrapS (show i<9223372036854775807 by omega)];omega
 ·have:i=l.length:=by omega
  subst this
  rw[hx,List.drop_length,execL]
  simp[FullRs,FullML]
end Go.Proofs.YteeolohhmfjafaaGreat
namespace Go.Proofs.YteeolohhmfjafaaGreat
open Go Go.Proofs Go.Sm
attribute [local simp] ti eStr eInt eByte eVal vVal eValS vValS eRow cRow vRow eCol vCol vColS vStrS eDdl cDdl vDdl eStmt cStmt vStmt ePart vPart vPartS eBatch vBatch eTable cTable vTable vTableS cCat vCat vRowS eRows vRows vRowsS cDb vDb eRec vRec vRecS eTail cTail vTail vBatchS vStmtS
set_option linter.unusedVariables false
set_option linter.unusedSimpArgs false
set_option maxRecDepth 8000
theorem l04Rows_ok (t:GTable) (l:List GRow) (s:GStmt) (ht:okTable t) (hk:t.fKeys.length≤1048576) (hl:okRowS l) (hs:okStmt s) (h1:s.fKey.length≤8) (h3:s.fDdl.fCols.length≤8) (h4:s.fDdl.fKeys.length≤8):VC Tryz.prog 186 [vTable t,vRowS l,vStmt s] [(false,fRowS (stAll t l s).1),(false,[(.s,.sc (.int .i64 (stAll t l s).2))])]:=by
 refine vc_of_ewF good hm [0,1,2,3,5,6,7,9,10,19,30,39] Tryz.func186 rfl (by kernel_rfl) (by kernel_rfl) rfl ?_
 simp[Tryz.f186,fRowS]
 refine ⟨fun k1=> ?_,fun k1=>⟨fun k2=> ?_,fun k2=>⟨fun k3=> ?_,fun k3=>⟨fun k5=> ?_,fun k5=> ?_⟩⟩⟩⟩
 ·refine .of (rowPutS_ok t l s.fRow ht hk hl hs.2.2.2.1) ?_
  simp[mRowS,stAll,stRows,k1,FullRs,FullML]
 ·refine .of (rowSetS_ok t l s.fKey s.fRow ht hk hl (by unfold okM;omega) hs.2.2.2.1) ?_
  simp[mRowS,stAll,stRows,k1,k2,FullRs,FullML]
 ·refine .of (rowOutS_ok t l s.fKey ht hk hl (by unfold okM;omega)) ?_
  simp[mRowS,stAll,stRows,k1,k2,k3,FullRs,FullML]
 ·refine .of (rowsDdlS_ok t l s.fDdl ht hk hl hs.2.2.2.2.1 (by omega) (by omega)) ?_
  simp[fRowS,stAll,k5]
 ·simp[stAll,stRows,k1,k2,k3,k5]
theorem full_rowsC (cols:Nat→List Md) (hc: ∀i,cols i= [(Md.o 120 (fun _=> [(Md.o 234 (fun _=> [Md.s,Md.s,Md.s]))]))]∨cols i= [Md.s]) (l:List GRows):Full (Md.o 205 cols) (.ls [Lf.ls [Lf.ls [Lf.sc (Value.int IntKind.i64 0),Lf.sc (Value.int IntKind.i64 0),Lf.sc (Value.string ⟨#[]⟩)] []] []] (l.map eRows)):=by
 refine Full_rowsF (fun i x j hj=> ?_) _
 match j,hj with
 |0,_=>
  rcases hc i with h|h<;>rw[h]
  ·exact of_eq_true (full_RowS x.fRows)
  ·exact .s
 |n+1,hj=>exact absurd hj (by simp)
theorem ddlApply_bd (c:GCat) (x:GDdl):0≤(ddlApply c x).2∧(ddlApply c x).2≤100:=by
 unfold ddlApply
 split
 ·exact ⟨(by decide:(0:Int)≤1),(by decide:(1:Int)≤100)⟩
 split
 ·show 0≤ddlCode _ _∧ddlCode _ _≤100
  unfold ddlCode tabCode
  grind
 ·exact ⟨(by decide:(0:Int)≤0),(by decide:(0:Int)≤100)⟩
def chRow (d:GDb) (s:GStmt) (t:GTable):GRows:=⟨if 0≤tabAt d.fCat.fTables t.fName∧t.fName.toList=s.fTable.toList then (stAll (tabOf d.fCat t.fName) (dataOf d (dbIx d t.fName)) s).1 else if 0≤tabAt d.fCat.fTables t.fName then dataOf d (dbIx d t.fName) else []⟩
theorem l04Change_ok (d:GDb) (s:GStmt) (hd:dbOk d=true) (hs:stmtOk s=true):VC Tryz.prog 185 [vDb d,vStmt s] [(true,fDb (if (ddlApply d.fCat s.fDdl).2≠0 then dDb else ⟨catCh d.fCat s.fDdl,(catCh d.fCat s.fDdl).fTables.map (chRow d s)⟩)),(false,[(.s,.sc (.int .i64 (if (ddlApply d.fCat s.fDdl).2≠0 then 10+(ddlApply d.fCat s.fDdl).2 else 0)))])]:=by
 obtain ⟨hso,_,hs1,hs2,hs3,hs4⟩:=stmtOk_ok hs
 have hco:=catOk_ok (dbOk_cat hd)
 have hl:=dbOk_len hd
 refine vc_of_ewF good hm [0,1,2,3,4,5,6,7,22,8,29,30,31,32,10,11,12,49,69] Tryz.func185 rfl (by kernel_rfl) (by kernel_rfl) rfl ?_
 simp[Tryz.f185,fDb]
 refine .of (ddlApplyS_ok d.fCat s.fDdl hco.1 hso.2.2.2.2.1 (by omega) (by omega)) ?_
 simp[fCat]
 have hbd:=ddlApply_bd d.fCat s.fDdl
 refine ⟨fun h=>by rw[wrap10 hbd.1 hbd.2,if_neg h,if_neg h];simp[dDb,dCat],fun h=> ?_⟩
 rw[if_pos h,if_pos h]
 obtain ⟨q1,q2,q3,q4⟩:=ddlApply_ok h
 rw[q4]
 have hcc:=catCh_ok q1 q2 q3
 have hcl:=(catOk_ok hcc).2.1
 generalize hT:(catCh d.fCat s.fDdl).fTables=T at hcl
 refine ew_loop (fun E=> ∃ (i:Nat) (cols:Nat→List Md),i≤T.length∧(∀k,cols k= [(Md.o 120 (fun _=> [(Md.o 234 (fun _=> [Md.s,Md.s,Md.s]))]))]∨cols k= [Md.s])∧E= {nt:=86,sl:= [(2,.p (.bx 2 0)),(3,.p (.bx 3 0)),(4,.p (.bx 4 0)),(8,.p (.bx 8 0)),(29,vTableS T),(30,int .i64 T.length),(31,int .i64 i)],bx:= [(2,cDb d),(3,cStmt s),(4,[.n [Lf.sc (Value.string ⟨#[]⟩),Lf.ls [Lf.sc (Value.string ⟨#[]⟩),Lf.sc (Value.int IntKind.i64 0),Lf.sc (Value.bool false),Lf.sc (Value.bool false),Lf.sc (Value.int IntKind.i64 0),Lf.sc (Value.int IntKind.i64 0),Lf.sc (Value.string ⟨#[]⟩)] [],Lf.ls [Lf.sc (Value.string ⟨#[]⟩)] []],.n [Lf.ls [Lf.ls [Lf.sc (Value.int IntKind.i64 0),Lf.sc (Value.int IntKind.i64 0),Lf.sc (Value.string ⟨#[]⟩)] []] []]]),(8,[.s (.ls [Lf.sc (Value.string ⟨#[]⟩),Lf.ls [Lf.sc (Value.string ⟨#[]⟩),Lf.sc (Value.int IntKind.i64 0),Lf.sc (Value.bool false),Lf.sc (Value.bool false),Lf.sc (Value.int IntKind.i64 0),Lf.sc (Value.int IntKind.i64 0),Lf.sc (Value.string ⟨#[]⟩)] [],Lf.ls [Lf.sc (Value.string ⟨#[]⟩)] []] (T.map eTable)),.r [990]])],rt:= [(990,.o 205 cols,.ls [Lf.ls [Lf.ls [Lf.sc (Value.int IntKind.i64 0),Lf.sc (Value.int IntKind.i64 0),Lf.sc (Value.string ⟨#[]⟩)] []] []] (((T.take i).map (chRow d s)).map eRows))]}) (fun E=>T.length- (E.num 31).toNat) _ ((Gh.nlB _ 8 1 990 205 (fun _=> [(Md.o 120 (fun _=> [(Md.o 234 (fun _=> [Md.s,Md.s,Md.s]))]))]) [Lf.ls [Lf.ls [Lf.sc (Value.int IntKind.i64 0),Lf.sc (Value.int IntKind.i64 0),Lf.sc (Value.string ⟨#[]⟩)] []] []]).trans (Gh.kb _ [2,3,4,8,29,30,31] [2,3,4,8] [990])) ⟨0,fun _=> [(Md.o 120 (fun _=> [(Md.o 234 (fun _=> [Md.s,Md.s,Md.s]))]))],by omega,fun _=> .inl rfl,by simp[hT]⟩ ?_
 rintro E1 ⟨i,cols,hi,hcols,rfl⟩
 simp
 refine ⟨fun hil=>⟨hil, ?_⟩,fun hil=> ?_⟩
 ·have htr:(T.map (eRows∘chRow d s)).take (i+1)=(T.map (eRows∘chRow d s)).take i++ [(eRows∘chRow d s) (T[i]?.getD dTable)]:=take_rowM dTable hil
  generalize hti:T[i]?.getD dTable=t at htr
  have hat:=l02At_ok d.fCat t.fName hco.1.1.1
  have hb:=tabAt_bd d.fCat.fTables t.fName
  by_cases h0:0≤tabAt d.fCat.fTables t.fName
  ·obtain ⟨k,hk⟩: ∃k:Nat,tabAt d.fCat.fTables t.fName=k:=⟨_,(Int.toNat_of_nonneg h0).symm⟩
   have hkl:k<d.fCat.fTables.length:=by omega
   have hkd:k<d.fData.length:=by omega
   have htk:tabOf d.fCat t.fName=d.fCat.fTables[k]:=by
    unfold tabOf
    rw[hk]
    simp[hkl]
   have hix:dbIx d t.fName=k:=by unfold dbIx;rw[hk];rfl
   have hdk:dataOf d k=d.fData[k].fRows:=by unfold dataOf;simp[hkd]
   have hm:d.fCat.fTables[k]∈d.fCat.fTables:=List.getElem_mem hkl
   have hro:rowsOk d.fCat.fTables[k] d.fData[k].fRows=true:=by
    have:=((dbOk_iff d).1 hd).2.2 k hkl
    simpa [hkl,hkd] using this
   have hrb:=rowsOk_ok hro
   have hch:chRow d s t=⟨if t.fName.toList=s.fTable.toList then (stAll d.fCat.fTables[k] d.fData[k].fRows s).1 else d.fData[k].fRows⟩:=by
    unfold chRow
    rw[htk,hix,hdk,if_pos h0]
    simp only[h0,true_and]
   rw[hk] at hat
   refine .of hat ?_
   simp[hkl,hkd,eTable,eRows]
   refine ⟨fun hn=> .of (l04Rows_ok d.fCat.fTables[k] d.fData[k].fRows s (hco.1.1.2 _ hm) (by have:=(hco.2.2 _ hm).2.2;omega) hrb.1 hso hs1 hs3 hs4) ?_,fun hn=> .of ((l03Copy_ok d.fData[k].fRows (by omega) (fun x hx=>by have:=hrb.2.2 x hx;omega)).frz (by simp[FullRs,FullML,mRowS])) ?_⟩
   ·simp[fRowS]
    refine ⟨by omega,.of _ ((Gh.kb _ [2,3,4,8,29,30,31] [2,3,4,8] [82]).trans (Gh.rn _ 82 990)) ⟨i+1,by omega,(fun k=>if k<min i T.length then cols k else [Md.s]),fun k=> ?_, ?_⟩ ?_⟩
    ·by_cases hk2:k<min i T.length
     all_goals simp[hk2,hcols k]
    ·rw[htr,Function.comp,hch]
     simp[wrapS (show i<9223372036854775807 by omega),hn,eRows]
    ·simp[wrapS (show i<9223372036854775807 by omega)];omega
   ·simp[mRowS]
    refine ⟨by omega,.of _ ((Gh.kb _ [2,3,4,8,29,30,31] [2,3,4,8] [82]).trans (Gh.rn _ 82 990)) ⟨i+1,by omega,(fun k=>if k<min i T.length then cols k else [Md.s]),fun k=> ?_, ?_⟩ ?_⟩
    ·by_cases hk2:k<min i T.length
     all_goals simp[hk2,hcols k]
    ·rw[htr,Function.comp,hch]
     simp[wrapS (show i<9223372036854775807 by omega),hn,eRows]
    ·simp[wrapS (show i<9223372036854775807 by omega)];omega
  ·have hch:chRow d s t=⟨[]⟩:=by
    unfold chRow
    rw[if_neg (fun g=>h0 g.1),if_neg h0]
   have h0':tabAt d.fCat.fTables t.fName<0:=by omega
   refine .of hat ?_
   simp[h0,h0',eTable,eRows]
   refine ⟨by omega,.of _ ((Gh.kb _ [2,3,4,8,29,30,31] [2,3,4,8] [82]).trans (Gh.rn _ 82 990)) ⟨i+1,by omega,(fun k=>if k<min i T.length then cols k else [(Md.o 120 (fun _=> [(Md.o 234 (fun _=> [Md.s,Md.s,Md.s]))]))]),fun k=> ?_, ?_⟩ ?_⟩
   ·by_cases hk2:k<min i T.length
    all_goals simp[hk2,hcols k]
   ·rw[htr,Function.comp,hch]
    simp[wrapS (show i<9223372036854775807 by omega),hti,eRows]
   ·simp[wrapS (show i<9223372036854775807 by omega)];omega
 ·have:i=T.length:=by omega
  subst this
  rw[List.take_of_length_le (by simp)]
  have hfu:=full_rowsC cols hcols (T.map (chRow d s))
  rw[List.map_map] at hfu
  exact ⟨hfu,rfl⟩
end Go.Proofs.YteeolohhmfjafaaGreat
namespace Go.Proofs.YteeolohhmfjafaaGreat
open Go Go.Proofs Go.Sm
attribute [local simp] ti eStr eInt eByte eVal vVal eValS vValS eRow cRow vRow eCol vCol vColS vStrS eDdl cDdl vDdl eStmt cStmt vStmt ePart vPart vPartS eBatch vBatch eTable cTable vTable vTableS cCat vCat vRowS eRows vRows vRowsS cDb vDb eRec vRec vRecS eTail cTail vTail vBatchS vStmtS
set_option linter.unusedVariables false
set_option linter.unusedSimpArgs false
set_option maxRecDepth 8000
theorem chRow_at {d:GDb} (hd:dbOk d=true) (s:GStmt) {t:GTable} {k:Nat} (hk:k<d.fCat.fTables.length) (hn:t.fName=(d.fCat.fTables[k]?.getD dTable).fName):chRow d s t=⟨if t.fName=s.fTable then (stAll (d.fCat.fTables[k]?.getD dTable) (dataOf d k) s).1 else dataOf d k⟩:=by
 have hpw:=((catOk_iff _).1 (dbOk_cat hd)).2.2
 have h1:tabAt d.fCat.fTables t.fName=k:=by rw[hn];exact tabAt_at hpw hk
 have h2:dbIx d t.fName=k:=by unfold dbIx;rw[h1];rfl
 have h3:tabOf d.fCat t.fName=d.fCat.fTables[k]?.getD dTable:=by unfold tabOf;rw[h1];rfl
 unfold chRow
 rw[h2,h3,h1]
 have:(t.fName.toList=s.fTable.toList)↔t.fName=s.fTable:=⟨tl_inj,fun h=>by rw[h]⟩
 simp[this]
theorem data_at {d:GDb} {k:Nat} (h:k<d.fData.length):(⟨dataOf d k⟩:GRows)=d.fData[k]:=by
 unfold dataOf
 rw[List.getElem?_eq_getElem h]
 rfl
theorem chData {d:GDb} {s:GStmt} (hd:dbOk d=true) (hx:ddlOk s.fDdl=true) (k5:s.fKind=5) (hn:s.fDdl.fTable=s.fTable) (h0:ddlCode d.fCat s.fDdl=0):(catCh d.fCat s.fDdl).fTables.map (chRow d s)=dataCh d s.fDdl:=by
 have hl:=dbOk_len hd
 have hpw:=((catOk_iff _).1 (dbOk_cat hd)).2.2
 obtain ⟨z1,z2⟩:=ddlCode_0 h0
 have hin: ∀k (h:k<d.fCat.fTables.length),d.fCat.fTables[k].fName≠s.fTable→chRow d s d.fCat.fTables[k]=d.fData[k]'(by omega):=fun k h hne=>by
  rw[chRow_at hd s h (by rw[List.getElem?_eq_getElem h];rfl),if_neg hne,data_at (by omega)]
 have e: ∀c:GCat,c.fTables=(catCh d.fCat s.fDdl).fTables→c=catCh d.fCat s.fDdl:=fun c h=>by cases c;cases hq:catCh d.fCat s.fDdl;rw[hq] at h;exact congrArg _ h
 unfold dataCh
 by_cases k1:s.fDdl.fKind=1
 ·rw[if_pos k1,insW_tab (dbOk_cat hd) hx k1 h0]
  have e:(catCh d.fCat s.fDdl).fTables=insAt d.fCat.fTables (d.fCat.fTables.takeWhile (fun y=>tabLt y (madeT s.fDdl))).length (madeT s.fDdl):=by unfold catCh;rw[if_pos k1];exact insW_at _ _ _
  rw[e]
  have hw:=takeW_len (fun y=>tabLt y (madeT s.fDdl)) d.fCat.fTables
  generalize (d.fCat.fTables.takeWhile (fun y=>tabLt y (madeT s.fDdl))).length=n at hw⊢
  have hne: ∀k (h:k<d.fCat.fTables.length),d.fCat.fTables[k].fName≠s.fTable:=fun k h=>by
   rw[←hn]
   exact (z1 k1).1 _ (List.getElem_mem h)
  have hall:d.fCat.fTables.map (chRow d s)=d.fData:=by
   apply List.ext_getElem
   ·simp[hl]
   ·intro k h1 h2
    simp only[List.getElem_map]
    exact hin k (by simpa using h1) (hne k (by simpa using h1))
  have hnew:chRow d s (madeT s.fDdl)=⟨[]⟩:=by
   have: ¬0≤tabAt d.fCat.fTables (madeT s.fDdl).fName:=fun h=>by
    obtain ⟨t,ht,hq⟩:=(tabAt_nn _ _).1 h
    exact (z1 k1).1 t ht hq
   unfold chRow
   rw[if_neg (fun g=>this g.1),if_neg this]
  unfold insAt
  rw[List.map_append,List.map_cons,hnew,←hall,List.map_take,List.map_drop]
 rw[if_neg k1]
 obtain ⟨z3,z4⟩:=z2 k1
 have hb:=tabAt_bd d.fCat.fTables s.fDdl.fTable
 obtain ⟨k,hk⟩: ∃k:Nat,tabAt d.fCat.fTables s.fDdl.fTable=k:=⟨_,(Int.toNat_of_nonneg z3).symm⟩
 have hkl:k<d.fCat.fTables.length:=by omega
 have hix:dbIx d s.fDdl.fTable=k:=by unfold dbIx;rw[hk];rfl
 have hnk:d.fCat.fTables[k].fName=s.fTable:=by
  have:=tabAt_get z3
  rw[hk,Int.toNat_natCast,List.getElem?_eq_getElem hkl] at this
  rw[←hn]
  exact this
 have hne: ∀j (h:j<d.fCat.fTables.length),j≠k→d.fCat.fTables[j].fName≠s.fTable:=fun j h hj e=>hj (tab_once hpw h hkl (by
  rw[List.getElem?_eq_getElem h,List.getElem?_eq_getElem hkl]
  simp only[Option.getD_some]
  rw[e,hnk]))
 by_cases k2:s.fDdl.fKind=2
 ·rw[if_pos k2,hix]
  have e:(catCh d.fCat s.fDdl).fTables=d.fCat.fTables.eraseIdx k:=by unfold catCh;rw[if_neg k1,if_pos k2,hk];rfl
  rw[e]
  apply List.ext_getElem
  ·rw[List.length_map,List.length_eraseIdx_of_lt hkl,List.length_eraseIdx_of_lt (by omega),hl]
  ·intro j h1 h2
   rw[List.length_map,List.length_eraseIdx_of_lt hkl] at h1
   simp only[List.getElem_map,List.getElem_eraseIdx]
   split
   ·exact hin j (by omega) (hne j (by omega) (by omega))
   ·exact hin (j+1) (by omega) (hne (j+1) (by omega) (by omega))
 ·rw[if_neg k2,hix]
  have e:(catCh d.fCat s.fDdl).fTables=d.fCat.fTables.set k (tabCh (tabOf d.fCat s.fDdl.fTable) s.fDdl):=by unfold catCh;rw[if_neg k1,if_neg k2,hk];rfl
  have hto:tabOf d.fCat s.fDdl.fTable=d.fCat.fTables[k]:=by
   unfold tabOf
   rw[hk,Int.toNat_natCast,List.getElem?_eq_getElem hkl]
   rfl
  rw[e,hto]
  apply List.ext_getElem
  ·simp[hl]
  ·intro j h1 h2
   simp only[List.length_map,List.length_set] at h1
   simp only[List.getElem_map,List.getElem_set]
   split
   ·rename_i hjk
    subst hjk
    rw[chRow_at hd s hkl (by rw[List.getElem?_eq_getElem hkl,tabCh_name];rfl),tabCh_name,if_pos hnk,List.getElem?_eq_getElem hkl]
    simp[stAll,k5]
   ·rename_i hjk
    exact hin j h1 (hne j h1 (fun e=>hjk e.symm))
theorem stmtOk_5 {s:GStmt} (h:stmtOk s=true) (k:s.fKind=5):ddlOk s.fDdl=true∧s.fDdl.fTable=s.fTable:=by
 simp only[stmtOk,Bool.and_eq_true,Bool.or_eq_true,decide_eq_true_eq,beq_iff_eq] at h
 rcases h.2 with (((h|h)|h)|h)|h
 ·omega
 ·omega
 ·omega
 ·omega
 ·exact ⟨h.2.1.2,tl_inj h.2.2⟩
def specExec (d:GDb) (s:GStmt):GDb×Int:=if dbOk d=false∨stmtOk s=false then (dDb,1) else dbExec d s
theorem execS_ok (d:GDb) (s:GStmt) (hd:okDb d) (hky: ∀t∈d.fCat.fTables,t.fKeys.length≤1048576) (hso:okStmt s):VC Tryz.prog 88 [vDb d,vStmt s] [(true,fDb (specExec d s).1),(false,[(.s,.sc (.int .i64 (specExec d s).2))])]:=by
 refine vc_of_ewF good hm [0,1,2,3,4,5,17,6,36,40,7,8,64,9] Tryz.func88 rfl (by kernel_rfl) (by kernel_rfl) rfl ?_
 simp[Tryz.f88,fDb]
 refine .of (dbOkS_ok d hd hky) ?_
 simp
 refine .of (fun g=>⟨g,stmtOkS_ok s hso⟩) ?_
 simp
 refine ⟨fun h=>by simp[specExec,h,dDb,dCat],fun h1 h2=> ?_⟩
 have hE0:specExec d s=dbExec d s:=by simp[specExec,h1,h2]
 rw[hE0]
 obtain ⟨_,_,hs1,hs2,hs3,hs4⟩:=stmtOk_ok h2
 have hco:=catOk_ok (dbOk_cat h1)
 have hl:=dbOk_len h1
 have hb:=tabAt_bd d.fCat.fTables s.fTable
 have hat:=l02At_ok d.fCat s.fTable hco.1.1.1
 have hE:dbExec d s=if tabAt d.fCat.fTables s.fTable<0∧ ¬(s.fKind=5∧s.fDdl.fKind=1) then (dDb,4) else
  if s.fKind=5 then (if (dbCh d s.fDdl).2≠0 then (dDb,10+(dbCh d s.fDdl).2) else dbCh d s.fDdl) else
  if (stRows (tabOf d.fCat s.fTable) (dataOf d (dbIx d s.fTable)) s).2≠0 then (dDb,10+(stRows (tabOf d.fCat s.fTable) (dataOf d (dbIx d s.fTable)) s).2) else
  (⟨d.fCat,d.fData.set (dbIx d s.fTable) ⟨(stRows (tabOf d.fCat s.fTable) (dataOf d (dbIx d s.fTable)) s).1⟩⟩,0):=rfl
 by_cases k5:s.fKind=5
 ·refine .of hat ?_
  simp[k5]
  refine ⟨fun h1 h2=>by rw[hE,if_pos ⟨h1,fun h=>h2 h.2⟩];simp[dDb,dCat],fun h3=> ?_⟩
  rw[if_neg (fun h=>h.2 ⟨k5,h3 h.1⟩),if_pos k5] at hE
  obtain ⟨hx,hn⟩:=stmtOk_5 h2 k5
  have hlc:=l04Change_ok d s h1 h2
  unfold vStmt at hlc
  rw[k5] at hlc
  refine .of hlc ?_
  simp[fDb]
  have hch:dbCh d s.fDdl=if (ddlApply d.fCat s.fDdl).2≠0 then (dDb,(ddlApply d.fCat s.fDdl).2) else (⟨catCh d.fCat s.fDdl,dataCh d s.fDdl⟩,0):=rfl
  by_cases h0:(ddlApply d.fCat s.fDdl).2=0
  ·rw[if_neg (by simp[h0])] at hch
   rw[hch,if_neg (by simp)] at hE
   obtain ⟨q1,q2,q3,q4⟩:=ddlApply_ok h0
   rw[hE]
   simp only[h0,if_true]
   rw[←chData h1 hx k5 hn q3]
   simp
  ·rw[if_pos h0] at hch
   rw[hch,if_pos h0] at hE
   rw[hE]
   simp[h0]
 ·by_cases ht:tabAt d.fCat.fTables s.fTable<0
  ·refine .of hat ?_
   simp[k5,ht]
   rw[hE,if_pos ⟨ht,fun h=>k5 h.1⟩]
   simp[dDb,dCat]
  ·rw[if_neg (fun h=>ht h.1),if_neg k5] at hE
   obtain ⟨k,hk⟩: ∃k:Nat,tabAt d.fCat.fTables s.fTable=k:=⟨_,(Int.toNat_of_nonneg (by omega)).symm⟩
   have hkl:k<d.fCat.fTables.length:=by omega
   have hkd:k<d.fData.length:=by omega
   rw[hk] at hat
   have htk:tabOf d.fCat s.fTable=d.fCat.fTables[k]:=by
    unfold tabOf
    rw[hk]
    simp[hkl]
   have hix:dbIx d s.fTable=k:=by unfold dbIx;rw[hk];rfl
   have hdk:dataOf d k=d.fData[k].fRows:=by unfold dataOf;simp[hkd]
   have hm:d.fCat.fTables[k]∈d.fCat.fTables:=List.getElem_mem hkl
   have hro:rowsOk d.fCat.fTables[k] d.fData[k].fRows=true:=by
    have:=((dbOk_iff d).1 h1).2.2 k hkl
    simpa [hkl,hkd] using this
   have hrs:=(rowsOk_ok hro).1
   rw[htk,hix,hdk] at hE
   have hk0: ¬((k:Int)<0):=by omega
   have hsa:stAll d.fCat.fTables[k] d.fData[k].fRows s=stRows d.fCat.fTables[k] d.fData[k].fRows s:=by simp[stAll,k5]
   have hlr:=l04Rows_ok d.fCat.fTables[k] d.fData[k].fRows s (hco.1.1.2 _ hm) (by have:=(hco.2.2 _ hm).2.2;omega) hrs hso hs1 hs3 hs4
   rw[hsa] at hlr
   have hbd:=stRows_bd d.fCat.fTables[k] d.fData[k].fRows s
   refine .of hat ?_
   simp[k5,hk0,hkl,hkd,eTable,eRows]
   refine .of hlr ?_
   simp[fRowS]
   refine ⟨fun h=>by rw[hE,if_pos h,wrap10 hbd.1 hbd.2];simp[dDb,dCat],fun h=> .of (l04Copy_ok d (dbOk_bd h1)) ?_⟩
   rw[hE,if_neg (by simp[h])]
   simp[mDb,md,lf,eRows,List.range',hkd]
   exact full_set (fun j=>if j=k then [Md.s] else [(Md.o 120 (fun _=> [(Md.o 234 (fun _=> [Md.s,Md.s,Md.s]))]))]) (fun i=>by by_cases h:i=k<;>simp[h]) d.fData k (stRows d.fCat.fTables[k] d.fData[k].fRows s).1
theorem execS_at (D:GDb) {l:List GStmt} {i:Nat} (hD:dbOk D=true) (h:i<l.length):execL D (l.drop i) i=if (specExec D (l[i]?.getD dStmt)).2≠0 then (dDb,(specExec D (l[i]?.getD dStmt)).2,(i:Int)) else execL (specExec D (l[i]?.getD dStmt)).1 (l.drop (i+1)) (i+1):=by
 rw[execL_at D h]
 unfold specExec
 by_cases hs:stmtOk (l[i]?.getD dStmt)=false
 ·simp[hs]
 ·simp[hs,hD]
theorem execAllS_ok (d:GDb) (l:List GStmt) (hd:okDb d) (hk: ∀t∈d.fCat.fTables,t.fKeys.length≤1048576) (hl: ∀s∈l,okStmt s) (hml:okM l.length):VC Tryz.prog 332 [vDb d,vStmtS l] [(true,fDb (execAll d l).1),(false,[(.s,.sc (.int .i64 (execAll d l).2.1))]),(false,[(.s,.sc (.int .i64 (execAll d l).2.2))])]:=by
 unfold okM at hml
 refine vc_of_ewF good hm [0,1,2,4,5,6,14,7,18,19,20,21,9,8,10,11,32] Tryz.func332 rfl (by kernel_rfl) (by kernel_rfl) rfl ?_
 simp[Tryz.f332,fDb]
 refine .of (dbOkS_ok d hd hk) ?_
 simp
 refine ⟨fun h=>by simp[execAll,h,dDb,dCat],fun h=> .of ((l04Copy_ok d (dbOk_bd h)).frz (by simp[FullRs,FullML,mDb])) ?_⟩
 simp[mDb]
 have hE:execAll d l=execL d l 0:=by simp[execAll,h]
 rw[hE]
 refine ew_loop (fun E=> ∃ (i:Nat) (D:GDb),i≤l.length∧dbOk D=true∧execL d l 0=execL D (l.drop i) i∧E= {nt:=39,sl:= [(4,.p (.bx 4 0)),(7,.p (.bx 7 0)),(18,vStmtS l),(19,int .i64 l.length),(20,int .i64 i)],bx:= [(4,[.n [Lf.sc (Value.string ⟨#[]⟩),Lf.ls [Lf.sc (Value.string ⟨#[]⟩),Lf.sc (Value.int IntKind.i64 0),Lf.sc (Value.bool false),Lf.sc (Value.bool false),Lf.sc (Value.int IntKind.i64 0),Lf.sc (Value.int IntKind.i64 0),Lf.sc (Value.string ⟨#[]⟩)] [],Lf.ls [Lf.sc (Value.string ⟨#[]⟩)] []],.n [Lf.ls [Lf.ls [Lf.sc (Value.int IntKind.i64 0),Lf.sc (Value.int IntKind.i64 0),Lf.sc (Value.string ⟨#[]⟩)] []] []]]),(7,[.s (.ls [Lf.sc (Value.string ⟨#[]⟩),Lf.ls [Lf.sc (Value.string ⟨#[]⟩),Lf.sc (Value.int IntKind.i64 0),Lf.sc (Value.bool false),Lf.sc (Value.bool false),Lf.sc (Value.int IntKind.i64 0),Lf.sc (Value.int IntKind.i64 0),Lf.sc (Value.string ⟨#[]⟩)] [],Lf.ls [Lf.sc (Value.string ⟨#[]⟩)] []] (D.fCat.fTables.map eTable)),.s (.ls [Lf.ls [Lf.ls [Lf.sc (Value.int IntKind.i64 0),Lf.sc (Value.int IntKind.i64 0),Lf.sc (Value.string ⟨#[]⟩)] []] []] (D.fData.map eRows))])],rt:= []}) (fun E=>l.length- (E.num 20).toNat) _ (Gh.kb _ [4,7,18,19,20] [4,7] []) ⟨0,d,by omega,h,by simp,by simp⟩ ?_
 rintro E1 ⟨i,D,hi,hD,hx,rfl⟩
 simp
 refine ⟨fun hil=> ?_,fun hil=> ?_⟩
 ·have hs:=hl _ (getD_mem dStmt hil)
  rw[execS_at D hD hil] at hx
  refine ⟨hil,.of (execS_ok D _ (dbOk_ok hD) (dbOk_key hD) hs) ?_⟩
  simp[fDb]
  refine ⟨fun h2=>by rw[hx,if_pos h2];simp[dDb,dCat],fun h2=> ?_⟩
  rw[if_neg (by simp[h2])] at hx
  have hso:stmtOk (l[i]?.getD dStmt)=true:=by
   cases hq:stmtOk (l[i]?.getD dStmt) with
   |true=>rfl
   |false=>
    unfold specExec at h2
    rw[if_pos (.inr hq)] at h2
    cases h2
  have hse:specExec D (l[i]?.getD dStmt)=dbExec D (l[i]?.getD dStmt):=by simp[specExec,hD,hso]
  refine .of _ (Gh.kb _ [4,7,18,19,20] [4,7] []) ⟨i+1,by omega,(specExec D (l[i]?.getD dStmt)).1,by rw[hse] at h2⊢;exact dbExec_ok hD h2,hx, ?_⟩ ?_
  ·simp[wrapS (show i<9223372036854775807 by omega)]
  ·simp[wrapS (show i<9223372036854775807 by omega)];omega
 ·have:i=l.length:=by omega
  subst this
  rw[hx,List.drop_length,execL]
  simp
end Go.Proofs.YteeolohhmfjafaaGreat
namespace Go.Proofs.YteeolohhmfjafaaGreat
open Go Go.Proofs Go.Sm
attribute [local simp] ti eStr eInt eByte eVal vVal eValS vValS eRow cRow vRow eCol vCol vColS vStrS eDdl cDdl vDdl eStmt cStmt vStmt ePart vPart vPartS eBatch vBatch eTable cTable vTable vTableS cCat vCat vRowS eRows vRows vRowsS cDb vDb eRec vRec vRecS eTail cTail vTail vBatchS vStmtS
set_option linter.unusedVariables false
set_option linter.unusedSimpArgs false
set_option maxRecDepth 8000
def vInts (l:List Int):SV:=list [.sc (.int .i64 0)] (l.map eInt)
def mInts (l:List Int):ML:= [(.o 3 (fun _=> [.s]),.ls [.sc (.int .i64 0)] (l.map eInt))]
@[simp] theorem row_Ints (l:List Int) (i:Nat):(Option.map eInt l[i]?).getD [.sc (.int .i64 0)]=eInt (l[i]?.getD 0):=by cases l[i]? <;>rfl
attribute [local simp] vInts
theorem idxInt1_ok (l:List Int) (k:Nat) (ds:List Lf) (p:Int→Bool) (hl:okM l.length) (hk: ∀x∈l,VC Tryz.prog k [int .i64 x,.p (.ps ds)] [(false,[(.s,.sc (.bool (p x)))])]):
  VC Tryz.prog 401 [vInts l,.fn k [.ps ds]] [(false,[(.s,.sc (.int .i64 (idxF p l)))])]:=by
 unfold okM at hl
 refine vc_of_ew good hm [0,1,4,7,8,9,5,16] Tryz.func401 rfl (by kernel_rfl) (by kernel_rfl) rfl ?_
 simp[Tryz.f401]
 refine ew_loop (fun E=> ∃i:Nat,i≤l.length∧anyT p l i=false∧E= {nt:=19,sl:= [(0,vInts l),(1,.fn k [.ps ds]),(7,int .i64 l.length),(8,int .i64 i)],bx:= [],rt:= []}) (fun E=>l.length- (E.num 8).toNat) _ (Gh.kb _ [0,1,7,8] [] []) ⟨0,by omega,anyT_zero _ _,by simp⟩ ?_
 rintro E1 ⟨i,hi,hall,rfl⟩
 simp
 refine ⟨fun h=>⟨h,.of (hk _ (getD_mem 0 h)) ?_⟩,fun h=> ?_⟩
 ·simp
  refine ⟨fun hp=>(idxF_at p 0 h hall hp).symm,fun hp=> .of _ (Gh.kb _ [0,1,7,8] [] []) ⟨i+1,by omega,by rw[anyT_succ p 0 h,hall,hp];rfl, ?_⟩ ?_⟩
  ·simp[wrapS (show i<9223372036854775807 by omega)]
  ·simp[wrapS (show i<9223372036854775807 by omega)];omega
 ·have:i=l.length:=by omega
  subst this
  rw[anyT_all] at hall
  exact (idxF_no p hall).symm
theorem indexInt_ok (l:List Int) (s:Int) (hl:okM l.length):
  VC Tryz.prog 400 [vInts l,int .i64 s] [(false,[(.s,.sc (.int .i64 (idxF (fun x=>s==x) l)))])]:=by
 unfold okM at hl
 refine vc_of_ew good hm [0,1,4,7,8,9,5,16] Tryz.func400 rfl (by kernel_rfl) (by kernel_rfl) rfl ?_
 simp[Tryz.f400]
 refine ew_loop (fun E=> ∃i:Nat,i≤l.length∧anyT (fun x=>s==x) l i=false∧E= {nt:=19,sl:= [(0,vInts l),(1,int .i64 s),(7,int .i64 l.length),(8,int .i64 i)],bx:= [],rt:= []}) (fun E=>l.length- (E.num 8).toNat) _ (Gh.kb _ [0,1,7,8] [] []) ⟨0,by omega,anyT_zero _ _,by simp⟩ ?_
 rintro E1 ⟨i,hi,hall,rfl⟩
 simp
 refine ⟨fun h=>⟨h,fun hp=>(idxF_at _ 0 h hall (by simpa using hp)).symm,fun hp=> .of _ (Gh.kb _ [0,1,7,8] [] []) ⟨i+1,by omega,by rw[anyT_succ _ 0 h,hall];simpa using hp, ?_⟩ ?_⟩,fun h=> ?_⟩
 ·simp[wrapS (show i<9223372036854775807 by omega)]
 ·simp[wrapS (show i<9223372036854775807 by omega)];omega
 ·have:i=l.length:=by omega
  subst this
  rw[anyT_all] at hall
  exact (idxF_no _ hall).symm
theorem containsInt_ok (l:List Int) (s:Int) (hl:okM l.length):VC Tryz.prog 325 [vInts l,int .i64 s] [(false,[(.s,.sc (.bool (l.any (fun x=>s==x))))])]:=by
 refine vc_of_ew good hm [0,1,4] Tryz.func325 rfl (by kernel_rfl) (by kernel_rfl) rfl ?_
 simp[Tryz.f325]
 refine .of (indexInt_ok l s hl) ?_
 simp
 rw[idxF_ge]
theorem idxF_spec {α:Type} (p:α→Bool) (d:α) (l:List α) (h:l.any p=true): ∃i:Nat,idxF p l=i∧i<l.length∧p (l[i]?.getD d)=true∧(l.take i).filter (fun x=> !p x)=l.take i:=by
 have hi:l.findIdx p<l.length:=List.findIdx_lt_length.2 (List.any_eq_true.1 h)
 refine ⟨l.findIdx p,by simp[idxF,h],hi, ?_, ?_⟩
 ·rw[List.getElem?_eq_getElem hi,Option.getD_some]
  exact List.findIdx_getElem
 ·rw[List.filter_eq_self]
  intro x hx
  obtain ⟨j,hj,rfl⟩:=List.getElem_of_mem hx
  rw[List.length_take] at hj
  rw[List.getElem_take]
  have:=List.not_of_lt_findIdx (p:=p) (xs:=l) (i:=j) (by omega)
  simpa using this
theorem delFuncInt_ok (l:List Int) (k:Nat) (ds:List Lf) (p:Int→Bool) (hl:l.length≤1048576) (hk: ∀x∈l,VC Tryz.prog k [int .i64 x,.p (.ps ds)] [(false,[(.s,.sc (.bool (p x)))])]):
  VX Tryz.prog 327 [.v false [.r [900]],.fn k [.ps ds]] (mInts l) [(false,mInts (l.filter fun x=> !p x))]:=by
 refine vx_of_ew good hm [0,1,4,5,12,6,19,7,29] Tryz.func327 rfl (by kernel_rfl) (by kernel_rfl) rfl ?_
 simp[Tryz.f327,mInts]
 refine .of (idxInt1_ok l k ds p (by unfold okM;omega) hk) ?_
 simp
 refine ⟨fun h=> ?_,fun h=> ?_⟩
 ·have ha:l.any p=false:=by
   have:=idxF_ge p l
   rw[h] at this
   exact this.symm
  have hf:l.filter (fun x=> !p x)=l:=by
   rw[List.filter_eq_self]
   intro x hx
   have:=List.any_eq_false.1 ha x hx
   simpa using this
  refine .of _ (Gh.refl _) ?_
  simp[hf]
 ·have ha:l.any p=true:=by
   cases hx:l.any p with
   |true=>rfl
   |false=>exact absurd (idxF_no p hx) h
  obtain ⟨i0,e0,hi0,hp0,hf0⟩:=idxF_spec p 0 l ha
  rw[e0]
  refine ew_loop (fun E=> ∃ (a j:Nat) (M:List Int),a<j∧j≤l.length∧M.length=l.length∧M.take a=(l.take j).filter (fun x=> !p x)∧(∀x,j≤x→M[x]? =l[x]?)∧E= {nt:=42,sl:= [(0,.v false [.r [900]]),(1,.fn k [.ps ds]),(5,int .i64 a),(6,int .i64 j)],bx:= [],rt:=(mInts M).map fun y=>(900,y)}) (fun E=>l.length- (E.num 6).toNat) _ (Gh.kb _ [0,1,5,6] [] [900]) ⟨i0,i0+1,l,by omega,by omega,rfl, ?_,fun _ _=>rfl, ?_⟩ ?_
  ·rw[List.take_succ_eq_append_getElem hi0,List.filter_append,hf0]
   rw[List.getElem?_eq_getElem hi0,Option.getD_some] at hp0
   simp[hp0]
  ·simp[wrapS (show i0<9223372036854775807 by omega),mInts]
  rintro E1 ⟨a,j,M,haj,hj,hM,hta,htl,rfl⟩
  simp[mInts,hM]
  refine ⟨fun h1=> ?_,fun h1=> ?_⟩
  ·have hmj:M[j]? =l[j]? :=htl j (Nat.le_refl _)
   have hg: ∀h',M[j]'h'=l[j]?.getD 0:=fun h'=>by
    rw[←hmj,List.getElem?_eq_getElem h'];rfl
   simp[md,lf,hM,h1,hg,List.range']
   refine .of (hk l[j] (List.getElem_mem h1)) ?_
   simp[md,lf,hM,h1]
   have hft: ∀b,p l[j]=b→(l.take (j+1)).filter (fun x=> !p x)=(l.take j).filter (fun x=> !p x)++(if b=true then [] else [l[j]]):=fun b hb=>by
    rw[List.take_succ_eq_append_getElem h1,List.filter_append]
    congr 1
    cases b<;>simp[hb]
   refine ⟨fun hp=>⟨by omega,.of _ (Gh.kb _ [0,1,5,6] [] [900]) ⟨a+1,j+1,by omega,by omega,M.set a l[j],by simp[hM], ?_,fun x hx=> ?_, ?_⟩ ?_⟩,fun hp=> .of _ (Gh.kb _ [0,1,5,6] [] [900]) ⟨a,j+1,by omega,by omega,M,hM, ?_,fun x hx=>htl x (by omega), ?_⟩ ?_⟩
   ·rw[hft _ hp,←hta,List.take_succ_eq_append_getElem (by simp[hM];omega),List.take_set_of_le (Nat.le_refl _)]
    simp
   ·rw[List.getElem?_set_ne (by omega)]
    exact htl x (by omega)
   ·simp[wrapS (show j<9223372036854775807 by omega),wrapS (show a<9223372036854775807 by omega),mInts]
   ·simp[wrapS (show j<9223372036854775807 by omega)];omega
   ·rw[hft _ hp,←hta]
    simp
   ·simp[wrapS (show j<9223372036854775807 by omega),mInts]
   ·simp[wrapS (show j<9223372036854775807 by omega)];omega
  ·have:j=l.length:=by omega
   subst this
   refine ⟨by omega,by omega,by omega,.of _ (Gh.trunc (t:=4) (r:=900) (n:=a) (sz:=1) rfl rfl (by simp;omega)) ?_⟩
   rw[List.take_length] at hta
   simp[←hta]
   rw[List.take_append_of_le_length (by simp[hM];omega),List.take_take,Nat.min_self]
end Go.Proofs.YteeolohhmfjafaaGreat
namespace Go.Proofs.YteeolohhmfjafaaGreat
open Go Go.Proofs Go.Sm
attribute [local simp] ti eStr eInt eByte eVal vVal eValS vValS eRow cRow vRow eCol vCol vColS vStrS eDdl cDdl vDdl eStmt cStmt vStmt ePart vPart vPartS eBatch vBatch eTable cTable vTable vTableS cCat vCat vRowS eRows vRows vRowsS cDb vDb eRec vRec vRecS eTail cTail vTail vBatchS vStmtS
set_option linter.unusedVariables false
set_option linter.unusedSimpArgs false
set_option maxRecDepth 8000
@[simp] theorem ow_Ints (l:List Int):Ow (Md.o 3 (fun _=> [Md.s])) (.ls [Lf.sc (Value.int IntKind.i64 0)] (l.map eInt))=True:=eq_true (Ow_rows (fun x j hj=>match j,hj with|0,_=> .sc|n+1,hj=>absurd hj (by simp)) l)
@[simp] theorem full_Ints (l:List Int):Full (Md.o 3 (fun _=> [Md.s])) (.ls [Lf.sc (Value.int IntKind.i64 0)] (l.map eInt))=True:=eq_true (Full_rows (fun x j hj=>match j,hj with|0,_=> .s|n+1,hj=>absurd hj (by simp)) l)
def hasI (l:List Int) (x:Int):Bool:=l.any (fun y=>x==y)
def usedR (x:Int) (r:GRec):Bool:=decide (r.fKind=1)&&decide (r.fXid=x)
def usedX (l:List GRec) (x:Int):Bool:=l.any (usedR x)
def openStep (o:List Int) (r:GRec):List Int:=
 if r.fKind=1 then (if hasI o r.fXid=true then o else o++ [r.fXid]) else if r.fKind=3∨r.fKind=4 then o.filter (fun y=> !(y==r.fXid)) else o
def openL (l:List GRec):List Int:=l.foldl openStep []
theorem openL_succ {l:List GRec} {i:Nat} (h:i<l.length):openL (l.take (i+1))=openStep (openL (l.take i)) (l[i]?.getD dRec):=by
 unfold openL
 rw[take_row dRec h,List.foldl_append]
 rfl
theorem openL_len (l:List GRec):(openL l).length≤l.length:=by
 have: ∀ (l:List GRec) (o:List Int),(l.foldl openStep o).length≤o.length+l.length:=by
  intro l
  induction l with
  |nil=>intro o;simp
  |cons r l ih=>
   intro o
   have h1:(openStep o r).length≤o.length+1:=by
    unfold openStep
    have:=List.length_filter_le (fun y=> !(y==r.fXid)) o
    split
    ·split<;>simp
    split
    ·omega
    ·omega
   have:=ih (openStep o r)
   simp only[List.foldl_cons,List.length_cons]
   omega
 have:=this l []
 simpa [openL] using this
theorem l07Has_ok (l:List Int) (x:Int) (hl:okM l.length):VC Tryz.prog 330 [vInts l,int .i64 x] [(false,[(.s,.sc (.bool (hasI l x)))])]:=by
 unfold okM at hl
 refine vc_of_ew good hm [0,1,4,7,8,9,10,6,15] Tryz.func330 rfl (by kernel_rfl) (by kernel_rfl) rfl ?_
 simp[Tryz.f330,vInts]
 refine ew_loop (fun E=> ∃i:Nat,i≤l.length∧anyT (fun y=>x==y) l i=false∧E= {nt:=17,sl:= [(1,int .i64 x),(7,vInts l),(8,int .i64 l.length),(9,int .i64 i)],bx:= [],rt:= []}) (fun E=>l.length- (E.num 9).toNat) _ (Gh.kb _ [1,7,8,9] [] []) ⟨0,by omega,anyT_zero _ _,by simp[vInts]⟩ ?_
 rintro E1 ⟨i,hi,hall,rfl⟩
 simp[vInts]
 refine ⟨fun h=> ?_,fun h=> ?_⟩
 ·have ha:=anyT_succ (fun y=>x==y) (0:Int) h
  have hg:l[i]?.getD 0=l[i]:=by simp[h]
  rw[hg,hall,Bool.false_or] at ha
  simp[h]
  refine ⟨fun hp=> ?_,fun hp=> .of _ (Gh.kb _ [1,7,8,9] [] []) ⟨i+1,by omega,by rw[ha];simpa using fun e=>hp e.symm, ?_⟩ ?_⟩
  ·exact List.any_eq_true.2 ⟨l[i],List.getElem_mem h,by simp[hp]⟩
  ·simp[wrapS (show i<9223372036854775807 by omega),vInts]
  ·simp[wrapS (show i<9223372036854775807 by omega)];omega
 ·have:i=l.length:=by omega
  subst this
  rw[anyT_all] at hall
  exact hall
theorem used_ok (l:List GRec) (x:Int) (hl:okM l.length):VC Tryz.prog 329 [vRecS l,int .i64 x] [(false,[(.s,.sc (.bool (usedX l x)))])]:=by
 unfold okM at hl
 refine vc_of_ew good hm [0,1,4,7,8,9,10,6,21] Tryz.func329 rfl (by kernel_rfl) (by kernel_rfl) rfl ?_
 simp[Tryz.f329]
 refine ew_loop (fun E=> ∃i:Nat,i≤l.length∧anyT (usedR x) l i=false∧E= {nt:=23,sl:= [(1,int .i64 x),(7,vRecS l),(8,int .i64 l.length),(9,int .i64 i)],bx:= [],rt:= []}) (fun E=>l.length- (E.num 9).toNat) _ (Gh.kb _ [1,7,8,9] [] []) ⟨0,by omega,anyT_zero _ _,by simp⟩ ?_
 rintro E1 ⟨i,hi,hall,rfl⟩
 simp
 refine ⟨fun h=> ?_,fun h=> ?_⟩
 ·have ha:=anyT_succ (usedR x) dRec h
  rw[hall,Bool.false_or] at ha
  refine ⟨h,fun h1 h2=> ?_,fun hp=> .of _ (Gh.kb _ [1,7,8,9] [] []) ⟨i+1,by omega,by rw[ha];simpa [usedR] using hp, ?_⟩ ?_⟩
  ·exact List.any_eq_true.2 ⟨_,getD_mem dRec h,by simp[usedR,h1,h2]⟩
  ·simp[wrapS (show i<9223372036854775807 by omega)]
  ·simp[wrapS (show i<9223372036854775807 by omega)];omega
 ·have:i=l.length:=by omega
  subst this
  rw[anyT_all] at hall
  exact hall
theorem l07But_ok (l:List Int) (x:Int) (hl:l.length≤1048576):VC Tryz.prog 402 [vInts l,int .i64 x] [(false,mInts (l.filter (fun y=> !(y==x))))]:=by
 refine vc_of_ew good hm [0,1,4,5,9,10,11,12,7,17] Tryz.func402 rfl (by kernel_rfl) (by kernel_rfl) rfl ?_
 simp[Tryz.f402,vInts,mInts]
 refine ew_loop (fun E=> ∃i:Nat,i≤l.length∧E= {nt:=24,sl:= [(1,int .i64 x),(5,.v false [.r [8]]),(9,vInts l),(10,int .i64 l.length),(11,int .i64 i)],bx:= [],rt:=(mInts ((l.take i).filter (fun y=> !(y==x)))).map fun y=>(8,y)}) (fun E=>l.length- (E.num 11).toNat) _ (Gh.kb _ [1,5,9,10,11] [] [8]) ⟨0,by omega,by simp[vInts,mInts]⟩ ?_
 rintro E1 ⟨i,hi,rfl⟩
 have hfl:=List.length_filter_le (fun y=> !(y==x)) (l.take i)
 rw[List.length_take] at hfl
 simp[vInts,mInts]
 refine ⟨fun h=> ?_,fun h=> ?_⟩
 ·have ht:(l.take (i+1)).filter (fun y=> !(y==x))=(l.take i).filter (fun y=> !(y==x))++(if l[i]=x then [] else [l[i]]):=by
   rw[List.take_succ_eq_append_getElem h,List.filter_append]
   congr 1
   by_cases e:l[i]=x<;>simp[e]
  simp[h]
  refine ⟨fun e=>⟨by omega,.of _ ((Gh.kb _ [1,5,9,10,11] [] [21]).trans (Gh.rn _ 21 8)) ⟨i+1,by omega, ?_⟩ ?_⟩,fun e=> .of _ (Gh.kb _ [1,5,9,10,11] [] [8]) ⟨i+1,by omega, ?_⟩ ?_⟩
  ·rw[ht,if_neg e]
   simp[wrapS (show i<9223372036854775807 by omega),vInts,mInts]
  ·simp[wrapS (show i<9223372036854775807 by omega)];omega
  ·rw[ht,if_pos e]
   simp[wrapS (show i<9223372036854775807 by omega),vInts,mInts]
  ·simp[wrapS (show i<9223372036854775807 by omega)];omega
 ·have:i=l.length:=by omega
  subst this
  simp
theorem open_ok (l:List GRec) (hl:l.length≤1048576):VC Tryz.prog 331 [vRecS l] [(false,mInts (openL l))]:=by
 refine vc_of_ew good hm [0,2,3,7,8,9,10,5,22,35] Tryz.func331 rfl (by kernel_rfl) (by kernel_rfl) rfl ?_
 simp[Tryz.f331,mInts]
 refine ew_loop (fun E=> ∃i:Nat,i≤l.length∧E= {nt:=42,sl:= [(3,.v false [.r [6]]),(7,vRecS l),(8,int .i64 l.length),(9,int .i64 i)],bx:= [],rt:=(mInts (openL (l.take i))).map fun y=>(6,y)}) (fun E=>l.length- (E.num 9).toNat) _ (Gh.kb _ [3,7,8,9] [] [6]) ⟨0,by omega,by simp[mInts,openL]⟩ ?_
 rintro E1 ⟨i,hi,rfl⟩
 have hol:=openL_len (l.take i)
 rw[List.length_take] at hol
 have hos:=fun h=>openL_succ (l:=l) (i:=i) h
 generalize ho:openL (l.take i)=o at hol hos
 simp[mInts]
 refine ⟨fun h=> ?_,fun h=> ?_⟩
 ·replace hos:=hos h
  generalize hr:l[i]?.getD dRec=r at hos
  have hhas:=l07Has_ok o r.fXid (by unfold okM;omega)
  refine ⟨h,.of (fun g=>⟨g,hhas⟩) ?_⟩
  by_cases k1:r.fKind=1
  ·have k34: ¬(r.fKind=3∨r.fKind=4):=by omega
   simp[k1]
   refine ⟨fun hh=>⟨by omega,.of _ ((Gh.kb _ [3,7,8,9] [] [27]).trans (Gh.rn _ 27 6)) ⟨i+1,by omega, ?_⟩ ?_⟩,fun hh=> .of _ (Gh.kb _ [3,7,8,9] [] [6]) ⟨i+1,by omega, ?_⟩ ?_⟩
   ·rw[hos]
    simp[wrapS (show i<9223372036854775807 by omega),mInts,openStep,k1,hh]
   ·simp[wrapS (show i<9223372036854775807 by omega)];omega
   ·rw[hos]
    simp[wrapS (show i<9223372036854775807 by omega),mInts,openStep,k1,hh]
   ·simp[wrapS (show i<9223372036854775807 by omega)];omega
  ·simp[k1]
   refine ⟨fun k34=> .of (l07But_ok o r.fXid (by omega)) ?_,fun k3 k4=> .of _ (Gh.kb _ [3,7,8,9] [] [6]) ⟨i+1,by omega, ?_⟩ ?_⟩
   ·simp[mInts]
    refine .of _ ((Gh.kb _ [3,7,8,9] [] [39]).trans (Gh.rn _ 39 6)) ⟨i+1,by omega, ?_⟩ ?_
    ·rw[hos]
     simp[wrapS (show i<9223372036854775807 by omega),mInts,openStep,k1,k34]
    ·simp[wrapS (show i<9223372036854775807 by omega)];omega
   ·rw[hos]
    simp[wrapS (show i<9223372036854775807 by omega),mInts,openStep,k1,k3,k4]
   ·simp[wrapS (show i<9223372036854775807 by omega)];omega
 ·have:i=l.length:=by omega
  subst this
  rw[List.take_length] at ho
  rw[ho]
def recBad (l:List GRec) (r:GRec):Bool:= !recOk r||((decide (r.fKind=1)&&usedX l r.fXid)||(!decide (r.fKind=1)&& !hasI (openL l) r.fXid))
def playStep (l:List GRec) (db:GDb) (r:GRec):Option GDb:=
 if recBad l r=true then none else if r.fKind=3 then (if (execAll db (stmtsOf l r.fXid)).2.1≠0 then none else some (execAll db (stmtsOf l r.fXid)).1) else some db
def playTo (db:GDb) (l:List GRec):Nat→Option GDb
 |0=>some db
 |i+1=>(playTo db l i).bind fun D=>playStep (l.take i) D (l[i]?.getD dRec)
theorem playTo_none {db:GDb} {l:List GRec} {i:Nat} (h:playTo db l i=none): ∀j,i≤j→playTo db l j=none
 |j,hj=>by
  induction j with
  |zero=>cases Nat.le_zero.1 hj;exact h
  |succ j ih=>
   rcases Nat.lt_or_ge j i with hlt|hge
   ·have:i=j+1:=by omega
    rw[←this];exact h
   ·rw[playTo,ih hge];rfl
def play (db:GDb) (l:List GRec):Option GDb:=playTo db l l.length
theorem play_step {db D:GDb} {l:List GRec} {i:Nat} (h:playTo db l i=some D):playTo db l (i+1)=playStep (l.take i) D (l[i]?.getD dRec):=by
 rw[playTo,h]
 rfl
theorem play_no {db D:GDb} {l:List GRec} {i:Nat} (hi:i<l.length) (h:playTo db l i=some D) (hn:playStep (l.take i) D (l[i]?.getD dRec)=none):play db l=none:=playTo_none (i:=i+1) ((play_step h).trans hn) _ hi
theorem playStep_ok {l:List GRec} {db D:GDb} {r:GRec} (hd:dbOk db=true) (h:playStep l db r=some D):dbOk D=true:=by
 unfold playStep at h
 split at h
 ·cases h
 split at h
 ·split at h
  ·cases h
  ·rename_i h0
   cases h
   have h0:(execAll db (stmtsOf l r.fXid)).2.1=0:=by omega
   unfold execAll at h0⊢
   rw[if_neg (by simp[hd])] at h0⊢
   exact execL_ok hd h0
 ·cases h
  exact hd
end Go.Proofs.YteeolohhmfjafaaGreat
namespace Go.Proofs.YteeolohhmfjafaaGreat
open Go Go.Proofs Go.Sm
attribute [local simp] ti eStr eInt eByte eVal vVal eValS vValS eRow cRow vRow eCol vCol vColS vStrS eDdl cDdl vDdl eStmt cStmt vStmt ePart vPart vPartS eBatch vBatch eTable cTable vTable vTableS cCat vCat vRowS eRows vRows vRowsS cDb vDb eRec vRec vRecS eTail cTail vTail vBatchS vStmtS
set_option linter.unusedVariables false
set_option linter.unusedSimpArgs false
set_option maxRecDepth 8000
theorem stmtsOf_okS {l:List GRec} (h: ∀r∈l,okRec r) (x:Int): ∀s∈stmtsOf l x,okStmt s:=fun s hs=>by
 obtain ⟨r,hr,rfl⟩:=List.mem_map.1 hs
 exact (h r (List.mem_filter.1 hr).1).2.2.1
end Go.Proofs.YteeolohhmfjafaaGreat
namespace Go.Proofs.YteeolohhmfjafaaGreat
open Go Go.Proofs Go.Sm
attribute [local simp] ti eStr eInt eByte eVal vVal eValS vValS eRow cRow vRow eCol vCol vColS vStrS eDdl cDdl vDdl eStmt cStmt vStmt ePart vPart vPartS eBatch vBatch eTable cTable vTable vTableS cCat vCat vRowS eRows vRows vRowsS cDb vDb eRec vRec vRecS eTail cTail vTail vBatchS vStmtS
set_option linter.unusedVariables false
set_option linter.unusedSimpArgs false
set_option maxRecDepth 8000
theorem openL_sub: ∀ {l:List GRec} {y:Int},y∈openL l→usedX l y=true:=by
 have key: ∀ (l:List GRec) (o:List Int) (y:Int),y∈l.foldl openStep o→y∈o∨usedX l y=true:=by
  intro l
  induction l with
  |nil=>exact fun o y h=> .inl h
  |cons r l ih=>
   intro o y h
   rcases ih _ _ h with h|h
   ·unfold openStep at h
    split at h
    ·rename_i k1
     split at h
     ·exact .inl h
     ·rcases List.mem_append.1 h with h|h
      ·exact .inl h
      ·right
       simp[usedX,usedR,k1,List.mem_singleton.1 h]
    split at h
    ·exact .inl (List.mem_filter.1 h).1
    ·exact .inl h
   ·right
    simp only[usedX,List.any_cons] at h⊢
    rw[h,Bool.or_true]
 intro l y h
 exact (key l [] y h).resolve_left (by simp)
def begs (l:List GRec):List Int:=(l.filter (fun r=>decide (r.fKind=1))).map (·.fXid)
theorem begs_has (l:List GRec) (x:Int):hasI (begs l) x=usedX l x:=by
 unfold hasI begs usedX usedR
 induction l with
 |nil=>rfl
 |cons r l ih=>
  by_cases k:r.fKind=1
  ·simp only[List.filter_cons,k,decide_true,if_true,List.map_cons,List.any_cons,ih,Bool.true_and]
   congr 1
   by_cases e:r.fXid=x
   ·rw[e];simp
   ·rw[decide_eq_false e,beq_false_of_ne (Ne.symm e)]
  ·simp only[List.filter_cons,k,decide_false,List.any_cons,ih,Bool.false_and,Bool.false_or]
   simpa using ih
theorem begs_succ {l:List GRec} {i:Nat} (h:i<l.length):begs (l.take (i+1))=if (l[i]?.getD dRec).fKind=1 then begs (l.take i)++ [(l[i]?.getD dRec).fXid] else begs (l.take i):=by
 unfold begs
 rw[take_row dRec h,List.filter_append,List.map_append]
 by_cases k:(l[i]?.getD dRec).fKind=1<;>simp[k]
theorem begs_len (l:List GRec):(begs l).length≤l.length:=by
 unfold begs
 rw[List.length_map]
 exact List.length_filter_le _ _
theorem walk1_ok (r:GRec) (y:Int):VC Tryz.prog 328 [int .i64 y,.p (.ps (eRec r))] [(false,[(.s,.sc (.bool (y==r.fXid)))])]:=by
 refine vc_of_ew good hm [0,1,3] Tryz.func328 rfl (by kernel_rfl) (by kernel_rfl) rfl ?_
 simp[Tryz.f328,eRec]
theorem walk_ok (d:GDb) (l:List GRec) (f:Nat) (hf: ∀n D,VC Tryz.prog f [int .i64 n,vDb D] []) (hd:dbOk d=true) (hl:l.length≤1048576) (ho: ∀r∈l,okRec r) (hb: ∀r∈l,bdRec r):VC Tryz.prog 214 [vDb d,vRecS l,.fn f []] [(true,fDb ((play d l).getD dDb)),(false,[(.s,.sc (.bool (play d l).isSome))])]:=by
 refine vc_of_ewF good hm [0,1,2,3,6,7,8,9,17,18,19,20,11,10,26,30,34,50,54,12,13,68,78] Tryz.func214 rfl (by kernel_rfl) (by kernel_rfl) rfl ?_
 simp[Tryz.f214,fDb]
 refine ew_loop (fun E=> ∃ (i:Nat) (D:GDb),i≤l.length∧dbOk D=true∧playTo d l i=some D∧E= {nt:=84,sl:= [(1,vRecS l),(2,.fn f []),(3,.p (.bx 3 0)),(6,.p (.bx 6 0)),(8,.v false [.r [15]]),(9,.v false [.r [16]]),(17,vRecS l),(18,int .i64 l.length),(19,int .i64 i)],bx:= [(3,[.s (.ls [Lf.sc (Value.string ⟨#[]⟩),Lf.ls [Lf.sc (Value.string ⟨#[]⟩),Lf.sc (Value.int IntKind.i64 0),Lf.sc (Value.bool false),Lf.sc (Value.bool false),Lf.sc (Value.int IntKind.i64 0),Lf.sc (Value.int IntKind.i64 0),Lf.sc (Value.string ⟨#[]⟩)] [],Lf.ls [Lf.sc (Value.string ⟨#[]⟩)] []] (D.fCat.fTables.map eTable)),.s (.ls [Lf.ls [Lf.ls [Lf.sc (Value.int IntKind.i64 0),Lf.sc (Value.int IntKind.i64 0),Lf.sc (Value.string ⟨#[]⟩)] []] []] (D.fData.map eRows))]),(6,[.n [Lf.sc (Value.string ⟨#[]⟩),Lf.ls [Lf.sc (Value.string ⟨#[]⟩),Lf.sc (Value.int IntKind.i64 0),Lf.sc (Value.bool false),Lf.sc (Value.bool false),Lf.sc (Value.int IntKind.i64 0),Lf.sc (Value.int IntKind.i64 0),Lf.sc (Value.string ⟨#[]⟩)] [],Lf.ls [Lf.sc (Value.string ⟨#[]⟩)] []],.n [Lf.ls [Lf.ls [Lf.sc (Value.int IntKind.i64 0),Lf.sc (Value.int IntKind.i64 0),Lf.sc (Value.string ⟨#[]⟩)] []] []]])],rt:= [(15,.o 3 (fun _=> [Md.s]),.ls [Lf.sc (Value.int IntKind.i64 0)] ((openL (l.take i)).map eInt)),(16,.o 3 (fun _=> [Md.s]),.ls [Lf.sc (Value.int IntKind.i64 0)] ((begs (l.take i)).map eInt))]}) (fun E=>l.length- (E.num 19).toNat) _ (Gh.kb _ [1,2,3,6,8,9,17,18,19] [3,6] [15,16]) ⟨0,d,by omega,hd,rfl,by simp[openL,begs]⟩ ?_
 rintro E1 ⟨i,D,hi,hD,hx,rfl⟩
 simp
 have hst:=play_step hx
 have hno:=fun (h:i<l.length)=>play_no h hx
 have hos:=fun (h:i<l.length)=>openL_succ h
 have hbs:=fun (h:i<l.length)=>begs_succ h
 generalize hr:l[i]?.getD dRec=r at hst hno hos hbs
 have htl:(l.take i).length≤1048576:=by simp;omega
 have hol:=openL_len (l.take i)
 have hbl:=begs_len (l.take i)
 refine ⟨fun hil=> ?_,fun hil=> ?_⟩
 ·have hrm:r∈l:=by rw[←hr];exact getD_mem dRec hil
  have hor:=ho r hrm
  have hbr:=hb r hrm
  refine ⟨hil,.of (recOkI_ok r hor hbr.2.2.1 hbr.2.2.2) ?_⟩
  simp
  have hps:playStep (l.take i) D r=if recBad (l.take i) r=true then none else if r.fKind=3 then (if (execAll D (stmtsOf (l.take i) r.fXid)).2.1≠0 then none else some (execAll D (stmtsOf (l.take i) r.fXid)).1) else some D:=rfl
  rw[List.length_take] at hol hbl
  have hbc:VC Tryz.prog 325 [vInts (begs (l.take i)),int .i64 r.fXid] [(false,[(.s,.sc (.bool (hasI (begs (l.take i)) r.fXid)))])]:=containsInt_ok (begs (l.take i)) r.fXid (by unfold okM;omega)
  have hoc:VC Tryz.prog 325 [vInts (openL (l.take i)),int .i64 r.fXid] [(false,[(.s,.sc (.bool (hasI (openL (l.take i)) r.fXid)))])]:=containsInt_ok (openL (l.take i)) r.fXid (by unfold okM;omega)
  rw[begs_has] at hbc
  have hfail:recBad (l.take i) r=true→play d l=none:=fun hbd=>hno hil (by rw[hps,if_pos hbd])
  refine ⟨fun a=> ?_,fun a=>⟨fun k1=> .of hbc ?_,fun k1=> .of hoc ?_⟩⟩
  ·have hpl:=hfail (by simp[recBad,a])
   rw[hpl]
   simp[dDb,dCat]
  ·simp
   refine ⟨fun hu=> ?_,fun hu=>⟨by omega,by omega,.of _ ((Gh.kb _ [1,2,3,6,8,9,17,18,19] [3,6] [45,40]).trans ((Gh.rn _ 45 15).trans (Gh.rn _ 40 16))) ⟨i+1,by omega,D,hD, ?_, ?_⟩ ?_⟩⟩
   ·rw[hfail (by simp[recBad,k1,hu])]
    simp[dDb,dCat]
   ·rw[hst,hps,if_neg (by simp[recBad,a,k1,hu]),if_neg (by omega)]
   ·have hno2:hasI (openL (l.take i)) r.fXid=false:=by
     cases hq:hasI (openL (l.take i)) r.fXid with
     |false=>rfl
     |true=>
      obtain ⟨y,hy,e⟩:=List.any_eq_true.1 hq
      rw[beq_iff_eq] at e
      rw[e,openL_sub hy] at hu
      cases hu
    rw[hos hil,hbs hil,if_pos k1]
    simp[wrapS (show i<9223372036854775807 by omega),openStep,k1,hno2]
   ·simp[wrapS (show i<9223372036854775807 by omega)];omega
  ·simp
   have hm:(l.take i).map eRec=(l.map eRec).take i:=List.map_take ..
   have hso:=stmtsOfI_ok (l.take i) r.fXid htl (fun r hr=>hb r (List.mem_of_mem_take hr))
   unfold vRecS at hso
   rw[hm] at hso
   refine ⟨fun hu=> ?_,fun hu=>⟨fun k3=>⟨by omega,.of (hso.frz (by simp[FullRs,FullML,mStmtS])) ?_⟩,fun k3=> ?_⟩⟩
   ·rw[hfail (by simp[recBad,k1,hu])]
    simp[dDb,dCat]
   ·have hex:=execAllI_ok D (stmtsOf (l.take i) r.fXid) (dbOk_ok hD) (dbOk_key hD) (fun s hs=>⟨stmtsOf_okS (fun r hr=>ho r (List.mem_of_mem_take hr)) _ s hs,by
     obtain ⟨r',hr',rfl⟩:=List.mem_map.1 hs
     exact hb r' (List.mem_of_mem_take (List.mem_filter.1 hr').1)⟩) (by have:=stmtsOf_len (l.take i) r.fXid;unfold okM;omega)
    simp[mStmtS]
    refine .of hex ?_
    simp[fDb]
    rw[if_neg (by simp[recBad,a,k1,hu]),if_pos k3] at hps
    refine ⟨fun h=> ?_,fun h=> ?_⟩
    ·rw[hno hil (by rw[hps,if_pos h])]
     simp[dDb,dCat]
    ·rw[if_neg (by simp[h])] at hps
     rw[hps] at hst
     refine .of (hf _ D) ?_
     simp[k3,md,lf,List.range']
     refine .use (delFuncInt_ok (openL (l.take i)) _ (eRec r) (fun y=>y==r.fXid) (by omega) (fun x _=>walk1_ok r x)) ?_
     simp[mInts]
     refine ⟨k3,.of _ ((Gh.kb _ [1,2,3,6,8,9,17,18,19] [3,6] [81,16]).trans (Gh.rn _ 81 15)) ⟨i+1,by omega,_,playStep_ok hD hps,hst, ?_⟩ ?_⟩
     ·rw[hos hil,hbs hil,if_neg k1]
      simp[wrapS (show i<9223372036854775807 by omega),openStep,k1,k3,md,lf,List.range']
     ·simp[wrapS (show i<9223372036854775807 by omega)];omega
   ·rw[if_neg (by simp[recBad,a,k1,hu]),if_neg k3] at hps
    rw[hps] at hst
    refine ⟨fun k2=> ?_,fun k2=> ?_⟩
    ·have k4:r.fKind=4:=by
      have:within r.fKind 1 4=true:=by
       have:=a
       simp only[recOk,Bool.and_eq_true] at this
       exact this.1
      simp only[within,Bool.and_eq_true,decide_eq_true_eq] at this
      omega
     refine .use (delFuncInt_ok (openL (l.take i)) _ (eRec r) (fun y=>y==r.fXid) (by omega) (fun x _=>walk1_ok r x)) ?_
     simp[mInts]
     refine .of _ ((Gh.kb _ [1,2,3,6,8,9,17,18,19] [3,6] [81,16]).trans (Gh.rn _ 81 15)) ⟨i+1,by omega,D,hD,hst, ?_⟩ ?_
     ·rw[hos hil,hbs hil,if_neg k1]
      simp[wrapS (show i<9223372036854775807 by omega),openStep,k1,k4]
     ·simp[wrapS (show i<9223372036854775807 by omega)];omega
    ·refine .of _ (Gh.kb _ [1,2,3,6,8,9,17,18,19] [3,6] [15,16]) ⟨i+1,by omega,D,hD,hst, ?_⟩ ?_
     ·rw[hos hil,hbs hil,if_neg k1]
      simp[wrapS (show i<9223372036854775807 by omega),openStep,k2]
     ·simp[wrapS (show i<9223372036854775807 by omega)];omega
 ·have:i=l.length:=by omega
  subst this
  have hp:play d l=some D:=hx
  simp[hp]
end Go.Proofs.YteeolohhmfjafaaGreat
namespace Go.Proofs.YteeolohhmfjafaaGreat
open Go Go.Proofs Go.Sm
attribute [local simp] ti eStr eInt eByte eVal vVal eValS vValS eRow cRow vRow eCol vCol vColS vStrS eDdl cDdl vDdl eStmt cStmt vStmt ePart vPart vPartS eBatch vBatch eTable cTable vTable vTableS cCat vCat vRowS eRows vRows vRowsS cDb vDb eRec vRec vRecS eTail cTail vTail vBatchS vStmtS
set_option linter.unusedVariables false
set_option linter.unusedSimpArgs false
set_option maxRecDepth 8000
def logOk (l:List GRec):Bool:=decide (l.length≤400)&& (play dDb l).isSome
theorem playTo_take {d:GDb} {l:List GRec} {n:Nat}: ∀i,i≤n→playTo d (l.take n) i=playTo d l i
 |0,_=>rfl
 |i+1,h=>by
  rw[playTo,playTo,playTo_take i (by omega),List.take_take,Nat.min_eq_left (by omega),List.getElem?_take,if_pos (by omega)]
theorem play_take {d:GDb} {l:List GRec} {n:Nat} (h:n≤l.length):play d (l.take n)=playTo d l n:=by
 unfold play
 rw[List.length_take,Nat.min_eq_left h,playTo_take n (Nat.le_refl _)]
theorem playTo_some {d:GDb} {l:List GRec} {n i:Nat} (h:(playTo d l n).isSome=true) (hi:i≤n):(playTo d l i).isSome=true:=by
 cases hs:playTo d l i with
 |some _=>rfl
 |none=>
  rw[playTo_none hs n hi] at h
  cases h
theorem playTo_ok {d:GDb} {l:List GRec} (hd:dbOk d=true): ∀ {i:Nat} {D:GDb},playTo d l i=some D→dbOk D=true
 |0,D,h=>by
  simp only[playTo,Option.some.injEq] at h
  rw[←h]
  exact hd
 |i+1,D,h=>by
  rw[playTo] at h
  cases hs:playTo d l i with
  |none=>rw[hs] at h;cases h
  |some D0=>
   rw[hs] at h
   exact playStep_ok (playTo_ok hd hs) h
theorem play_ok {d D:GDb} {l:List GRec} (hd:dbOk d=true) (h:play d l=some D):dbOk D=true:=playTo_ok hd h
def logDb (l:List GRec):GDb:=(play dDb l).getD dDb
def addR (l:List GRec) (r:GRec):List GRec×Int:=
 if logOk l=false∨recOk r=false then ([],1) else if r.fKind=1∧usedX l r.fXid=true then ([],2) else if r.fKind≠1∧hasI (openL l) r.fXid=false then ([],3) else
 if l.length=400 then ([],4) else if r.fKind=3∧(execAll (logDb l) (stmtsOf l r.fXid)).2.1≠0 then ([],5) else (l++ [r],0)
end Go.Proofs.YteeolohhmfjafaaGreat
namespace Go.Proofs.YteeolohhmfjafaaGreat
open Go Go.Proofs Go.Sm
attribute [local simp] ti eStr eInt eByte eVal vVal eValS vValS eRow cRow vRow eCol vCol vColS vStrS eDdl cDdl vDdl eStmt cStmt vStmt ePart vPart vPartS eBatch vBatch eTable cTable vTable vTableS cCat vCat vRowS eRows vRows vRowsS cDb vDb eRec vRec vRecS eTail cTail vTail vBatchS vStmtS
set_option linter.unusedVariables false
set_option linter.unusedSimpArgs false
set_option maxRecDepth 8000
theorem l13Play_ok (d:GDb) (l:List GRec) (hd:dbOk d=true) (hl:l.length≤1048576) (ho: ∀r∈l,okRec r) (hb: ∀r∈l,bdRec r):VC Tryz.prog 242 [vDb d,vRecS l] [(true,fDb ((play d l).getD dDb)),(false,[(.s,.sc (.bool (play d l).isSome))])]:=by
 refine vc_of_ewF good hm [0,1,2,4,5,11,12,13,14,7,6,48,52,8,9,66] Tryz.func242 rfl (by kernel_rfl) (by kernel_rfl) rfl ?_
 simp[Tryz.f242,fDb]
 refine ew_loop (fun E=> ∃ (i:Nat) (D:GDb),i≤l.length∧dbOk D=true∧playTo d l i=some D∧E= {nt:=72,sl:= [(1,vRecS l),(2,.p (.bx 2 0)),(4,.p (.bx 4 0)),(11,vRecS l),(12,int .i64 l.length),(13,int .i64 i)],bx:= [(2,[.s (.ls [Lf.sc (Value.string ⟨#[]⟩),Lf.ls [Lf.sc (Value.string ⟨#[]⟩),Lf.sc (Value.int IntKind.i64 0),Lf.sc (Value.bool false),Lf.sc (Value.bool false),Lf.sc (Value.int IntKind.i64 0),Lf.sc (Value.int IntKind.i64 0),Lf.sc (Value.string ⟨#[]⟩)] [],Lf.ls [Lf.sc (Value.string ⟨#[]⟩)] []] (D.fCat.fTables.map eTable)),.s (.ls [Lf.ls [Lf.ls [Lf.sc (Value.int IntKind.i64 0),Lf.sc (Value.int IntKind.i64 0),Lf.sc (Value.string ⟨#[]⟩)] []] []] (D.fData.map eRows))]),(4,[.n [Lf.sc (Value.string ⟨#[]⟩),Lf.ls [Lf.sc (Value.string ⟨#[]⟩),Lf.sc (Value.int IntKind.i64 0),Lf.sc (Value.bool false),Lf.sc (Value.bool false),Lf.sc (Value.int IntKind.i64 0),Lf.sc (Value.int IntKind.i64 0),Lf.sc (Value.string ⟨#[]⟩)] [],Lf.ls [Lf.sc (Value.string ⟨#[]⟩)] []],.n [Lf.ls [Lf.ls [Lf.sc (Value.int IntKind.i64 0),Lf.sc (Value.int IntKind.i64 0),Lf.sc (Value.string ⟨#[]⟩)] []] []]])],rt:= []}) (fun E=>l.length- (E.num 13).toNat) _ (Gh.kb _ [1,2,4,11,12,13] [2,4] []) ⟨0,d,by omega,hd,rfl,by simp⟩ ?_
 rintro E1 ⟨i,D,hi,hD,hx,rfl⟩
 simp
 have hst:=play_step hx
 have hno:=fun (h:i<l.length)=>play_no h hx
 generalize hr:l[i]?.getD dRec=r at hst hno
 have htl:(l.take i).length≤1048576:=by simp;omega
 refine ⟨fun hil=> ?_,fun hil=> ?_⟩
 ·have hrm:r∈l:=by rw[←hr];exact getD_mem dRec hil
  have hor:=ho r hrm
  have hbr:=hb r hrm
  refine ⟨hil,.of (recOkS_ok r hor) ?_⟩
  simp
  have hm:(l.take i).map eRec=(l.map eRec).take i:=List.map_take ..
  have hu:=used_ok (l.take i) r.fXid (by unfold okM;omega)
  have hop:=open_ok (l.take i) htl
  have hso:=stmtsOfS_ok (l.take i) r.fXid htl (fun r hr=>hb r (List.mem_of_mem_take hr))
  unfold vRecS at hu hop hso
  rw[hm] at hu hop hso
  have hol:=openL_len (l.take i)
  have hha:=l07Has_ok (openL (l.take i)) r.fXid (by rw[List.length_take] at hol;unfold okM;omega)
  refine ⟨fun _ q=>⟨⟨‹_›,q⟩,by omega⟩,.of (fun g=>⟨g,hu⟩) ?_⟩
  simp
  refine ⟨fun a=>⟨a,fun b=>⟨a,b⟩⟩,fun a b c=>⟨⟨⟨a,b⟩,c⟩,by omega⟩,.of (fun g=>⟨g,hop⟩) ?_⟩
  simp[mInts,FullRs,FullML]
  refine .of (fun g=>⟨g,hha⟩) ?_
  simp
  clear hu hop
  have hps:playStep (l.take i) D r=if recBad (l.take i) r=true then none else if r.fKind=3 then (if (execAll D (stmtsOf (l.take i) r.fXid)).2.1≠0 then none else some (execAll D (stmtsOf (l.take i) r.fXid)).1) else some D:=rfl
  refine ⟨fun a b=>⟨⟨a,b⟩,fun c=>⟨⟨a,b⟩,c⟩⟩,fun a b=>⟨a,by grind⟩,fun hbad=> ?_,fun a b c=> ?_⟩
  ·have hbd:recBad (l.take i) r=true:=by
    unfold recBad
    rcases hbad with (h|h)|h
    ·simp[h]
    ·simp[h.1,h.2]
    ·simp[h.1,h.2]
   have hpl:=hno hil (by rw[hps,if_pos hbd])
   rw[hpl]
   simp[dDb,dCat]
  ·have hbd: ¬recBad (l.take i) r=true:=by
    unfold recBad
    simp only[a,Bool.not_true,Bool.false_or,Bool.or_eq_true,Bool.and_eq_true,decide_eq_true_eq,Bool.not_eq_true',decide_eq_false_iff_not]
    grind
   rw[if_neg hbd] at hps
   refine ⟨fun k3=>⟨by omega,.of (hso.frz (by simp[FullRs,FullML,mStmtS])) ?_⟩,fun k3=> ?_⟩
   ·rw[if_pos k3] at hps
    have hex:=execAllS_ok D (stmtsOf (l.take i) r.fXid) (dbOk_ok hD) (dbOk_key hD) (stmtsOf_okS (fun r hr=>ho r (List.mem_of_mem_take hr)) _) (by have:=stmtsOf_len (l.take i) r.fXid;unfold okM;omega)
    simp[mStmtS]
    refine .of hex ?_
    simp[fDb]
    refine ⟨fun h=> ?_,fun h=> ?_⟩
    ·have hpl:=hno hil (by rw[hps,if_pos h])
     rw[hpl]
     simp[dDb,dCat]
    ·rw[if_neg (by simp[h])] at hps
     rw[hps] at hst
     refine .of _ (Gh.kb _ [1,2,4,11,12,13] [2,4] []) ⟨i+1,by omega,_,playStep_ok hD hps,hst, ?_⟩ ?_
     ·simp[wrapS (show i<9223372036854775807 by omega),md,lf,List.range']
     ·simp[wrapS (show i<9223372036854775807 by omega)];omega
   ·rw[if_neg k3] at hps
    rw[hps] at hst
    refine .of _ (Gh.kb _ [1,2,4,11,12,13] [2,4] []) ⟨i+1,by omega,D,hD,hst, ?_⟩ ?_
    ·simp[wrapS (show i<9223372036854775807 by omega)]
    ·simp[wrapS (show i<9223372036854775807 by omega)];omega
 ·have:i=l.length:=by omega
  subst this
  have hp:play d l=some D:=hx
  refine .of ((l04Copy_ok D (dbOk_bd hD)).frz (by simp[FullRs,FullML,mDb])) ?_
  simp[hp,mDb]
theorem l13AtT_ok (n:Int):VC Tryz.prog 241 [int .i64 n] [(false,[(.s,.sc (.bool (within n 0 400)))])]:=by
 refine vc_of_ew good hm [0,2] Tryz.func241 rfl (by kernel_rfl) (by kernel_rfl) rfl ?_
 simp[Tryz.f241,within]
def tailOk (t:GTail):Bool:=within t.fBase 0 400&& (dbOk t.fDb&& (decide (t.fBase+t.fRecs.length≤400)&& (play t.fDb t.fRecs).isSome))
theorem tail_bd {t:GTail} (h:within t.fBase 0 400=true):0≤t.fBase∧t.fBase≤400:=by
 simpa [within] using h
theorem tailOkS_ok (t:GTail) (hd:okDb t.fDb) (hk: ∀x∈t.fDb.fCat.fTables,x.fKeys.length≤1048576) (hl:t.fRecs.length≤1048576) (ho: ∀r∈t.fRecs,okRec r) (hb: ∀r∈t.fRecs,bdRec r):VC Tryz.prog 137 [vTail t] [(false,[(.s,.sc (.bool (tailOk t)))])]:=by
 refine vc_of_ew good hm [0,1,2,23,4] Tryz.func137 rfl (by kernel_rfl) (by kernel_rfl) rfl ?_
 simp[Tryz.f137]
 refine .of (l13AtT_ok _) ?_
 simp
 refine .of (fun h=>⟨h,dbOkS_ok t.fDb hd hk⟩) ?_
 simp
 refine ⟨fun h=> ?_,fun h1 h2 h3=> .of (l13Play_ok t.fDb t.fRecs h2 hl ho hb) ?_⟩
 ·cases hw:within t.fBase 0 400 with
  |false=>simp[tailOk,hw]
  |true=>
   have:=tail_bd hw
   rw[wrapI (by omega) (by omega)] at h
   rcases h with (h|h)|h
   ·rw[hw] at h;cases h
   ·simp[tailOk,h]
   ·simp[tailOk,show¬(t.fBase+t.fRecs.length≤400) by omega]
 ·have:=tail_bd h1
  rw[wrapI (by omega) (by omega)] at h3
  simp[fDb,tailOk,h1,h2,h3]
theorem tailOk1_ok (n:Int) (D:GDb):VC Tryz.prog 243 [int .i64 n,vDb D] []:=by
 refine vc_of_ew good hm [1] Tryz.func243 rfl (by kernel_rfl) (by kernel_rfl) rfl ?_
 simp[Tryz.f243]
theorem tailOkI_ok (t:GTail) (hd:okDb t.fDb) (hk: ∀x∈t.fDb.fCat.fTables,x.fKeys.length≤1048576) (hl:t.fRecs.length≤1048576) (ho: ∀r∈t.fRecs,okRec r) (hb: ∀r∈t.fRecs,bdRec r):VC Tryz.prog 139 [vTail t] [(false,[(.s,.sc (.bool (tailOk t)))])]:=by
 refine vc_of_ew good hm [0,1,2,23,4] Tryz.func139 rfl (by kernel_rfl) (by kernel_rfl) rfl ?_
 simp[Tryz.f139]
 refine .of (within_ok _ _ _) ?_
 simp
 refine .of (fun h=>⟨h,dbOkI_ok t.fDb hd hk⟩) ?_
 simp
 refine ⟨fun h=> ?_,fun h1 h2 h3=> .of (walk_ok t.fDb t.fRecs _ (fun n D=>tailOk1_ok n D) h2 hl ho hb) ?_⟩
 ·cases hw:within t.fBase 0 400 with
  |false=>simp[tailOk,hw]
  |true=>
   have:=tail_bd hw
   rw[wrapI (by omega) (by omega)] at h
   rcases h with (h|h)|h
   ·rw[hw] at h;cases h
   ·simp[tailOk,h]
   ·simp[tailOk,show¬(t.fBase+t.fRecs.length≤400) by omega]
 ·have:=tail_bd h1
  rw[wrapI (by omega) (by omega)] at h3
  simp[fDb,tailOk,h1,h2,show t.fBase+t.fRecs.length≤400 by omega]
theorem tailB {t : GTail} (hs : ∀ n ∈ wTail t, n ≤ 1048576) : (∀ x ∈ t.fDb.fCat.fTables, x.fKeys.length ≤ 1048576) ∧ t.fRecs.length ≤ 1048576 ∧ ∀ r ∈ t.fRecs, bdRec r :=
  ⟨fun x hx => hs _ (by
    simp only [wTail, wDb, wCat, wTableS, List.mem_append, List.mem_cons, List.mem_flatMap]
    exact .inl (.inl (.inl (.inr ⟨x, hx, by simp [wTable, wStrS]⟩)))),
   hs _ (by simp [wTail, wRecS]), recsB fun n hn => hs n (by simp [wTail, hn])⟩
end Go.Proofs.YteeolohhmfjafaaGreat
namespace Go.Proofs.YteeolohhmfjafaaGreat
open Go Go.Proofs Go.Sm
attribute [local simp] ti eStr eInt eByte eVal vVal eValS vValS eRow cRow vRow eCol vCol vColS vStrS eDdl cDdl vDdl eStmt cStmt vStmt ePart vPart vPartS eBatch vBatch eTable cTable vTable vTableS cCat vCat vRowS eRows vRows vRowsS cDb vDb eRec vRec vRecS eTail cTail vTail vBatchS vStmtS
set_option linter.unusedVariables false
set_option linter.unusedSimpArgs false
set_option maxRecDepth 8000
end Go.Proofs.YteeolohhmfjafaaGreat
namespace Go.Proofs.YteeolohhmfjafaaGreat
open Go Go.Proofs Go.Sm
attribute [local simp] ti eStr eInt eByte eVal vVal eValS vValS eRow cRow vRow eCol vCol vColS vStrS eDdl cDdl vDdl eStmt cStmt vStmt ePart vPart vPartS eBatch vBatch eTable cTable vTable vTableS cCat vCat vRowS eRows vRows vRowsS cDb vDb eRec vRec vRecS eTail cTail vTail vBatchS vStmtS
set_option linter.unusedVariables false
set_option linter.unusedSimpArgs false
set_option maxRecDepth 8000
end Go.Proofs.YteeolohhmfjafaaGreat
namespace Go.Proofs.YteeolohhmfjafaaGreat
open Go Go.Proofs Go.Sm
attribute [local simp] ti eStr eInt eByte eVal vVal eValS vValS eRow cRow vRow eCol vCol vColS vStrS eDdl cDdl vDdl eStmt cStmt vStmt ePart vPart vPartS eBatch vBatch eTable cTable vTable vTableS cCat vCat vRowS eRows vRows vRowsS cDb vDb eRec vRec vRecS eTail cTail vTail vBatchS vStmtS
set_option linter.unusedVariables false
set_option linter.unusedSimpArgs false
set_option maxRecDepth 8000
end Go.Proofs.YteeolohhmfjafaaGreat
namespace Go.Proofs.YteeolohhmfjafaaGreat
open Go Go.Proofs Go.Sm
attribute [local simp] ti eStr eInt eByte eVal vVal eValS vValS eRow cRow vRow eCol vCol vColS vStrS eDdl cDdl vDdl eStmt cStmt vStmt ePart vPart vPartS eBatch vBatch eTable cTable vTable vTableS cCat vCat vRowS eRows vRows vRowsS cDb vDb eRec vRec vRecS eTail cTail vTail vBatchS vStmtS
set_option linter.unusedVariables false
set_option linter.unusedSimpArgs false
set_option maxRecDepth 8000
end Go.Proofs.YteeolohhmfjafaaGreat
namespace Go.Proofs.YteeolohhmfjafaaGreat
open Go Go.Proofs Go.Sm
attribute [local simp] ti eStr eInt eByte eVal vVal eValS vValS eRow cRow vRow eCol vCol vColS vStrS eDdl cDdl vDdl eStmt cStmt vStmt ePart vPart vPartS eBatch vBatch eTable cTable vTable vTableS cCat vCat vRowS eRows vRows vRowsS cDb vDb eRec vRec vRecS eTail cTail vTail vBatchS vStmtS
set_option linter.unusedVariables false
set_option linter.unusedSimpArgs false
set_option maxRecDepth 8000
def tailAt (t:GTail) (n:Int):GDb×Bool:=if tailOk t=true∧t.fBase≤n∧n≤t.fBase+t.fRecs.length then ((play t.fDb (t.fRecs.take (n-t.fBase).toNat)).getD dDb,true) else (dDb,false)
theorem tail_dbOk {t:GTail} (h:tailOk t=true):dbOk t.fDb=true:=by
 simp only[tailOk,Bool.and_eq_true] at h
 exact h.2.1
theorem tail_play {t:GTail} {k:Nat} (h:tailOk t=true) (hk:k≤t.fRecs.length): ∃D,play t.fDb (t.fRecs.take k)=some D∧dbOk D=true:=by
 simp only[tailOk,Bool.and_eq_true] at h
 have h1:(playTo t.fDb t.fRecs t.fRecs.length).isSome=true:=h.2.2.2
 have h2:=playTo_some h1 hk
 rw[←play_take hk] at h2
 obtain ⟨D,hD⟩:=Option.isSome_iff_exists.1 h2
 exact ⟨D,hD,play_ok h.2.1 hD⟩
theorem S_TailAt_ok (t:GTail) (n:Int) (o0:okTail t) (hs: ∀n∈wTail t,n≤1048576) (_:(wTail t).sum≤1048576) (o1:okI n):VC Tryz.prog 138 [vTail t,int .i64 n] [(true,fDb (tailAt t n).1),(false,[(.s,.sc (.bool (tailAt t n).2))])]:=by
 have hE:tailAt t n=if tailOk t=true∧t.fBase≤n∧n≤t.fBase+t.fRecs.length then ((play t.fDb (t.fRecs.take (n-t.fBase).toNat)).getD dDb,true) else (dDb,false):=rfl
 obtain ⟨b1,b2,b3⟩:=tailB hs
 have hbd:=fun (h:tailOk t=true)=>tail_bd (t:=t) (by simp only[tailOk,Bool.and_eq_true] at h;exact h.1)
 refine vc_of_ewF good hm [0,1,2,4,5,24] Tryz.func138 rfl (by kernel_rfl) (by kernel_rfl) rfl ?_
 simp[Tryz.f138,fDb]
 refine .of (tailOkS_ok t o0.2.1 b1 b2 o0.2.2.1.2 b3) ?_
 simp
 refine ⟨fun h=> ?_,fun h1 h2 h3=> ?_⟩
 ·rw[hE,if_neg (by
   rintro ⟨g1,g2,g3⟩
   have:=hbd g1
   rw[wrapI (by omega) (by omega)] at h
   rcases h with (h|h)|h
   ·rw[g1] at h;cases h
   ·omega
   ·omega)]
  simp[dDb,dCat]
 ·have h4:=hbd h1
  rw[wrapI (by omega) (by omega)] at h3
  rw[wrapI (i:=n-t.fBase) (by omega) (by omega)]
  have h5:=tail_dbOk h1
  have hm1:(t.fRecs.take (n-t.fBase).toNat).map eRec=(t.fRecs.map eRec).take (n-t.fBase).toNat:=List.map_take ..
  have hp:=l13Play_ok t.fDb (t.fRecs.take (n-t.fBase).toNat) h5 (by simp;omega) (fun r hr=>o0.2.2.1.2 r (List.mem_of_mem_take hr)) (fun r hr=>b3 r (List.mem_of_mem_take hr))
  unfold vRecS at hp
  rw[hm1] at hp
  obtain ⟨D,hD,hDo⟩:=tail_play h1 (k:=(n-t.fBase).toNat) (by omega)
  rw[hE,if_pos ⟨h1,h2,h3⟩]
  rw[hD] at hp⊢
  refine ⟨by omega,.of hp ?_⟩
  simp[fDb]
end Go.Proofs.YteeolohhmfjafaaGreat
