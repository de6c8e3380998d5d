import Derived.Test.YteeolohhmfjafaaGreatG8
import Derived.Test.YteeolohhmfjafaaGreatG5
import Derived.Test.YteeolohhmfjafaaGreatG6
set_option maxHeartbeats 8000000
set_option maxRecDepth 8000
namespace Go.Proofs.YteeolohhmfjafaaGreat
open Go Go.Proofs Go.Sm
attribute [local simp] ti eStr eInt eByte eVal cVal vVal eValS vValS eRow cRow vRow eCol cCol vCol vColS eStrS vStrS eDdl cDdl vDdl cStmt vStmt ePart vPart vPartS eTable cTable vTable vTableS cCat vCat vRowS eRows vRows vRowsS eDb cDb vDb eFol vFol eSnap cSnap vSnap
set_option linter.unusedVariables false
set_option linter.unusedSimpArgs false
set_option maxRecDepth 8000
theorem takePartS_ok (d:GDb) (p:GPart) (hd:okDb d) (hk: ∀t∈d.fCat.fTables,t.fKeys.length≤1048576) (hp:okPart p) (hb:bdStmt p.fStmt) (h1:bdStrs p.fCols) (h2:bdStrs p.fKeys):
  VC Tryz.prog 145 [vDb d,vPart p] [(true,fDb (takePart d p).1),(false,[(.s,.sc (.int .i64 (takePart d p).2))])]:=by
 have hE:takePart d p=if dbOk d=false∨stmtOk p.fStmt=false then (dDb,1) else takeP d p:=rfl
 have hP:takeP d p=if p.fStmt.fKind=5 then takeDdl d p.fStmt else if (mapStP d p).2≠0 then (dDb,(mapStP d p).2) else dbExec d (mapStP d p).1:=rfl
 have hM:mapStmt d p=if dbOk d=false∨stmtOk p.fStmt=false then (dStmt,1) else mapStP d p:=rfl
 refine vc_of_ewF good hm [0,1,2,3,4,5,11,20,6,7,35] Tryz.func145 rfl (by kernel_rfl) (by kernel_rfl) rfl ?_
 simp[Tryz.f145,fDb]
 refine ⟨fun k5=> .of (dbOkS_ok d hd hk) ?_,fun k5=> .of ((mapStmtS_ok d p hd hk hp hb h1 h2).frz (by simp[FullRs,FullML,mStmt])) ?_⟩
 ·rw[if_pos k5] at hP
  simp
  have hso:=stmtOkS_ok p.fStmt hp.1
  refine .of (fun g=>⟨g,hso⟩) ?_
  simp
  refine ⟨fun h=>by rw[hE,if_pos h];simp[dDb,dCat],fun a1 a2=> ?_⟩
  have hl:=l11Ddl_ok d p.fStmt a1 a2 k5
  refine .of hl ?_
  rw[hE,if_neg (by simp[a1,a2]),hP]
  simp[fDb]
 ·rw[if_neg k5] at hP
  simp[mStmt]
  by_cases a:dbOk d=false∨stmtOk p.fStmt=false
  ·rw[if_pos a] at hM hE
   rw[hM,hE]
   simp[dDb,dCat]
  ·rw[if_neg a] at hM hE
   rw[hM,hE,hP]
   have a1:dbOk d=true:=by cases h:dbOk d<;>simp_all
   have a2:stmtOk p.fStmt=true:=by cases h:stmtOk p.fStmt<;>simp_all
   refine ⟨fun h=>by rw[if_pos h];simp[dDb,dCat],fun h=> .of (l11Exec_ok d (mapStP d p).1 a1 (mapStP_ok a1 a2 h)) ?_⟩
   rw[if_neg (by simp[h])]
   simp[fDb,-OwRs,-OwML]
theorem dbOk_d:dbOk dDb=true:=dbOk_nil
end Go.Proofs.YteeolohhmfjafaaGreat
namespace Go.Proofs.YteeolohhmfjafaaGreat
open Go Go.Proofs Go.Sm
attribute [local simp] ti eStr eInt eByte eVal cVal vVal eValS vValS eRow cRow vRow eCol cCol vCol vColS eStrS vStrS eDdl cDdl vDdl cStmt vStmt ePart vPart vPartS eTable cTable vTable vTableS cCat vCat vRowS eRows vRows vRowsS eDb cDb vDb eFol vFol eSnap cSnap vSnap
set_option linter.unusedVariables false
set_option linter.unusedSimpArgs false
set_option maxRecDepth 8000
def fFol (f:GFol):ML:= [(Md.s,Lf.ls [Lf.sc (Value.string ⟨#[]⟩),Lf.ls [Lf.sc (Value.string ⟨#[]⟩),Lf.sc (Value.int IntKind.i64 0),Lf.sc (Value.bool false),Lf.sc (Value.bool false),Lf.sc (Value.int IntKind.i64 0),Lf.sc (Value.int IntKind.i64 0),Lf.sc (Value.string ⟨#[]⟩)] [],Lf.ls [Lf.sc (Value.string ⟨#[]⟩)] []] (f.fDb.fCat.fTables.map eTable)),(Md.s,Lf.ls [Lf.ls [Lf.ls [Lf.sc (Value.int IntKind.i64 0),Lf.sc (Value.int IntKind.i64 0),Lf.sc (Value.string ⟨#[]⟩)] []] []] (f.fDb.fData.map eRows)),(.s,.sc (.int .i64 f.fAt)),(.s,.sc (.int .i64 f.fHalt))]
theorem folOk_db {f:GFol} (h:folOk f=true):dbOk f.fDb=true:=by
 simp only[folOk,Bool.and_eq_true] at h
 exact h.1
theorem folKey {f:GFol} (hs: ∀n∈wFol f,n≤1048576): ∀t∈f.fDb.fCat.fTables,t.fKeys.length≤1048576:=folB hs
theorem fol_r0 {f:GFol} (h:dbOk f.fDb=true):(∀n∈wFol f,n≤1048576)∧(wFol f).sum≤1099511627776:=of_sum (by
 have:=db_w h
 simp only[wFol,List.sum_append,List.append_nil]
 omega)
end Go.Proofs.YteeolohhmfjafaaGreat
namespace Go.Proofs.YteeolohhmfjafaaGreat
open Go Go.Proofs Go.Sm
attribute [local simp] ti eStr eInt eByte eVal cVal vVal eValS vValS eRow cRow vRow eCol cCol vCol vColS eStrS vStrS eDdl cDdl vDdl cStmt vStmt ePart vPart vPartS eTable cTable vTable vTableS cCat vCat vRowS eRows vRows vRowsS eDb cDb vDb eFol vFol eSnap cSnap vSnap
set_option linter.unusedVariables false
set_option linter.unusedSimpArgs false
set_option maxRecDepth 8000
def cntTo (l:List GRows):Nat→Int
 |0=>0
 |i+1=>cntTo l i+((l[i]?.getD dRows).fRows.length:Int)
def countM (d:GDb):Int:=if dbOk d=true then cntTo d.fData d.fData.length else-1
theorem cntTo_bd {d:GDb} (h:dbOk d=true): ∀i,i≤d.fData.length→0≤cntTo d.fData i∧cntTo d.fData i≤60* (i:Int)
 |0,_=>⟨(by decide:(0:Int)≤0),(by decide:(0:Int)≤60* ((0:Nat):Int))⟩
 |i+1,hi=>by
  have h1:=cntTo_bd h i (by omega)
  have hl:=dbOk_len h
  have h2:=((dbOk_iff d).1 h).2.2 i (by omega)
  have h3:=((rowsOk_iff _ _).1 h2).2.1
  simp only[cntTo]
  omega
theorem countI_ok (d:GDb) (hd:okDb d) (hk: ∀t∈d.fCat.fTables,t.fKeys.length≤1048576):VC Tryz.prog 148 [vDb d] [(false,[(.s,.sc (.int .i64 (countM d)))])]:=by
 have hE:countM d=if dbOk d=true then cntTo d.fData d.fData.length else-1:=rfl
 refine vc_of_ew good hm [0,1,2,8,3,10,11,12,13,5] Tryz.func148 rfl (by kernel_rfl) (by kernel_rfl) rfl ?_
 simp[Tryz.f148]
 refine .of (dbOkI_ok d hd hk) ?_
 simp
 refine ⟨fun h=>by rw[hE,if_neg (by simp[h])],fun h=> ?_⟩
 rw[if_pos h] at hE
 have hl:=dbOk_len h
 have hl6:=(catOk_ok (dbOk_cat h)).2.1
 refine ew_loop (fun E=> ∃i:Nat,i≤d.fData.length∧E= {nt:=23,sl:= [(3,int .i64 (cntTo d.fData i)),(10,vRowsS d.fData),(11,int .i64 d.fData.length),(12,int .i64 i)],bx:= [],rt:= []}) (fun E=>d.fData.length- (E.num 12).toNat) _ (Gh.kb _ [3,10,11,12] [] []) ⟨0,by omega,by simp[cntTo]⟩ ?_
 rintro E1 ⟨i,hi,rfl⟩
 have hb:=fun h'=>cntTo_bd h (i+1) h'
 have hs:cntTo d.fData (i+1)=cntTo d.fData i+((d.fData[i]?.getD dRows).fRows.length:Int):=rfl
 simp
 refine ⟨fun h'=>⟨h',.of _ (Gh.kb _ [3,10,11,12] [] []) ⟨i+1,by omega, ?_⟩ ?_⟩,fun h'=> ?_⟩
 ·rw[←hs,wrapI (by have:=hb h';omega) (by have:=hb h';omega)]
  simp[wrapS (show i<9223372036854775807 by omega)]
 ·simp[wrapS (show i<9223372036854775807 by omega)];omega
 ·have:i=d.fData.length:=by omega
  subst this
  rw[hE]
theorem countS_ok (d:GDb) (hd:okDb d) (hk: ∀t∈d.fCat.fTables,t.fKeys.length≤1048576):VC Tryz.prog 142 [vDb d] [(false,[(.s,.sc (.int .i64 (countM d)))])]:=by
 have hE:countM d=if dbOk d=true then cntTo d.fData d.fData.length else-1:=rfl
 refine vc_of_ew good hm [0,1,2,8,3,10,11,12,13,5] Tryz.func142 rfl (by kernel_rfl) (by kernel_rfl) rfl ?_
 simp[Tryz.f142]
 refine .of (dbOkS_ok d hd hk) ?_
 simp
 refine ⟨fun h=>by rw[hE,if_neg (by simp[h])],fun h=> ?_⟩
 rw[if_pos h] at hE
 have hl:=dbOk_len h
 have hl6:=(catOk_ok (dbOk_cat h)).2.1
 refine ew_loop (fun E=> ∃i:Nat,i≤d.fData.length∧E= {nt:=23,sl:= [(3,int .i64 (cntTo d.fData i)),(10,vRowsS d.fData),(11,int .i64 d.fData.length),(12,int .i64 i)],bx:= [],rt:= []}) (fun E=>d.fData.length- (E.num 12).toNat) _ (Gh.kb _ [3,10,11,12] [] []) ⟨0,by omega,by simp[cntTo]⟩ ?_
 rintro E1 ⟨i,hi,rfl⟩
 have hb:=fun h'=>cntTo_bd h (i+1) h'
 have hs:cntTo d.fData (i+1)=cntTo d.fData i+((d.fData[i]?.getD dRows).fRows.length:Int):=rfl
 simp
 refine ⟨fun h'=>⟨h',.of _ (Gh.kb _ [3,10,11,12] [] []) ⟨i+1,by omega, ?_⟩ ?_⟩,fun h'=> ?_⟩
 ·rw[←hs,wrapI (by have:=hb h';omega) (by have:=hb h';omega)]
  simp[wrapS (show i<9223372036854775807 by omega)]
 ·simp[wrapS (show i<9223372036854775807 by omega)];omega
 ·have:i=d.fData.length:=by omega
  subst this
  rw[hE]
end Go.Proofs.YteeolohhmfjafaaGreat
namespace Go.Proofs.YteeolohhmfjafaaGreat
open Go Go.Proofs Go.Sm
attribute [local simp] ti eStr eInt eByte eVal cVal vVal eValS vValS eRow cRow vRow eCol cCol vCol vColS eStrS vStrS eDdl cDdl vDdl cStmt vStmt ePart vPart vPartS eTable cTable vTable vTableS cCat vCat vRowS eRows vRows vRowsS eDb cDb vDb eFol vFol eSnap cSnap vSnap
set_option linter.unusedVariables false
set_option linter.unusedSimpArgs false
set_option maxRecDepth 8000
def tx (s:ByteArray):List UInt8:=s.data.toList
@[simp] theorem tx_mk (a:Array UInt8):tx ⟨a⟩=a.toList:=rfl
@[simp] theorem tx_app (a b:ByteArray):tx (a++b)=tx a++tx b:=by simp[tx]
end Go.Proofs.YteeolohhmfjafaaGreat
namespace Go.Proofs.YteeolohhmfjafaaGreat
open Go Go.Proofs Go.Sm
attribute [local simp] ti eStr eInt eByte eVal cVal vVal eValS vValS eRow cRow vRow eCol cCol vCol vColS eStrS vStrS eDdl cDdl vDdl cStmt vStmt ePart vPart vPartS eTable cTable vTable vTableS cCat vCat vRowS eRows vRows vRowsS eDb cDb vDb eFol vFol eSnap cSnap vSnap
set_option linter.unusedVariables false
set_option linter.unusedSimpArgs false
set_option maxRecDepth 8000
end Go.Proofs.YteeolohhmfjafaaGreat
namespace Go.Proofs.YteeolohhmfjafaaGreat
open Go Go.Proofs Go.Sm
attribute [local simp] ti eStr eInt eByte eVal cVal vVal eValS vValS eRow cRow vRow eCol cCol vCol vColS eStrS vStrS eDdl cDdl vDdl cStmt vStmt ePart vPart vPartS eTable cTable vTable vTableS cCat vCat vRowS eRows vRows vRowsS eDb cDb vDb eFol vFol eSnap cSnap vSnap
set_option linter.unusedVariables false
set_option linter.unusedSimpArgs false
set_option maxRecDepth 8000
end Go.Proofs.YteeolohhmfjafaaGreat
namespace Go.Proofs.YteeolohhmfjafaaGreat
open Go Go.Proofs Go.Sm
attribute [local simp] ti eStr eInt eByte eVal cVal vVal eValS vValS eRow cRow vRow eCol cCol vCol vColS eStrS vStrS eDdl cDdl vDdl cStmt vStmt ePart vPart vPartS eTable cTable vTable vTableS cCat vCat vRowS eRows vRows vRowsS eDb cDb vDb eFol vFol eSnap cSnap vSnap
set_option linter.unusedVariables false
set_option linter.unusedSimpArgs false
set_option maxRecDepth 8000
def bdD (d:GDdl):Prop:=d.fTable.size≤1048576∧d.fName.size≤1048576∧d.fTo.size≤1048576∧d.fKeys.length≤1048576∧(∀k∈d.fKeys,k.size≤1048576)∧d.fCols.length≤1048576
end Go.Proofs.YteeolohhmfjafaaGreat
namespace Go.Proofs.YteeolohhmfjafaaGreat
open Go Go.Proofs Go.Sm
attribute [local simp] ti eStr eInt eByte eVal cVal vVal eValS vValS eRow cRow vRow eCol cCol vCol vColS eStrS vStrS eDdl cDdl vDdl cStmt vStmt ePart vPart vPartS eTable cTable vTable vTableS cCat vCat vRowS eRows vRows vRowsS eDb cDb vDb eFol vFol eSnap cSnap vSnap
set_option linter.unusedVariables false
set_option linter.unusedSimpArgs false
set_option maxRecDepth 8000
end Go.Proofs.YteeolohhmfjafaaGreat
namespace Go.Proofs.YteeolohhmfjafaaGreat
open Go Go.Proofs Go.Sm
attribute [local simp] ti eStr eInt eByte eVal cVal vVal eValS vValS eRow cRow vRow eCol cCol vCol vColS eStrS vStrS eDdl cDdl vDdl cStmt vStmt ePart vPart vPartS eTable cTable vTable vTableS cCat vCat vRowS eRows vRows vRowsS eDb cDb vDb eFol vFol eSnap cSnap vSnap
set_option linter.unusedVariables false
set_option linter.unusedSimpArgs false
set_option maxRecDepth 8000
theorem bdD_of {d:GDdl} (hs: ∀n∈wDdl d,n≤1048576):bdD d:=by
 simp only[wDdl,wColS,wStrS,List.mem_cons,List.mem_append,List.not_mem_nil,or_false] at hs
 refine ⟨hs _ (.inl rfl),hs _ (.inr (.inr (.inr (.inl rfl)))),hs _ (.inr (.inr (.inr (.inr rfl)))),hs _ (.inr (.inr (.inl (.inl rfl)))),fun k hk=>hs _ (.inr (.inr (.inl (.inr (List.mem_flatMap.2 ⟨k,hk,by simp[wStr]⟩))))),hs _ (.inr (.inl (.inl rfl)))⟩
end Go.Proofs.YteeolohhmfjafaaGreat
namespace Go.Proofs.YteeolohhmfjafaaGreat
open Go Go.Proofs Go.Sm
attribute [local simp] ti eStr eInt eByte eVal cVal vVal eValS vValS eRow cRow vRow eCol cCol vCol vColS eStrS vStrS eDdl cDdl vDdl cStmt vStmt ePart vPart vPartS eTable cTable vTable vTableS cCat vCat vRowS eRows vRows vRowsS eDb cDb vDb eFol vFol eSnap cSnap vSnap
set_option linter.unusedVariables false
set_option linter.unusedSimpArgs false
set_option maxRecDepth 8000
def crD (t:GTable):GDdl:=⟨1,t.fName,t.fCols,t.fKeys,⟨#[]⟩,⟨#[]⟩⟩
def insS (t:GTable) (r:GRow):GStmt:=⟨1,t.fName,[],r,⟨0,⟨#[]⟩,[],[],⟨#[]⟩,⟨#[]⟩⟩⟩
def bdT (t:GTable):Prop:= ∀n∈wTable t,n≤1048576
theorem bdD_cr {t:GTable} (h:bdT t):bdD (crD t):=by
 refine bdD_of fun n hn=> ?_
 simp only[wDdl,crD,List.mem_cons,List.mem_append,List.not_mem_nil,or_false] at hn
 rcases hn with rfl|hn|hn|rfl|rfl
 ·exact h _ (by simp[wTable])
 ·exact h _ (by simp[wTable,hn])
 ·exact h _ (by simp[wTable,hn])
 ·decide
 ·decide
theorem creates_ok (t:GTable) (h:bdD (crD t)):VC Tryz.prog 149 [vTable t] [(true,mDdl (crD t))]:=by
 refine vc_of_ew good hm [0,1,2,3] Tryz.func149 rfl (by kernel_rfl) (by kernel_rfl) rfl ?_
 simp[Tryz.f149,mDdl]
 refine .of (copyTable_ok t h.2.2.2.2.2 h.2.2.2.1) ?_
 simp[mTable,md,lf,List.range',crD]
end Go.Proofs.YteeolohhmfjafaaGreat
namespace Go.Proofs.YteeolohhmfjafaaGreat
open Go Go.Proofs Go.Sm
attribute [local simp] ti eStr eInt eByte eVal cVal vVal eValS vValS eRow cRow vRow eCol cCol vCol vColS eStrS vStrS eDdl cDdl vDdl cStmt vStmt ePart vPart vPartS eTable cTable vTable vTableS cCat vCat vRowS eRows vRows vRowsS eDb cDb vDb eFol vFol eSnap cSnap vSnap
set_option linter.unusedVariables false
set_option linter.unusedSimpArgs false
set_option maxRecDepth 8000
end Go.Proofs.YteeolohhmfjafaaGreat
namespace Go.Proofs.YteeolohhmfjafaaGreat
open Go Go.Proofs Go.Sm
attribute [local simp] ti eStr eInt eByte eVal cVal vVal eValS vValS eRow cRow vRow eCol cCol vCol vColS eStrS vStrS eDdl cDdl vDdl cStmt vStmt ePart vPart vPartS eTable cTable vTable vTableS cCat vCat vRowS eRows vRows vRowsS eDb cDb vDb eFol vFol eSnap cSnap vSnap
set_option linter.unusedVariables false
set_option linter.unusedSimpArgs false
set_option maxRecDepth 8000
def snapOk (s:GSnap):Bool:=within s.fLsn 0 400&&dbOk s.fDb
theorem l12Ok_ok (s:GSnap) (o0:okDb s.fDb) (hk: ∀x∈s.fDb.fCat.fTables,x.fKeys.length≤1048576):VC Tryz.prog 141 [vSnap s] [(false,[(.s,.sc (.bool (snapOk s)))])]:=by
 refine vc_of_ew good hm [0,1,2] Tryz.func141 rfl (by kernel_rfl) (by kernel_rfl) rfl ?_
 simp[Tryz.f141]
 refine .of (fun h=>⟨h,dbOkS_ok s.fDb o0 hk⟩) ?_
 simp
 grind[snapOk,within]
theorem snapOk_ok (s:GSnap) (o0:okDb s.fDb) (hk: ∀x∈s.fDb.fCat.fTables,x.fKeys.length≤1048576):VC Tryz.prog 147 [vSnap s] [(false,[(.s,.sc (.bool (snapOk s)))])]:=by
 refine vc_of_ew good hm [0,1,2] Tryz.func147 rfl (by kernel_rfl) (by kernel_rfl) rfl ?_
 simp[Tryz.f147]
 refine .of (within_ok _ _ _) ?_
 simp
 refine .of (fun h=>⟨h,dbOkI_ok s.fDb o0 hk⟩) ?_
 simp
 grind[snapOk,within]
theorem snapB {f:GSnap} (hs: ∀n∈wSnap f,n≤1048576): ∀t∈f.fDb.fCat.fTables,t.fKeys.length≤1048576:=fun t ht=>hs _ (by
 simp only[wSnap,wDb,wCat,wTableS,List.append_nil]
 refine List.mem_append_left _ (List.mem_cons_of_mem _ (List.mem_flatMap.2 ⟨t,ht, ?_⟩))
 simp[wTable,wStrS])
end Go.Proofs.YteeolohhmfjafaaGreat
namespace Go.Proofs.YteeolohhmfjafaaGreat
open Go Go.Proofs Go.Sm
attribute [local simp] ti eStr eInt eByte eVal cVal vVal eValS vValS eRow cRow vRow eCol cCol vCol vColS eStrS vStrS eDdl cDdl vDdl cStmt vStmt ePart vPart vPartS eTable cTable vTable vTableS cCat vCat vRowS eRows vRows vRowsS eDb cDb vDb eFol vFol eSnap cSnap vSnap
set_option linter.unusedVariables false
set_option linter.unusedSimpArgs false
set_option maxRecDepth 8000
end Go.Proofs.YteeolohhmfjafaaGreat
namespace Go.Proofs.YteeolohhmfjafaaGreat
open Go Go.Proofs Go.Sm
attribute [local simp] ti eStr eInt eByte eVal cVal vVal eValS vValS eRow cRow vRow eCol cCol vCol vColS eStrS vStrS eDdl cDdl vDdl cStmt vStmt ePart vPart vPartS eTable cTable vTable vTableS cCat vCat vRowS eRows vRows vRowsS eDb cDb vDb eFol vFol eSnap cSnap vSnap
set_option linter.unusedVariables false
set_option linter.unusedSimpArgs false
set_option maxRecDepth 8000
end Go.Proofs.YteeolohhmfjafaaGreat
