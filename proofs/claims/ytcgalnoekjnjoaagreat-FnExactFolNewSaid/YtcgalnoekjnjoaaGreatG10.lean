import Derived.Test.YtcgalnoekjnjoaaGreatG9
import Derived.Test.YtcgalnoekjnjoaaGreatG7
import Derived.Test.YtcgalnoekjnjoaaGreatG8
import Derived.Test.YtcgalnoekjnjoaaGreatG6
set_option maxHeartbeats 8000000
set_option maxRecDepth 8000
namespace Go.Proofs.YtcgalnoekjnjoaaGreat
open Go Go.Proofs Go.Sm
attribute [local simp] ti eStr eInt eByte eVal vVal eValS vValS eRow cRow vRow eCol vCol vColS vStrS eDdl cDdl vDdl eStmt cStmt vStmt ePart vPart vPartS eTable cTable vTable vTableS cCat vCat vRowS eRows vRows vRowsS eDb cDb vDb vFol eRec vRec vRecS eTail vTail eStmtS vStmtS
set_option linter.unusedVariables false
set_option linter.unusedSimpArgs false
set_option maxRecDepth 8000
end Go.Proofs.YtcgalnoekjnjoaaGreat
namespace Go.Proofs.YtcgalnoekjnjoaaGreat
open Go Go.Proofs Go.Sm
attribute [local simp] ti eStr eInt eByte eVal vVal eValS vValS eRow cRow vRow eCol vCol vColS vStrS eDdl cDdl vDdl eStmt cStmt vStmt ePart vPart vPartS eTable cTable vTable vTableS cCat vCat vRowS eRows vRows vRowsS eDb cDb vDb vFol eRec vRec vRecS eTail vTail eStmtS vStmtS
set_option linter.unusedVariables false
set_option linter.unusedSimpArgs false
set_option maxRecDepth 8000
theorem dbKey {d:GDb} (hs: ∀n∈wDb d,n≤1048576): ∀t∈d.fCat.fTables,t.fKeys.length≤1048576:=fun t ht=>(dbB hs t ht).2
end Go.Proofs.YtcgalnoekjnjoaaGreat
namespace Go.Proofs.YtcgalnoekjnjoaaGreat
open Go Go.Proofs Go.Sm
attribute [local simp] ti eStr eInt eByte eVal vVal eValS vValS eRow cRow vRow eCol vCol vColS vStrS eDdl cDdl vDdl eStmt cStmt vStmt ePart vPart vPartS eTable cTable vTable vTableS cCat vCat vRowS eRows vRows vRowsS eDb cDb vDb vFol eRec vRec vRecS eTail vTail eStmtS vStmtS
set_option linter.unusedVariables false
set_option linter.unusedSimpArgs false
set_option maxRecDepth 8000
end Go.Proofs.YtcgalnoekjnjoaaGreat
namespace Go.Proofs.YtcgalnoekjnjoaaGreat
open Go Go.Proofs Go.Sm
attribute [local simp] ti eStr eInt eByte eVal vVal eValS vValS eRow cRow vRow eCol vCol vColS vStrS eDdl cDdl vDdl eStmt cStmt vStmt ePart vPart vPartS eTable cTable vTable vTableS cCat vCat vRowS eRows vRows vRowsS eDb cDb vDb vFol eRec vRec vRecS eTail vTail eStmtS vStmtS
set_option linter.unusedVariables false
set_option linter.unusedSimpArgs false
set_option maxRecDepth 8000
end Go.Proofs.YtcgalnoekjnjoaaGreat
namespace Go.Proofs.YtcgalnoekjnjoaaGreat
open Go Go.Proofs Go.Sm
attribute [local simp] ti eStr eInt eByte eVal vVal eValS vValS eRow cRow vRow eCol vCol vColS vStrS eDdl cDdl vDdl eStmt cStmt vStmt ePart vPart vPartS eTable cTable vTable vTableS cCat vCat vRowS eRows vRows vRowsS eDb cDb vDb vFol eRec vRec vRecS eTail vTail eStmtS vStmtS
set_option linter.unusedVariables false
set_option linter.unusedSimpArgs false
set_option maxRecDepth 8000
theorem dbOk_d:dbOk dDb=true:=dbOk_nil
end Go.Proofs.YtcgalnoekjnjoaaGreat
namespace Go.Proofs.YtcgalnoekjnjoaaGreat
open Go Go.Proofs Go.Sm
attribute [local simp] ti eStr eInt eByte eVal vVal eValS vValS eRow cRow vRow eCol vCol vColS vStrS eDdl cDdl vDdl eStmt cStmt vStmt ePart vPart vPartS eTable cTable vTable vTableS cCat vCat vRowS eRows vRows vRowsS eDb cDb vDb vFol eRec vRec vRecS eTail vTail eStmtS vStmtS
set_option linter.unusedVariables false
set_option linter.unusedSimpArgs false
set_option maxRecDepth 8000
theorem fol_r0 {f:GFol} (h:dbOk f.fDb=true):(∀n∈wFol f,n≤1048576)∧(wFol f).sum≤1099511627776:=of_sum (by
 have:=db_w h
 simp only[wFol,List.sum_append,List.append_nil]
 omega)
end Go.Proofs.YtcgalnoekjnjoaaGreat
namespace Go.Proofs.YtcgalnoekjnjoaaGreat
open Go Go.Proofs Go.Sm
attribute [local simp] ti eStr eInt eByte eVal vVal eValS vValS eRow cRow vRow eCol vCol vColS vStrS eDdl cDdl vDdl eStmt cStmt vStmt ePart vPart vPartS eTable cTable vTable vTableS cCat vCat vRowS eRows vRows vRowsS eDb cDb vDb vFol eRec vRec vRecS eTail vTail eStmtS vStmtS
set_option linter.unusedVariables false
set_option linter.unusedSimpArgs false
set_option maxRecDepth 8000
def cntTo (l:List GRows):Nat→Int
 |0=>0
 |i+1=>cntTo l i+((l[i]?.getD dRows).fRows.length:Int)
def countM (d:GDb):Int:=if dbOk d=true then cntTo d.fData d.fData.length else-1
theorem cntTo_bd {d:GDb} (h:dbOk d=true): ∀i,i≤d.fData.length→0≤cntTo d.fData i∧cntTo d.fData i≤60* (i:Int)
 |0,_=>⟨(by decide:(0:Int)≤0),(by decide:(0:Int)≤60* ((0:Nat):Int))⟩
 |i+1,hi=>by
  have h1:=cntTo_bd h i (by omega)
  have hl:=dbOk_len h
  have h2:=((dbOk_iff d).1 h).2.2 i (by omega)
  have h3:=((rowsOk_iff _ _).1 h2).2.1
  simp only[cntTo]
  omega
theorem countI_ok (d:GDb) (hd:okDb d) (hk: ∀t∈d.fCat.fTables,t.fKeys.length≤1048576):VC Tryz.prog 146 [vDb d] [(false,[(.s,.sc (.int .i64 (countM d)))])]:=by
 have hE:countM d=if dbOk d=true then cntTo d.fData d.fData.length else-1:=rfl
 refine vc_of_ew good hm [0,1,2,8,3,10,11,12,13,5] Tryz.func146 rfl (by kernel_rfl) (by kernel_rfl) rfl ?_
 simp[Tryz.f146]
 refine .of (dbOkI_ok d hd hk) ?_
 simp
 refine ⟨fun h=>by rw[hE,if_neg (by simp[h])],fun h=> ?_⟩
 rw[if_pos h] at hE
 have hl:=dbOk_len h
 have hl6:=(catOk_ok (dbOk_cat h)).2.1
 refine ew_loop (fun E=> ∃i:Nat,i≤d.fData.length∧E= {nt:=23,sl:= [(3,int .i64 (cntTo d.fData i)),(10,vRowsS d.fData),(11,int .i64 d.fData.length),(12,int .i64 i)],bx:= [],rt:= []}) (fun E=>d.fData.length- (E.num 12).toNat) _ (Gh.kb _ [3,10,11,12] [] []) ⟨0,by omega,by simp[cntTo]⟩ ?_
 rintro E1 ⟨i,hi,rfl⟩
 have hb:=fun h'=>cntTo_bd h (i+1) h'
 have hs:cntTo d.fData (i+1)=cntTo d.fData i+((d.fData[i]?.getD dRows).fRows.length:Int):=rfl
 simp
 refine ⟨fun h'=>⟨h',.of _ (Gh.kb _ [3,10,11,12] [] []) ⟨i+1,by omega, ?_⟩ ?_⟩,fun h'=> ?_⟩
 ·rw[←hs,wrapI (by have:=hb h';omega) (by have:=hb h';omega)]
  simp[wrapS (show i<9223372036854775807 by omega)]
 ·simp[wrapS (show i<9223372036854775807 by omega)];omega
 ·have:i=d.fData.length:=by omega
  subst this
  rw[hE]
theorem countS_ok (d:GDb) (hd:okDb d) (hk: ∀t∈d.fCat.fTables,t.fKeys.length≤1048576):VC Tryz.prog 144 [vDb d] [(false,[(.s,.sc (.int .i64 (countM d)))])]:=by
 have hE:countM d=if dbOk d=true then cntTo d.fData d.fData.length else-1:=rfl
 refine vc_of_ew good hm [0,1,2,8,3,10,11,12,13,5] Tryz.func144 rfl (by kernel_rfl) (by kernel_rfl) rfl ?_
 simp[Tryz.f144]
 refine .of (dbOkS_ok d hd hk) ?_
 simp
 refine ⟨fun h=>by rw[hE,if_neg (by simp[h])],fun h=> ?_⟩
 rw[if_pos h] at hE
 have hl:=dbOk_len h
 have hl6:=(catOk_ok (dbOk_cat h)).2.1
 refine ew_loop (fun E=> ∃i:Nat,i≤d.fData.length∧E= {nt:=23,sl:= [(3,int .i64 (cntTo d.fData i)),(10,vRowsS d.fData),(11,int .i64 d.fData.length),(12,int .i64 i)],bx:= [],rt:= []}) (fun E=>d.fData.length- (E.num 12).toNat) _ (Gh.kb _ [3,10,11,12] [] []) ⟨0,by omega,by simp[cntTo]⟩ ?_
 rintro E1 ⟨i,hi,rfl⟩
 have hb:=fun h'=>cntTo_bd h (i+1) h'
 have hs:cntTo d.fData (i+1)=cntTo d.fData i+((d.fData[i]?.getD dRows).fRows.length:Int):=rfl
 simp
 refine ⟨fun h'=>⟨h',.of _ (Gh.kb _ [3,10,11,12] [] []) ⟨i+1,by omega, ?_⟩ ?_⟩,fun h'=> ?_⟩
 ·rw[←hs,wrapI (by have:=hb h';omega) (by have:=hb h';omega)]
  simp[wrapS (show i<9223372036854775807 by omega)]
 ·simp[wrapS (show i<9223372036854775807 by omega)];omega
 ·have:i=d.fData.length:=by omega
  subst this
  rw[hE]
def folNew (d:GDb):GFol×Bool:=if countM d≠0 then (dFol,false) else (⟨d,0,0⟩,true)
theorem count_ok {d:GDb} (h:countM d=0):dbOk d=true:=by
 unfold countM at h
 split at h
 ·assumption
 ·cases h
theorem I_FolNew_ok (d:GDb) (o0:okDb d) (hs0: ∀n∈wDb d,n≤1048576) (_:(wDb d).sum≤1048576):VC Tryz.prog 44 [vDb d] [(true,mFol (folNew d).1),(false,[(.s,.sc (.bool (folNew d).2))])]:=by
 have hE:folNew d=if countM d≠0 then (dFol,false) else (⟨d,0,0⟩,true):=rfl
 refine vc_of_ew good hm [0,1,2,3,6] Tryz.func44 rfl (by kernel_rfl) (by kernel_rfl) rfl ?_
 simp[Tryz.f44,mFol]
 refine .of (countI_ok d o0 (dbKey hs0)) ?_
 simp
 refine ⟨fun h=>by rw[hE,if_pos h];simp[dFol,dDb,dCat],fun h=> .of (copyDb_ok d (dbOk_bd (count_ok h))) ?_⟩
 rw[hE,if_neg (by simp[h])]
 simp[mDb]
theorem S_FolNew_ok (d:GDb) (o0:okDb d) (hs0: ∀n∈wDb d,n≤1048576) (_:(wDb d).sum≤1048576):VC Tryz.prog 43 [vDb d] [(true,mFol (folNew d).1),(false,[(.s,.sc (.bool (folNew d).2))])]:=by
 have hE:folNew d=if countM d≠0 then (dFol,false) else (⟨d,0,0⟩,true):=rfl
 refine vc_of_ew good hm [0,1,2,3,6] Tryz.func43 rfl (by kernel_rfl) (by kernel_rfl) rfl ?_
 simp[Tryz.f43,mFol]
 refine .of (countS_ok d o0 (dbKey hs0)) ?_
 simp
 refine ⟨fun h=>by rw[hE,if_pos h];simp[dFol,dDb,dCat],fun h=> .of (l04Copy_ok d (dbOk_bd (count_ok h))) ?_⟩
 rw[hE,if_neg (by simp[h])]
 simp[mDb]
theorem FolNew_r0 (d:GDb) (o0:okDb d) (hs0: ∀n∈wDb d,n≤1048576) (_:(wDb d).sum≤1048576):(∀n∈wFol (folNew d).1,n≤1048576)∧(wFol (folNew d).1).sum≤1099511627776:=fol_r0 (by
 unfold folNew
 split
 ·exact dbOk_d
 ·rename_i h
  show dbOk d=true
  exact count_ok (by omega))
end Go.Proofs.YtcgalnoekjnjoaaGreat
namespace Go.Proofs.YtcgalnoekjnjoaaGreat
open Go Go.Proofs Go.Sm
attribute [local simp] ti eStr eInt eByte eVal vVal eValS vValS eRow cRow vRow eCol vCol vColS vStrS eDdl cDdl vDdl eStmt cStmt vStmt ePart vPart vPartS eTable cTable vTable vTableS cCat vCat vRowS eRows vRows vRowsS eDb cDb vDb vFol eRec vRec vRecS eTail vTail eStmtS vStmtS
set_option linter.unusedVariables false
set_option linter.unusedSimpArgs false
set_option maxRecDepth 8000
def logOk (l:List GRec):Bool:=decide (l.length≤400)&& (play dDb l).isSome
def logDb (l:List GRec):GDb:=(play dDb l).getD dDb
def addR (l:List GRec) (r:GRec):List GRec×Int:=
 if logOk l=false∨recOk r=false then ([],1) else if r.fKind=1∧usedX l r.fXid=true then ([],2) else if r.fKind≠1∧hasI (openL l) r.fXid=false then ([],3) else
 if l.length=400 then ([],4) else if r.fKind=3∧(execAll (logDb l) (stmtsOf l r.fXid)).2.1≠0 then ([],5) else (l++ [r],0)
end Go.Proofs.YtcgalnoekjnjoaaGreat
namespace Go.Proofs.YtcgalnoekjnjoaaGreat
open Go Go.Proofs Go.Sm
attribute [local simp] ti eStr eInt eByte eVal vVal eValS vValS eRow cRow vRow eCol vCol vColS vStrS eDdl cDdl vDdl eStmt cStmt vStmt ePart vPart vPartS eTable cTable vTable vTableS cCat vCat vRowS eRows vRows vRowsS eDb cDb vDb vFol eRec vRec vRecS eTail vTail eStmtS vStmtS
set_option linter.unusedVariables false
set_option linter.unusedSimpArgs false
set_option maxRecDepth 8000
end Go.Proofs.YtcgalnoekjnjoaaGreat
namespace Go.Proofs.YtcgalnoekjnjoaaGreat
open Go Go.Proofs Go.Sm
attribute [local simp] ti eStr eInt eByte eVal vVal eValS vValS eRow cRow vRow eCol vCol vColS vStrS eDdl cDdl vDdl eStmt cStmt vStmt ePart vPart vPartS eTable cTable vTable vTableS cCat vCat vRowS eRows vRows vRowsS eDb cDb vDb vFol eRec vRec vRecS eTail vTail eStmtS vStmtS
set_option linter.unusedVariables false
set_option linter.unusedSimpArgs false
set_option maxRecDepth 8000
end Go.Proofs.YtcgalnoekjnjoaaGreat
namespace Go.Proofs.YtcgalnoekjnjoaaGreat
open Go Go.Proofs Go.Sm
attribute [local simp] ti eStr eInt eByte eVal vVal eValS vValS eRow cRow vRow eCol vCol vColS vStrS eDdl cDdl vDdl eStmt cStmt vStmt ePart vPart vPartS eTable cTable vTable vTableS cCat vCat vRowS eRows vRows vRowsS eDb cDb vDb vFol eRec vRec vRecS eTail vTail eStmtS vStmtS
set_option linter.unusedVariables false
set_option linter.unusedSimpArgs false
set_option maxRecDepth 8000
end Go.Proofs.YtcgalnoekjnjoaaGreat
namespace Go.Proofs.YtcgalnoekjnjoaaGreat
open Go Go.Proofs Go.Sm
attribute [local simp] ti eStr eInt eByte eVal vVal eValS vValS eRow cRow vRow eCol vCol vColS vStrS eDdl cDdl vDdl eStmt cStmt vStmt ePart vPart vPartS eTable cTable vTable vTableS cCat vCat vRowS eRows vRows vRowsS eDb cDb vDb vFol eRec vRec vRecS eTail vTail eStmtS vStmtS
set_option linter.unusedVariables false
set_option linter.unusedSimpArgs false
set_option maxRecDepth 8000
end Go.Proofs.YtcgalnoekjnjoaaGreat
namespace Go.Proofs.YtcgalnoekjnjoaaGreat
open Go Go.Proofs Go.Sm
attribute [local simp] ti eStr eInt eByte eVal vVal eValS vValS eRow cRow vRow eCol vCol vColS vStrS eDdl cDdl vDdl eStmt cStmt vStmt ePart vPart vPartS eTable cTable vTable vTableS cCat vCat vRowS eRows vRows vRowsS eDb cDb vDb vFol eRec vRec vRecS eTail vTail eStmtS vStmtS
set_option linter.unusedVariables false
set_option linter.unusedSimpArgs false
set_option maxRecDepth 8000
end Go.Proofs.YtcgalnoekjnjoaaGreat
namespace Go.Proofs.YtcgalnoekjnjoaaGreat
open Go Go.Proofs Go.Sm
attribute [local simp] ti eStr eInt eByte eVal vVal eValS vValS eRow cRow vRow eCol vCol vColS vStrS eDdl cDdl vDdl eStmt cStmt vStmt ePart vPart vPartS eTable cTable vTable vTableS cCat vCat vRowS eRows vRows vRowsS eDb cDb vDb vFol eRec vRec vRecS eTail vTail eStmtS vStmtS
set_option linter.unusedVariables false
set_option linter.unusedSimpArgs false
set_option maxRecDepth 8000
end Go.Proofs.YtcgalnoekjnjoaaGreat
