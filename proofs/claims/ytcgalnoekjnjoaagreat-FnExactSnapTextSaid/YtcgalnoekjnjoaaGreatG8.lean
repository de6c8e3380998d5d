import Derived.Test.YtcgalnoekjnjoaaGreatG7
import Derived.Test.YtcgalnoekjnjoaaGreatG4
import Derived.Test.YtcgalnoekjnjoaaGreatG6
set_option maxHeartbeats 8000000
set_option maxRecDepth 8000
namespace Go.Proofs.YtcgalnoekjnjoaaGreat
open Go Go.Proofs Go.Sm
attribute [local simp] ti eStr eInt eByte eVal cVal vVal eValS vValS eRow cRow vRow eCol vCol vColS eStrS vStrS cDdl vDdl vStmt ePart vPart eTable cTable vTable vTableS cCat vCat vRowS eRows vRows vRowsS eDb cDb vDb eSnap vSnap
set_option linter.unusedVariables false
set_option linter.unusedSimpArgs false
set_option maxRecDepth 8000
def fTable (t:GTable):ML:= [(Md.s,Lf.sc (Value.string t.fName)),(Md.s,Lf.ls [Lf.sc (Value.string ⟨#[]⟩),Lf.sc (Value.int IntKind.i64 0),Lf.sc (Value.bool false),Lf.sc (Value.bool false),Lf.sc (Value.int IntKind.i64 0),Lf.sc (Value.int IntKind.i64 0),Lf.sc (Value.string ⟨#[]⟩)] (t.fCols.map eCol)),(Md.s,Lf.ls [Lf.sc (Value.string ⟨#[]⟩)] (t.fKeys.map eStr))]
end Go.Proofs.YtcgalnoekjnjoaaGreat
namespace Go.Proofs.YtcgalnoekjnjoaaGreat
open Go Go.Proofs Go.Sm
attribute [local simp] ti eStr eInt eByte eVal cVal vVal eValS vValS eRow cRow vRow eCol vCol vColS eStrS vStrS cDdl vDdl vStmt ePart vPart eTable cTable vTable vTableS cCat vCat vRowS eRows vRows vRowsS eDb cDb vDb eSnap vSnap
set_option linter.unusedVariables false
set_option linter.unusedSimpArgs false
set_option maxRecDepth 8000
end Go.Proofs.YtcgalnoekjnjoaaGreat
namespace Go.Proofs.YtcgalnoekjnjoaaGreat
open Go Go.Proofs Go.Sm
attribute [local simp] ti eStr eInt eByte eVal cVal vVal eValS vValS eRow cRow vRow eCol vCol vColS eStrS vStrS cDdl vDdl vStmt ePart vPart eTable cTable vTable vTableS cCat vCat vRowS eRows vRows vRowsS eDb cDb vDb eSnap vSnap
set_option linter.unusedVariables false
set_option linter.unusedSimpArgs false
set_option maxRecDepth 8000
end Go.Proofs.YtcgalnoekjnjoaaGreat
namespace Go.Proofs.YtcgalnoekjnjoaaGreat
open Go Go.Proofs Go.Sm
attribute [local simp] ti eStr eInt eByte eVal cVal vVal eValS vValS eRow cRow vRow eCol vCol vColS eStrS vStrS cDdl vDdl vStmt ePart vPart eTable cTable vTable vTableS cCat vCat vRowS eRows vRows vRowsS eDb cDb vDb eSnap vSnap
set_option linter.unusedVariables false
set_option linter.unusedSimpArgs false
set_option maxRecDepth 8000
end Go.Proofs.YtcgalnoekjnjoaaGreat
namespace Go.Proofs.YtcgalnoekjnjoaaGreat
open Go Go.Proofs Go.Sm
attribute [local simp] ti eStr eInt eByte eVal cVal vVal eValS vValS eRow cRow vRow eCol vCol vColS eStrS vStrS cDdl vDdl vStmt ePart vPart eTable cTable vTable vTableS cCat vCat vRowS eRows vRows vRowsS eDb cDb vDb eSnap vSnap
set_option linter.unusedVariables false
set_option linter.unusedSimpArgs false
set_option maxRecDepth 8000
end Go.Proofs.YtcgalnoekjnjoaaGreat
namespace Go.Proofs.YtcgalnoekjnjoaaGreat
open Go Go.Proofs Go.Sm
attribute [local simp] ti eStr eInt eByte eVal cVal vVal eValS vValS eRow cRow vRow eCol vCol vColS eStrS vStrS cDdl vDdl vStmt ePart vPart eTable cTable vTable vTableS cCat vCat vRowS eRows vRows vRowsS eDb cDb vDb eSnap vSnap
set_option linter.unusedVariables false
set_option linter.unusedSimpArgs false
set_option maxRecDepth 8000
end Go.Proofs.YtcgalnoekjnjoaaGreat
namespace Go.Proofs.YtcgalnoekjnjoaaGreat
open Go Go.Proofs Go.Sm
attribute [local simp] ti eStr eInt eByte eVal cVal vVal eValS vValS eRow cRow vRow eCol vCol vColS eStrS vStrS cDdl vDdl vStmt ePart vPart eTable cTable vTable vTableS cCat vCat vRowS eRows vRows vRowsS eDb cDb vDb eSnap vSnap
set_option linter.unusedVariables false
set_option linter.unusedSimpArgs false
set_option maxRecDepth 8000
end Go.Proofs.YtcgalnoekjnjoaaGreat
namespace Go.Proofs.YtcgalnoekjnjoaaGreat
open Go Go.Proofs Go.Sm
attribute [local simp] ti eStr eInt eByte eVal cVal vVal eValS vValS eRow cRow vRow eCol vCol vColS eStrS vStrS cDdl vDdl vStmt ePart vPart eTable cTable vTable vTableS cCat vCat vRowS eRows vRows vRowsS eDb cDb vDb eSnap vSnap
set_option linter.unusedVariables false
set_option linter.unusedSimpArgs false
set_option maxRecDepth 8000
end Go.Proofs.YtcgalnoekjnjoaaGreat
namespace Go.Proofs.YtcgalnoekjnjoaaGreat
open Go Go.Proofs Go.Sm
attribute [local simp] ti eStr eInt eByte eVal cVal vVal eValS vValS eRow cRow vRow eCol vCol vColS eStrS vStrS cDdl vDdl vStmt ePart vPart eTable cTable vTable vTableS cCat vCat vRowS eRows vRows vRowsS eDb cDb vDb eSnap vSnap
set_option linter.unusedVariables false
set_option linter.unusedSimpArgs false
set_option maxRecDepth 8000
theorem partsum {p:GPart} (o:okPart p) (hz:(wPart p).sum≤1048576):bdStmt p.fStmt∧bdStrs p.fCols∧bdStrs p.fKeys:=by
 simp only[wPart,List.sum_append,List.append_nil] at hz
 have h1:(wStmt p.fStmt).sum≤1048576:=by omega
 have h2:(wStrS p.fCols).sum≤1048576:=by omega
 have h3:(wStrS p.fKeys).sum≤1048576:=by omega
 exact ⟨stmtB (of_sum h1).1,⟨o.2.1,(of_sum h2).1,h2⟩,⟨o.2.2.1,(of_sum h3).1,h3⟩⟩
theorem dbKey {d:GDb} (hs: ∀n∈wDb d,n≤1048576): ∀t∈d.fCat.fTables,t.fKeys.length≤1048576:=fun t ht=>(dbB hs t ht).2
theorem mapStmtI_ok (d:GDb) (p:GPart) (hd:okDb d) (hk: ∀t∈d.fCat.fTables,t.fKeys.length≤1048576) (hp:okPart p) (hb:bdStmt p.fStmt) (h1:bdStrs p.fCols) (h2:bdStrs p.fKeys):
  VC Tryz.prog 37 [vDb d,vPart p] [(true,mStmt (mapStmt d p).1),(false,[(.s,.sc (.int .i64 (mapStmt d p).2))])]:=by
 refine vc_of_ew good hm [0,1,2,3,4,5,14] Tryz.func37 rfl (by kernel_rfl) (by kernel_rfl) rfl ?_
 simp[Tryz.f37,mStmt]
 refine .of (dbOkI_ok d hd hk) ?_
 simp
 refine .of (fun g=>⟨g,stmtOkI_ok p.fStmt hp.1 hb.2.2.1 hb.2.2.2⟩) ?_
 simp
 have hE:mapStmt d p=if dbOk d=false∨stmtOk p.fStmt=false then (dStmt,1) else mapStP d p:=rfl
 refine ⟨fun h=>by rw[hE,if_pos h];simp[dStmt,dRow,dDdl],fun a1 a2=> .of (mapStI_ok d p a1 a2 h1 h2) ?_⟩
 rw[hE,if_neg (by simp[a1,a2])]
 simp[mStmt]
theorem I_MapStmt_ok (d:GDb) (p:GPart) (o0:okDb d) (hs0: ∀n∈wDb d,n≤1048576) (_:(wDb d).sum≤1048576) (o1:okPart p) (_: ∀n∈wPart p,n≤1048576) (hz1:(wPart p).sum≤1048576):
  VC Tryz.prog 37 [vDb d,vPart p] [(true,mStmt (mapStmt d p).1),(false,[(.s,.sc (.int .i64 (mapStmt d p).2))])]:=mapStmtI_ok d p o0 (dbKey hs0) o1 (partsum o1 hz1).1 (partsum o1 hz1).2.1 (partsum o1 hz1).2.2
theorem mapStmtS_ok (d:GDb) (p:GPart) (hd0:okDb d) (hk0: ∀t∈d.fCat.fTables,t.fKeys.length≤1048576) (hp:okPart p) (hb0:bdStmt p.fStmt) (hc:bdStrs p.fCols) (hk:bdStrs p.fKeys):
  VC Tryz.prog 35 [vDb d,vPart p] [(true,mStmt (mapStmt d p).1),(false,[(.s,.sc (.int .i64 (mapStmt d p).2))])]:=by
 refine vc_of_ew good hm [0,1,2,3,4,5,6,26,30,7,39,8,9,54,10,11,70,12,13,81,14,96,113,15,16,126] Tryz.func35 rfl (by kernel_rfl) (by kernel_rfl) rfl ?_
 simp[Tryz.f35,mStmt]
 refine .of (dbOkS_ok d hd0 hk0) ?_
 simp
 refine .of (fun g=>⟨g,stmtOkS_ok p.fStmt hp.1⟩) ?_
 simp
 have hE0:mapStmt d p=if dbOk d=false∨stmtOk p.fStmt=false then (dStmt,1) else mapStP d p:=rfl
 refine ⟨fun h=>by rw[hE0,if_pos h];simp[dStmt,dRow,dDdl],fun hd hs=> ?_⟩
 rw[hE0,if_neg (by simp[hd,hs])]
 clear hE0
 obtain ⟨hso,hs0,hs1,hs2,hs3,hs4⟩:=stmtOk_ok hs
 have hco:=catOk_ok (dbOk_cat hd)
 have hl:=dbOk_len hd
 have hb:=tabAt_bd d.fCat.fTables p.fStmt.fTable
 obtain ⟨hw,hkd⟩:=stmtOk_k hs
 have hE:mapStP d p=if p.fStmt.fKind=5 then (p.fStmt,0) else if tabAt d.fCat.fTables p.fStmt.fTable<0 then (dStmt,10) else mapSt (tabOf d.fCat p.fStmt.fTable) (dataOf d (dbIx d p.fStmt.fTable)) p.fCols p.fKeys p.fStmt:=rfl
 refine ⟨fun k5=> .of (l07Stmt_ok p.fStmt hb0) ?_,fun k5=> .of (l02At_ok d.fCat p.fStmt.fTable hco.1.1.1) ?_⟩
 ·rw[hE,if_pos k5];simp[mStmt]
 rw[if_neg k5] at hE
 simp
 refine ⟨fun h0=>by rw[hE,if_pos h0];simp[dStmt,dRow,dDdl],fun h0=> ?_⟩
 rw[if_neg (by omega)] at hE
 obtain ⟨hto,hro,hx1,hx2⟩:=tab_data hd (s:=p.fStmt.fTable) (by omega)
 have ht0:d.fCat.fTables[(tabAt d.fCat.fTables p.fStmt.fTable).toNat]?.getD dTable=tabOf d.fCat p.fStmt.fTable:=rfl
 have hd0:(d.fData[(tabAt d.fCat.fTables p.fStmt.fTable).toNat]?.getD dRows).fRows=dataOf d (dbIx d p.fStmt.fTable):=rfl
 rw[ht0]
 generalize tabOf d.fCat p.fStmt.fTable=T at*
 generalize dataOf d (dbIx d p.fStmt.fTable)=L at*
 obtain ⟨hT1,hT2,hT3⟩:=table_b hto
 refine ⟨by omega,.of (S_Drift_ok p.fCols p.fKeys T hc.1 hc.2.1 hc.2.2 hk.1 hk.2.1 hk.2.2 hT1 hT2 hT3) ?_⟩
 simp
 have hS:mapSt T L p.fCols p.fKeys p.fStmt=if drift p.fCols p.fKeys T≠0 then (dStmt,drift p.fCols p.fKeys T) else
  if p.fStmt.fKind=1 then (if (mapRow p.fCols T p.fStmt.fRow.fVals []).2≠0 then (dStmt,(mapRow p.fCols T p.fStmt.fRow.fVals []).2) else (⟨1,p.fStmt.fTable,[],(mapRow p.fCols T p.fStmt.fRow.fVals []).1,dDdl⟩,0)) else
  if p.fStmt.fKind=4 then (⟨4,p.fStmt.fTable,[],⟨[]⟩,dDdl⟩,0) else
  if (mapKey p.fKeys T p.fStmt.fKey).2≠0 then (dStmt,(mapKey p.fKeys T p.fStmt.fKey).2) else
  if p.fStmt.fKind=3 then (⟨3,p.fStmt.fTable,(mapKey p.fKeys T p.fStmt.fKey).1,⟨[]⟩,dDdl⟩,0) else
  if (mapRow p.fCols T p.fStmt.fRow.fVals []).2≠0 then (dStmt,(mapRow p.fCols T p.fStmt.fRow.fVals []).2) else
  (⟨2,p.fStmt.fTable,(mapKey p.fKeys T p.fStmt.fKey).1,(mapRow p.fCols T p.fStmt.fRow.fVals (if 0≤keyAt T L (mapKey p.fKeys T p.fStmt.fKey).1 then (L[(keyAt T L (mapKey p.fKeys T p.fStmt.fKey).1).toNat]?.getD dRow).fVals else [])).1,dDdl⟩,0):=rfl
 refine ⟨fun h1=>by rw[hE,hS,if_pos h1];simp[dStmt,dRow,dDdl],fun h1=> ?_⟩
 rw[if_neg (by simp[h1])] at hS
 have hRo:=(rowsOk_ok hro).1
 have hTk:T.fKeys.length≤1048576:=(tableOk_ok hto).2.2
 have hTc:T.fCols.length≤1048576:=(tableOk_ok hto).2.1
 rcases hkd with ⟨k,e1,e2,e3⟩|⟨k,e1,e2,e3⟩|⟨k,e1,e2,e3⟩|⟨k,e1,e2,e3⟩|k
 ·rw[if_pos k] at hS
  obtain ⟨v1,v2,v3⟩:=vals_w e2
  simp[k]
  refine .of (l10Map_ok p.fCols T p.fStmt.fRow.fVals [] hc.1 hT1 hTc) ?_
  simp[mRow]
  refine ⟨fun h2=>by rw[hE,hS,if_pos h2];simp[dStmt,dRow,dDdl],fun h2=> ?_⟩
  rw[if_neg (by simp[h2])] at hS
  rw[hE,hS]
  simp[dDdl]
 ·rw[if_neg (by omega),if_neg (by omega)] at hS
  obtain ⟨v1,v2,v3⟩:=vals_w e1
  obtain ⟨u1,u2,u3⟩:=vals_w e2
  simp[k]
  refine .of (S_MapKey_ok p.fKeys T p.fStmt.fKey hk.1 hk.2.1 hk.2.2 hT1 hT2 hT3 v1 v2 v3) ?_
  simp[mValS]
  refine ⟨fun h2=>by rw[hE,hS,if_pos h2];simp[dStmt,dRow,dDdl],fun h2=> ?_⟩
  rw[if_neg (by simp[h2]),if_neg (by omega)] at hS
  generalize (mapKey p.fKeys T p.fStmt.fKey).1=key at hS⊢
  have hb2:=keyAt_bd T L key
  rw[hd0]
  refine ⟨by omega,.of (rowAtS_ok T L key hT1 hTk hRo) ?_⟩
  simp[hro,k]
  refine ⟨fun ha=>⟨by omega, ?_⟩,fun ha=> ?_⟩
  ·rw[hd0]
   have hz:=mapRow_other (other:=(L[(keyAt T L key).toNat]?.getD dRow).fVals) h1 p.fStmt.fRow.fVals (rowsOk_row hro ha)
   refine ⟨by omega,.of (l10Map_ok p.fCols T p.fStmt.fRow.fVals (L[(keyAt T L key).toNat]?.getD dRow).fVals hc.1 hT1 hTc) ?_⟩
   simp[mRow]
   rw[hz]
   refine ⟨fun h3=>by rw[hE,hS,if_pos h3];simp[dStmt,dRow,dDdl],fun h3=> ?_⟩
   rw[if_neg (by simp[h3]),if_pos ha] at hS
   rw[hE,hS]
   simp[dDdl]
  ·refine .of (l10Map_ok p.fCols T p.fStmt.fRow.fVals [] hc.1 hT1 hTc) ?_
   simp[mRow]
   refine ⟨fun h3=>by rw[hE,hS,if_pos h3];simp[dStmt,dRow,dDdl],fun h3=> ?_⟩
   rw[if_neg (by simp[h3]),if_neg (by omega)] at hS
   rw[hE,hS]
   simp[dDdl]
 ·rw[if_neg (by omega),if_neg (by omega)] at hS
  obtain ⟨v1,v2,v3⟩:=vals_w e1
  simp[k]
  refine .of (S_MapKey_ok p.fKeys T p.fStmt.fKey hk.1 hk.2.1 hk.2.2 hT1 hT2 hT3 v1 v2 v3) ?_
  simp[mValS]
  refine ⟨fun h2=>by rw[hE,hS,if_pos h2];simp[dStmt,dRow,dDdl],fun h2=> ?_⟩
  rw[if_neg (by simp[h2]),if_pos k] at hS
  generalize (mapKey p.fKeys T p.fStmt.fKey).1=key at hS⊢
  have hb2:=keyAt_bd T L key
  rw[hd0]
  refine ⟨by omega,.of (rowAtS_ok T L key hT1 hTk hRo) ?_⟩
  simp[hro,k]
  rw[hE,hS]
  simp[dDdl]
  rw[hd0]
  exact fun ha=>⟨by omega,by omega⟩
 ·rw[if_neg (by omega),if_pos k] at hS
  simp[k]
  rw[hE,hS]
  simp[dDdl]
 ·exact absurd k k5
theorem S_MapStmt_ok (d:GDb) (p:GPart) (o0:okDb d) (hs0: ∀n∈wDb d,n≤1048576) (_:(wDb d).sum≤1048576) (o1:okPart p) (_: ∀n∈wPart p,n≤1048576) (hz1:(wPart p).sum≤1048576):
  VC Tryz.prog 35 [vDb d,vPart p] [(true,mStmt (mapStmt d p).1),(false,[(.s,.sc (.int .i64 (mapStmt d p).2))])]:=mapStmtS_ok d p o0 (dbKey hs0) o1 (partsum o1 hz1).1 (partsum o1 hz1).2.1 (partsum o1 hz1).2.2
theorem wStmt_d:(wStmt dStmt).sum=0:=by decide
theorem stmt_w {s:GStmt} (h:stmtOk s=true) (k5:s.fKind≠5):(wStmt s).sum≤2000:=by
 obtain ⟨hw,hk⟩:=stmtOk_k h
 have h0:=word_w hw
 have hv: ∀ {l:List GVal},valsOk l=true→(wValS l).sum≤248:=fun {l} h=>by
  have h1:=valsOk_ok h
  simp only[valsOk,within,Bool.and_eq_true,decide_eq_true_eq,Bool.not_eq_true',List.any_eq_false,Bool.not_eq_true] at h
  have a:=sumF (w:=wVal) h1.2 fun v hv=>val_w (by have:=h.2 v hv;simpa using this)
  simp only[wValS,List.sum_cons,List.sum_append,List.sum_nil]
  omega
 have hn:(wValS []).sum=0:=by decide
 have hd:(wDdl dDdl).sum=0:=by decide
 simp only[wStmt,wRow,List.sum_cons,List.sum_append,List.sum_nil]
 rcases hk with ⟨k,e1,e2,e3⟩|⟨k,e1,e2,e3⟩|⟨k,e1,e2,e3⟩|⟨k,e1,e2,e3⟩|k
 ·have:=hv e2;rw[e1,e3,hn,hd];omega
 ·have:=hv e1;have:=hv e2;rw[e3,hd];omega
 ·have:=hv e1;rw[e2,e3,hn,hd];omega
 ·rw[e1,e2,e3,hn,hd];omega
 ·exact absurd k k5
theorem mapSt_kind {t:GTable} {l:List GRow} {cols keys:List ByteArray} {s:GStmt} (h:(mapSt t l cols keys s).2=0):(mapSt t l cols keys s).1.fKind≠5:=by
 unfold mapSt at h⊢
 grind
theorem mapSt_fail {t:GTable} {l:List GRow} {cols keys:List ByteArray} {s:GStmt} (h:(mapSt t l cols keys s).2≠0):(mapSt t l cols keys s).1=dStmt:=by
 unfold mapSt at h⊢
 grind
theorem mapStmt_sum (d:GDb) (p:GPart) (hz:(wStmt p.fStmt).sum≤1048576):(wStmt (mapStmt d p).1).sum≤1048576:=by
 have hd:(wStmt dStmt).sum≤1048576:=by rw[wStmt_d];omega
 unfold mapStmt
 split
 ·exact hd
 rename_i h
 simp only[not_or,Bool.not_eq_false] at h
 unfold mapStP
 split
 ·exact hz
 rename_i k
 split
 ·exact hd
 rename_i h0
 by_cases hc:(mapSt (tabOf d.fCat p.fStmt.fTable) (dataOf d (dbIx d p.fStmt.fTable)) p.fCols p.fKeys p.fStmt).2=0
 ·have:=stmt_w (mapSt_ok (tab_data h.1 (by omega)).2.1 h.2 hc) (mapSt_kind hc)
  omega
 ·rw[mapSt_fail hc];exact hd
theorem MapStmt_r0 (d:GDb) (p:GPart) (o0:okDb d) (hs0: ∀n∈wDb d,n≤1048576) (_:(wDb d).sum≤1048576) (o1:okPart p) (_: ∀n∈wPart p,n≤1048576) (hz1:(wPart p).sum≤1048576):(∀n∈wStmt (mapStmt d p).1,n≤1048576)∧(wStmt (mapStmt d p).1).sum≤1099511627776:=
 of_sum (mapStmt_sum d p (by simp only[wPart,List.sum_append,List.append_nil] at hz1;omega))
end Go.Proofs.YtcgalnoekjnjoaaGreat
namespace Go.Proofs.YtcgalnoekjnjoaaGreat
open Go Go.Proofs Go.Sm
attribute [local simp] ti eStr eInt eByte eVal cVal vVal eValS vValS eRow cRow vRow eCol vCol vColS eStrS vStrS cDdl vDdl vStmt ePart vPart eTable cTable vTable vTableS cCat vCat vRowS eRows vRows vRowsS eDb cDb vDb eSnap vSnap
set_option linter.unusedVariables false
set_option linter.unusedSimpArgs false
set_option maxRecDepth 8000
def lkC (f:GTable) (c:GCol):GCol:=if colAt f c.fName<0 then ⟨c.fName,c.fTy,false,false,dVal⟩ else c
def lkT (t f:GTable):GTable:=⟨t.fName,t.fCols.map (lkC f),t.fKeys⟩
def lkV (f:GTable) (v:List GVal) (c:GCol):GVal:=if 0≤colAt f c.fName then v[(colAt f c.fName).toNat]?.getD dVal else dVal
def lkR (f to:GTable) (r:GRow):GRow:=⟨to.fCols.map (lkV f r.fVals)⟩
theorem lkC_name (f:GTable) (c:GCol):(lkC f c).fName=c.fName:=by
 unfold lkC
 split<;>rfl
theorem lkT_cnm (t f:GTable):cnm (lkT t f).fCols=cnm t.fCols:=by
 simp[lkT,cnm,Function.comp_def,lkC_name]
theorem lkT_ok {t f:GTable} (h:tableOk t=true) (hu:unk f t.fKeys=false):tableOk (lkT t f)=true:=by
 rw[tableOk_iff] at h⊢
 obtain ⟨h1,h2,h3,h4,h5,h6,h7,h8⟩:=h
 refine ⟨h1,by simpa [lkT] using h2,by simpa [lkT] using h3,h4,fun c hc=> ?_,by rw[lkT_cnm];exact h6,by rw[lkT_cnm];exact h7,fun c hc hk=> ?_⟩
 ·obtain ⟨c0,hc0,rfl⟩:=List.mem_map.1 hc
  have hk:=h5 c0 hc0
  unfold lkC
  split
  ·simp only[colOk,Bool.and_eq_true] at hk⊢
   exact ⟨hk.1,by simp[nullV,dVal,em]⟩
  ·exact hk
 ·obtain ⟨c0,hc0,rfl⟩:=List.mem_map.1 hc
  rw[lkC_name] at hk
  have hnn: ¬colAt f c0.fName<0:=fun hlt=>by
   have:unk f t.fKeys=true:=List.any_eq_true.2 ⟨_,hk,by simpa using hlt⟩
   rw[hu] at this
   cases this
  unfold lkC
  rw[if_neg hnn]
  exact h8 c0 hc0 hk
theorem lkT_no {t f:GTable} (h:tableOk t=true) (hu:unk f t.fKeys=true):tableOk (lkT t f)=false:=by
 rw[Bool.eq_false_iff]
 intro h'
 rw[tableOk_iff] at h h'
 obtain ⟨k,hk,hlt⟩:=List.any_eq_true.1 hu
 obtain ⟨c0,hc0,rfl⟩:=List.mem_map.1 (h.2.2.2.2.2.2.1.subset hk)
 rw[decide_eq_true_eq] at hlt
 have:=h'.2.2.2.2.2.2.2 (lkC f c0) (List.mem_map.2 ⟨c0,hc0,rfl⟩) (by rw[lkC_name];exact hk)
 unfold lkC at this
 rw[if_pos hlt] at this
 cases this
def lyTo (f to:GTable) (l:List GRow):Nat→List GRow
 |0=> []
 |i+1=>if tableOk to=true then insW (fun y=> !rowLt to (lkR f to (l[i]?.getD dRow)) y) (lkR f to (l[i]?.getD dRow)) (lyTo f to l i) else lyTo f to l i++ [lkR f to (l[i]?.getD dRow)]
def lkTo (f to:GTable) (l:List GRow):Nat→Option (List GRow)
 |0=>some []
 |i+1=>(lkTo f to l i).bind fun acc=>if (rowPut to acc (lkR f to (l[i]?.getD dRow))).2≠0 then none else some (rowPut to acc (lkR f to (l[i]?.getD dRow))).1
theorem lyTo_len (f to:GTable) (l:List GRow): ∀i,(lyTo f to l i).length=i
 |0=>rfl
 |i+1=>by
  rw[lyTo]
  split
  ·rw[insW_len,lyTo_len f to l i]
  ·simp[lyTo_len f to l i]
theorem insW_sub {α:Type} (p:α→Bool) (x:α) (l:List α):l.Sublist (insW p x l):=by
 unfold insW
 conv=>lhs;rw[←List.takeWhile_append_dropWhile (p:=p) (l:=l)]
 exact List.Sublist.append (List.Sublist.refl _) (List.sublist_cons_self _ _)
theorem rowsOk_sub {t:GTable} {l l':List GRow} (h:rowsOk t l'=true) (hs:l.Sublist l'):rowsOk t l=true:=by
 rw[rowsOk_iff] at h⊢
 exact ⟨h.1,by have:=hs.length_le;omega,fun r hr=>h.2.2.1 r (hs.subset hr),h.2.2.2.sublist hs⟩
theorem lkTo_eq {f to:GTable} {l:List GRow} (ht:tableOk to=true) (hl:l.length≤60): ∀i,i≤l.length→lkTo f to l i=if rowsOk to (lyTo f to l i)=true then some (lyTo f to l i) else none
 |0,_=>by
  have:rowsOk to []=true:=(rowsOk_iff to []).2 ⟨ht,by simp,by simp,List.Pairwise.nil⟩
  rw[lyTo,if_pos this,lkTo]
 |i+1,hi=>by
  have ih:=lkTo_eq (f:=f) ht hl i (by omega)
  have hlen:=lyTo_len f to l i
  rw[lkTo,ih,lyTo,if_pos ht]
  generalize lkR f to (l[i]?.getD dRow)=r
  generalize lyTo f to l i=acc at hlen
  by_cases hok:rowsOk to acc=true
  ·rw[if_pos hok]
   simp only[Option.bind_some]
   have hf: ∀x∈acc,rowFit to x=true:=((rowsOk_iff to acc).1 hok).2.2.1
   have e:rowPut to acc r=if rowFit to r=false then ([],2) else if 0≤keyAt to acc (keyOf to r) then ([],3) else if acc.length=60 then ([],4) else (insW (fun x=>rowLt to x r) r acc,0):=by
    unfold rowPut
    rw[if_neg (by simp[hok])]
   by_cases h1:rowFit to r=true
   ·rw[if_neg (by simp[h1])] at e
    by_cases h2:0≤keyAt to acc (keyOf to r)
    ·rw[if_pos h2] at e
     obtain ⟨x,hx,he⟩:=(keyAt_nn to acc _).1 h2
     have hno: ¬rowsOk to (insW (fun y=> !rowLt to r y) r acc)=true:=fun hc=>by
      have hp:=((rowsOk_iff to _).1 hc).2.2.2
      unfold insW at hp
      rw[List.pairwise_append,List.pairwise_cons] at hp
      have hx':x∈acc.takeWhile (fun y=> !rowLt to r y)∨x∈acc.dropWhile (fun y=> !rowLt to r y):=by
       rw[←List.mem_append,List.takeWhile_append_dropWhile]
       exact hx
      rcases hx' with hx'|hx'
      ·have:=hp.2.2 x hx' r (by simp)
       rw[rowLt,he,kl_irrefl] at this
       cases this
      ·have:=hp.2.1.1 x hx'
       rw[rowLt,he,kl_irrefl] at this
       cases this
     rw[if_neg hno,e]
     rfl
    ·rw[if_neg h2,if_neg (by omega)] at e
     have hne: ∀x∈acc,keyOf to x≠keyOf to r:=fun x hx he=>h2 ((keyAt_nn to acc _).2 ⟨x,hx,he⟩)
     rw[lay_ins hf h1 hne,if_pos (rowsOk_ins hok h1 hne (by omega)),e]
     rfl
   ·rw[if_pos (by simpa using h1)] at e
    have hno: ¬rowsOk to (insW (fun y=> !rowLt to r y) r acc)=true:=fun hc=>h1 (((rowsOk_iff to _).1 hc).2.2.1 r (insW_mem.2 (.inl rfl)))
    rw[if_neg hno,e]
    rfl
  ·rw[if_neg hok]
   have hno: ¬rowsOk to (insW (fun y=> !rowLt to r y) r acc)=true:=fun hc=>hok (rowsOk_sub hc (insW_sub _ _ _))
   rw[if_neg hno]
   rfl
def pjF (d:GDb) (t:GTable):GTable:=d.fCat.fTables[(tabAt d.fCat.fTables t.fName).toNat]?.getD dTable
def pjL (d:GDb) (t:GTable):List GRow:=(d.fData[(tabAt d.fCat.fTables t.fName).toNat]?.getD dRows).fRows
def pjY (d:GDb) (t:GTable):List GRow:=lyTo (pjF d t) (lkT t (pjF d t)) (pjL d t) (pjL d t).length
def pjStep (d acc:GDb) (t:GTable):Option GDb:=
 if tabAt d.fCat.fTables t.fName<0 then none else if unk (pjF d t) t.fKeys=true then none else
 (lkTo (pjF d t) (lkT t (pjF d t)) (pjL d t) (pjL d t).length).map fun rows=>⟨⟨acc.fCat.fTables++ [lkT t (pjF d t)]⟩,acc.fData++ [⟨rows⟩]⟩
def spStep (d acc:GDb) (t:GTable):Option GDb:=
 if tabAt d.fCat.fTables t.fName<0 then none else some ⟨⟨acc.fCat.fTables++ [lkT t (pjF d t)]⟩,acc.fData++ [⟨pjY d t⟩]⟩
def pjTo (d:GDb) (l:List GTable):Nat→Option GDb
 |0=>some ⟨⟨[]⟩,[]⟩
 |i+1=>(pjTo d l i).bind fun acc=>pjStep d acc (l[i]?.getD dTable)
def spTo (d:GDb) (l:List GTable):Nat→Option GDb
 |0=>some ⟨⟨[]⟩,[]⟩
 |i+1=>(spTo d l i).bind fun acc=>spStep d acc (l[i]?.getD dTable)
def goodT (d:GDb) (t:GTable):Bool:=rowsOk (lkT t (pjF d t)) (pjY d t)
theorem pjL_len {d:GDb} (hd:dbOk d=true) {t:GTable} (h:0≤tabAt d.fCat.fTables t.fName):(pjL d t).length≤60:=by
 have hb:=tabAt_bd d.fCat.fTables t.fName
 have:=((dbOk_iff d).1 hd).2.2 (tabAt d.fCat.fTables t.fName).toNat (by omega)
 exact ((rowsOk_iff _ _).1 this).2.1
theorem pjStep_eq {d acc:GDb} {t:GTable} (hd:dbOk d=true) (ht:tableOk t=true):pjStep d acc t=(spStep d acc t).bind fun r=>if goodT d t=true then some r else none:=by
 unfold pjStep spStep
 by_cases h1:tabAt d.fCat.fTables t.fName<0
 ·rw[if_pos h1,if_pos h1]
  rfl
 ·rw[if_neg h1,if_neg h1]
  simp only[Option.bind_some]
  by_cases h2:unk (pjF d t) t.fKeys=true
  ·have:goodT d t=false:=by
    rw[Bool.eq_false_iff]
    intro h
    have:=((rowsOk_iff _ _).1 h).1
    rw[lkT_no ht h2] at this
    cases this
   rw[if_pos h2,if_neg (by simp[this])]
  ·rw[if_neg h2,lkTo_eq (lkT_ok ht (by simpa using h2)) (pjL_len hd (by omega)) _ (Nat.le_refl _)]
   unfold goodT pjY
   split<;>rfl
theorem pjTo_eq {d:GDb} {l:List GTable} (hd:dbOk d=true) (ht: ∀t∈l,tableOk t=true): ∀i,i≤l.length→pjTo d l i=(spTo d l i).bind fun r=>if (l.take i).all (goodT d)=true then some r else none
 |0,_=>by simp[pjTo,spTo]
 |i+1,hi=>by
  have hti:tableOk (l[i]?.getD dTable)=true:=ht _ (getD_mem dTable hi)
  rw[pjTo,spTo,pjTo_eq hd ht i (by omega)]
  have ha:(l.take (i+1)).all (goodT d)=((l.take i).all (goodT d)&&goodT d (l[i]?.getD dTable)):=by
   rw[List.take_succ_eq_append_getElem (by omega),List.all_append,List.getElem?_eq_getElem (by omega)]
   simp
  rw[ha]
  cases spTo d l i with
  |none=>rfl
  |some acc=>
   simp only[Option.bind_some]
   cases h1:(l.take i).all (goodT d) with
   |true=>
    rw[if_pos rfl]
    simp only[Option.bind_some,Bool.true_and]
    exact pjStep_eq hd hti
   |false=>
    rw[if_neg (by simp)]
    simp only[Option.bind_none,Bool.false_and]
    cases spStep d acc (l[i]?.getD dTable) with
    |none=>rfl
    |some r=>simp
theorem spTo_shape {d:GDb} {l:List GTable}: ∀ {i:Nat} {r:GDb},i≤l.length→spTo d l i=some r→r=⟨⟨(l.take i).map fun t=>lkT t (pjF d t)⟩,(l.take i).map fun t=>⟨pjY d t⟩⟩
 |0,r,_,h=>by
  simp only[spTo,Option.some.injEq] at h
  simp[←h]
 |i+1,r,hi,h=>by
  simp only[spTo] at h
  cases hs:spTo d l i with
  |none=>rw[hs] at h;cases h
  |some acc=>
   rw[hs] at h
   simp only[Option.bind_some,spStep] at h
   split at h
   ·cases h
   ·have:=spTo_shape (by omega) hs
    simp only[Option.some.injEq] at h
    rw[←h,this,List.take_succ_eq_append_getElem (by omega),List.getElem?_eq_getElem (by omega)]
    simp only[List.map_append,List.map_cons,List.map_nil,Option.getD_some]
def project (d like:GDb):Option GDb:=if dbOk d=true∧dbOk like=true then pjTo d like.fCat.fTables like.fCat.fTables.length else none
def specProject (d like:GDb):Option GDb:=if dbOk d=true∧dbOk like=true then (spTo d like.fCat.fTables like.fCat.fTables.length).bind fun r=>if dbOk r=true then some r else none else none
theorem sp_good {d like r:GDb} (hl:dbOk like=true) (h:spTo d like.fCat.fTables like.fCat.fTables.length=some r):dbOk r=like.fCat.fTables.all (goodT d):=by
 have hs:=spTo_shape (Nat.le_refl _) h
 rw[List.take_length] at hs
 subst hs
 obtain ⟨h1,h2,h3⟩:=(dbOk_iff like).1 hl
 obtain ⟨c1,c2,c3⟩:=(catOk_iff _).1 h1
 rw[Bool.eq_iff_iff,dbOk_iff,catOk_iff]
 simp only[List.all_eq_true,List.length_map]
 have hg: ∀ (i:Nat) (hi:i<like.fCat.fTables.length),rowsOk ((like.fCat.fTables.map fun t=>lkT t (pjF d t))[i]?.getD dTable) ((like.fCat.fTables.map fun t=>(⟨pjY d t⟩:GRows))[i]?.getD dRows).fRows=goodT d like.fCat.fTables[i]:=fun i hi=>by
  simp[List.getElem?_eq_getElem hi,goodT]
 constructor
 ·rintro ⟨-,-,h6⟩ t ht
  obtain ⟨i,hi,rfl⟩:=List.getElem_of_mem ht
  rw[←hg i hi]
  exact h6 i hi
 ·intro h6
  refine ⟨⟨fun t ht=> ?_,c2, ?_⟩,trivial,fun i hi=> ?_⟩
  ·obtain ⟨t0,ht0,rfl⟩:=List.mem_map.1 ht
   exact ((rowsOk_iff _ _).1 (h6 t0 ht0)).1
  ·rw[List.pairwise_map]
   exact c3
  ·rw[hg i hi]
   exact h6 _ (List.getElem_mem hi)
theorem project_eq (d like:GDb):project d like=specProject d like:=by
 unfold project specProject
 split
 ·rename_i h
  obtain ⟨h1,h2⟩:=h
  have hc:=(catOk_iff _).1 ((dbOk_iff like).1 h2).1
  rw[pjTo_eq h1 hc.1 _ (Nat.le_refl _),List.take_length]
  cases hs:spTo d like.fCat.fTables like.fCat.fTables.length with
  |none=>rfl
  |some r=>
   simp only[Option.bind_some]
   rw[sp_good h2 hs]
 ·rfl
theorem project_ok {d like r:GDb} (h:project d like=some r):dbOk r=true:=by
 rw[project_eq] at h
 unfold specProject at h
 split at h
 ·cases hs:spTo d like.fCat.fTables like.fCat.fTables.length with
  |none=>rw[hs] at h;cases h
  |some r'=>
   rw[hs] at h
   simp only[Option.bind_some] at h
   split at h
   ·cases h
    assumption
   ·cases h
 ·cases h
end Go.Proofs.YtcgalnoekjnjoaaGreat
namespace Go.Proofs.YtcgalnoekjnjoaaGreat
open Go Go.Proofs Go.Sm
attribute [local simp] ti eStr eInt eByte eVal cVal vVal eValS vValS eRow cRow vRow eCol vCol vColS eStrS vStrS cDdl vDdl vStmt ePart vPart eTable cTable vTable vTableS cCat vCat vRowS eRows vRows vRowsS eDb cDb vDb eSnap vSnap
set_option linter.unusedVariables false
set_option linter.unusedSimpArgs false
set_option maxRecDepth 8000
theorem likeTable_ok (t f:GTable) (h1:t.fCols.length≤1048576) (h2:t.fKeys.length≤1048576) (hf:okM f.fCols.length):VC Tryz.prog 111 [vTable t,vTable f] [(true,mTable (lkT t f))]:=by
 refine vc_of_ew good hm [0,1,2,3,4,5,11,12,13,14,7,6,22] Tryz.func111 rfl (by kernel_rfl) (by kernel_rfl) rfl ?_
 simp[Tryz.f111,mTable]
 refine .of (copyTable_ok t h1 h2) ?_
 simp[mTable]
 refine ew_loop (fun E=> ∃i:Nat,i≤t.fCols.length∧E= {nt:=34,sl:= [(3,.p (.bx 3 0)),(4,.p (.bx 4 0)),(5,.p (.bx 5 0)),(11,.v false [.r [1009]]),(12,int .i64 t.fCols.length),(13,int .i64 i)],bx:= [(3,cTable f),(4,[.s (.sc (.string ⟨#[]⟩)),.n [Lf.sc (Value.string ⟨#[]⟩),Lf.sc (Value.int IntKind.i64 0),Lf.sc (Value.bool false),Lf.sc (Value.bool false),Lf.sc (Value.int IntKind.i64 0),Lf.sc (Value.int IntKind.i64 0),Lf.sc (Value.string ⟨#[]⟩)],.n [.sc (.string ⟨#[]⟩)]]),(5,[.s (.sc (.string t.fName)),.r [1009],.r [2009]])],rt:= [(1009,(Md.o 168 (fun _=> [Md.s,Md.s,Md.s,Md.s,Md.s,Md.s,Md.s])),.ls [Lf.sc (Value.string ⟨#[]⟩),Lf.sc (Value.int IntKind.i64 0),Lf.sc (Value.bool false),Lf.sc (Value.bool false),Lf.sc (Value.int IntKind.i64 0),Lf.sc (Value.int IntKind.i64 0),Lf.sc (Value.string ⟨#[]⟩)] ((chTo (lkC f) t.fCols i).map eCol)),(2009,.o 9 (fun _=> [.s]),.ls [.sc (.string ⟨#[]⟩)] (t.fKeys.map eStr))]}) (fun E=>t.fCols.length- (E.num 13).toNat) _ (Gh.kb _ [3,4,5,11,12,13] [3,4,5] [1009,2009]) ⟨0,by omega,by simp[chTo_zero]⟩ ?_
 rintro E1 ⟨i,hi,rfl⟩
 have hlen:=chTo_len (lkC f) t.fCols i
 have hget:=chTo_get (lkC f) t.fCols i
 have hsu:=fun h=>chTo_succ (lkC f) dCol (l:=t.fCols) (i:=i) h
 have hal:=chTo_all (lkC f) t.fCols
 generalize hM:chTo (lkC f) t.fCols i=M at hlen hget hsu
 simp
 refine ⟨fun h=> ?_,fun h=> ?_⟩
 ·have hMi:M[i]'(by omega)=t.fCols[i]:=by
   rw[List.getElem?_eq_getElem (by omega),List.getElem?_eq_getElem h] at hget
   exact Option.some.inj hget
  simp[md,lf,eCol,List.range',hlen,h,hMi]
  have hl:lkC f t.fCols[i]=if colAt f t.fCols[i].fName<0 then ⟨t.fCols[i].fName,t.fCols[i].fTy,false,false,dVal⟩ else t.fCols[i]:=rfl
  refine .of (colAtI_ok f _ hf) ?_
  simp
  refine ⟨fun hc=>⟨by omega,.of _ (Gh.kb _ [3,4,5,11,12,13] [3,4,5] [1009,2009]) ⟨i+1,by omega, ?_⟩ ?_⟩,fun hc=> .of _ (Gh.kb _ [3,4,5,11,12,13] [3,4,5] [1009,2009]) ⟨i+1,by omega, ?_⟩ ?_⟩
  ·rw[hsu h,List.map_set,List.getElem?_eq_getElem h,Option.getD_some,hl,if_pos hc]
   simp[wrapS (show i<9223372036854775807 by omega),eCol,dVal]
  ·simp[wrapS (show i<9223372036854775807 by omega)];omega
  ·have:M.set i t.fCols[i]=M:=by
    rw[←hMi]
    exact List.set_getElem_self _
   rw[hsu h,List.getElem?_eq_getElem h,Option.getD_some,hl,if_neg (by omega),this]
   simp[wrapS (show i<9223372036854775807 by omega)]
  ·simp[wrapS (show i<9223372036854775807 by omega)];omega
 ·have:i=t.fCols.length:=by omega
  subst this
  rw[hal] at hM
  subst hM
  simp[lkT]
theorem lkTo_ok {f to:GTable} {l:List GRow} (ht:tableOk to=true): ∀ {i:Nat} {acc:List GRow},lkTo f to l i=some acc→rowsOk to acc=true
 |0,acc,h=>by
  simp only[lkTo,Option.some.injEq] at h
  rw[←h]
  exact rowsOk_nil ht
 |i+1,acc,h=>by
  rw[lkTo] at h
  cases hs:lkTo f to l i with
  |none=>rw[hs] at h;cases h
  |some a=>
   rw[hs] at h
   simp only[Option.bind_some] at h
   split at h
   ·cases h
   ·rename_i h0
    simp only[Option.some.injEq] at h
    rw[←h]
    exact rowPut_ok (by omega)
theorem lkTo_none {f to:GTable} {l:List GRow} {i:Nat} (h:lkTo f to l i=none): ∀j,i≤j→lkTo f to l j=none
 |j,hj=>by
  induction j with
  |zero=>cases Nat.le_zero.1 hj;exact h
  |succ j ih=>
   rcases Nat.lt_or_ge j i with hlt|hge
   ·have:i=j+1:=by omega
    rw[←this];exact h
   ·rw[lkTo,ih hge];rfl
theorem lkV_ok {f:GTable} {r:GRow} (hr:rowFit f r=true) (c:GCol):valOk (lkV f r.fVals c)=true:=by
 unfold lkV
 split
 ·cases hx:r.fVals[(colAt f c.fName).toNat]? with
  |none=>exact valOk_d
  |some x=>exact rowFit_vals hr x (List.mem_of_getElem? hx)
 ·exact valOk_d
theorem lkR_ok {f to:GTable} {r:GRow} (hr:rowFit f r=true) (hc:to.fCols.length≤8):okRow (lkR f to r):=by
 refine ⟨⟨by simp[lkR,okM];omega,fun v hv=> ?_⟩,trivial⟩
 obtain ⟨c,_,rfl⟩:=List.mem_map.1 hv
 exact (valOk_ok (lkV_ok hr c)).1
def lkVs (f:GTable) (v:List GVal) (cs:List GCol) (j:Nat):List GVal:=(cs.take j).map (lkV f v)
theorem lkVs_succ {f:GTable} {v:List GVal} {cs:List GCol} {j:Nat} (h:j<cs.length):lkVs f v cs (j+1)=lkVs f v cs j++ [lkV f v cs[j]]:=by
 unfold lkVs
 rw[List.take_succ_eq_append_getElem h,List.map_append]
 rfl
theorem lkVs_len (f:GTable) (v:List GVal) (cs:List GCol) (j:Nat):(lkVs f v cs j).length≤cs.length:=by
 simp[lkVs]
 omega
theorem likeRows_ok (f to:GTable) (l:List GRow) (hf:tableOk f=true) (ht:tableOk to=true) (hl:l.length≤60) (hr: ∀r∈l,rowFit f r=true):VC Tryz.prog 112 [vTable f,vRowS l,vTable to] [(false,mRowS ((lkTo f to l l.length).getD [])),(false,[(.s,.sc (.bool (lkTo f to l l.length).isSome))])]:=by
 have hfo:=tableOk_ok hf
 have hto:=tableOk_ok ht
 have htl:=tableOk_len ht
 have hfl:=tableOk_len hf
 refine vc_of_ew good hm [0,1,2,3,5,6,7,8,19,20,21,22,10,11,27,28,29,30,13,14,15,39,16,17,60] Tryz.func112 rfl (by kernel_rfl) (by kernel_rfl) rfl ?_
 simp[Tryz.f112,mRowS]
 refine ew_loop (fun E=> ∃ (i:Nat) (acc:List GRow),i≤l.length∧lkTo f to l i=some acc∧E= {nt:=64,sl:= [(3,.p (.bx 3 0)),(5,.p (.bx 5 0)),(8,.v false [.r [18]]),(19,vRowS l),(20,int .i64 l.length),(21,int .i64 i)],bx:= [(3,cTable f),(5,cTable to)],rt:=(mRowS acc).map fun y=>(18,y)}) (fun E=>l.length- (E.num 21).toNat) _ (Gh.kb _ [3,5,8,19,20,21] [3,5] [18]) ⟨0,[],by omega,rfl,by simp[mRowS]⟩ ?_
 rintro E1 ⟨i,acc,hi,hx,rfl⟩
 have hsu:lkTo f to l (i+1)=if (rowPut to acc (lkR f to (l[i]?.getD dRow))).2≠0 then none else some (rowPut to acc (lkR f to (l[i]?.getD dRow))).1:=by
  rw[lkTo,hx]
  rfl
 have hao:=rowsOk_ok (lkTo_ok ht hx)
 simp[mRowS]
 refine ⟨fun h=>⟨h, ?_⟩,fun h=> ?_⟩
 ·have hrm:=hr _ (getD_mem dRow h)
  generalize hrr:l[i]?.getD dRow=r at hsu hrm
  have hrl:=rowFit_len hrm
  refine ew_loop (fun E=> ∃j:Nat,j≤to.fCols.length∧E= {nt:=64,sl:= [(3,.p (.bx 3 0)),(5,.p (.bx 5 0)),(8,.v false [.r [18]]),(19,vRowS l),(20,int .i64 l.length),(21,int .i64 i),(10,.p (.bx 10 0)),(11,.p (.bx 11 0)),(27,vColS to.fCols),(28,int .i64 to.fCols.length),(29,int .i64 j)],bx:= [(3,cTable f),(5,cTable to),(10,cRow r),(11,[.r [990]])],rt:=(18,(Md.o 75 (fun _=> [(Md.o 166 (fun _=> [Md.s,Md.s,Md.s]))])),.ls [Lf.ls [Lf.sc (Value.int IntKind.i64 0),Lf.sc (Value.int IntKind.i64 0),Lf.sc (Value.string ⟨#[]⟩)] []] (acc.map eRow))::(mValS (lkVs f r.fVals to.fCols j)).map fun y=>(990,y)}) (fun E=>to.fCols.length- (E.num 29).toNat) _ ((Gh.nlB _ 11 0 990 166 (fun _=> [.s,.s,.s]) [Lf.sc (Value.int IntKind.i64 0),Lf.sc (Value.int IntKind.i64 0),Lf.sc (Value.string ⟨#[]⟩)]).trans (Gh.kb _ [3,5,8,19,20,21,10,11,27,28,29] [3,5,10,11] [18,990])) ⟨0,by omega,by simp[mValS,lkVs]⟩ ?_
  rintro E2 ⟨j,hj,rfl⟩
  have hvl:=lkVs_len f r.fVals to.fCols j
  simp[mValS]
  refine ⟨fun hjl=> ?_,fun hjl=> ?_⟩
  ·have htk:=lkVs_succ (f:=f) (v:=r.fVals) hjl
   have hv:lkV f r.fVals to.fCols[j]=if 0≤colAt f to.fCols[j].fName then r.fVals[(colAt f to.fCols[j].fName).toNat]?.getD dVal else dVal:=rfl
   have hb:=(idxF_bd (fun c:GCol=>c.fName.toList==to.fCols[j].fName.toList) f.fCols).2
   have hb:colAt f to.fCols[j].fName<f.fCols.length:=hb
   simp[hjl]
   refine .of (colAtI_ok f _ hfo.1.2.1.1) ?_
   simp
   refine ⟨fun hc=>⟨⟨hc,by omega⟩,by omega,.of _ ((Gh.kb _ [3,5,8,19,20,21,10,11,27,28,29] [3,5,10,11] [18,49]).trans (Gh.rn _ 49 990)) ⟨j+1,by omega, ?_⟩ ?_⟩,fun hc=>⟨by omega,.of _ ((Gh.kb _ [3,5,8,19,20,21,10,11,27,28,29] [3,5,10,11] [18,49]).trans (Gh.rn _ 49 990)) ⟨j+1,by omega, ?_⟩ ?_⟩⟩
   ·rw[htk,hv,if_pos hc]
    simp[wrapS (show j<9223372036854775807 by omega),mValS]
   ·simp[wrapS (show j<9223372036854775807 by omega)];omega
   ·rw[htk,hv,if_neg (by omega)]
    simp[wrapS (show j<9223372036854775807 by omega),mValS,dVal,eVal]
   ·simp[wrapS (show j<9223372036854775807 by omega)];omega
  ·have:j=to.fCols.length:=by omega
   subst this
   have hrp:=rowPutI_ok to acc (lkR f to r) hto.1 hto.2.2 hao.1 (lkR_ok hrm htl.1)
   have hall:lkR f to r=⟨lkVs f r.fVals to.fCols to.fCols.length⟩:=by simp[lkR,lkVs]
   rw[hall] at hrp hsu
   simp
   refine .of hrp ?_
   simp[mRowS]
   refine ⟨fun h0=> ?_,fun h0=> .of _ ((Gh.kb _ [3,5,8,19,20,21] [3,5] [56]).trans (Gh.rn _ 56 18)) ⟨i+1,by omega,(rowPut to acc ⟨lkVs f r.fVals to.fCols to.fCols.length⟩).1,by rw[hsu,if_neg (by simp[h0])], ?_⟩ ?_⟩
   ·rw[if_pos h0] at hsu
    rw[lkTo_none hsu _ h]
    simp
   ·simp[wrapS (show i<9223372036854775807 by omega),mRowS]
   ·simp[wrapS (show i<9223372036854775807 by omega)];omega
 ·have:i=l.length:=by omega
  subst this
  rw[hx]
  simp
end Go.Proofs.YtcgalnoekjnjoaaGreat
namespace Go.Proofs.YtcgalnoekjnjoaaGreat
open Go Go.Proofs Go.Sm
attribute [local simp] ti eStr eInt eByte eVal cVal vVal eValS vValS eRow cRow vRow eCol vCol vColS eStrS vStrS cDdl vDdl vStmt ePart vPart eTable cTable vTable vTableS cCat vCat vRowS eRows vRows vRowsS eDb cDb vDb eSnap vSnap
set_option linter.unusedVariables false
set_option linter.unusedSimpArgs false
set_option maxRecDepth 8000
theorem pj_bd {d:GDb} {t:GTable} (hd:dbOk d=true) (h:0≤tabAt d.fCat.fTables t.fName):tableOk (pjF d t)=true∧(∀r∈pjL d t,rowFit (pjF d t) r=true)∧(tabAt d.fCat.fTables t.fName).toNat<d.fCat.fTables.length∧(tabAt d.fCat.fTables t.fName).toNat<d.fData.length:=by
 have hb:=tabAt_bd d.fCat.fTables t.fName
 have h1:=(dbOk_iff d).1 hd
 have h2:=h1.2.2 (tabAt d.fCat.fTables t.fName).toNat (by omega)
 have h3:=(rowsOk_iff _ _).1 h2
 exact ⟨h3.1,h3.2.2.1,by omega,by omega⟩
theorem pjTo_none {d:GDb} {l:List GTable} {i:Nat} (h:pjTo d l i=none): ∀j,i≤j→pjTo d l j=none
 |j,hj=>by
  induction j with
  |zero=>cases Nat.le_zero.1 hj;exact h
  |succ j ih=>
   rcases Nat.lt_or_ge j i with hlt|hge
   ·have:i=j+1:=by omega
    rw[←this];exact h
   ·rw[pjTo,ih hge];rfl
theorem pjTo_len {d:GDb} {l:List GTable}: ∀ {i:Nat} {r:GDb},pjTo d l i=some r→r.fCat.fTables.length=i∧r.fData.length=i
 |0,r,h=>by
  simp only[pjTo,Option.some.injEq] at h
  simp[←h]
 |i+1,r,h=>by
  rw[pjTo] at h
  cases hs:pjTo d l i with
  |none=>rw[hs] at h;cases h
  |some a=>
   rw[hs] at h
   have:=pjTo_len hs
   simp only[Option.bind_some,pjStep] at h
   split at h
   ·cases h
   split at h
   ·cases h
   ·obtain ⟨rows,_,rfl⟩:=Option.map_eq_some_iff.1 h
    simp[this]
theorem projectI_ok (d like:GDb) (hd:okDb d) (hk: ∀t∈d.fCat.fTables,t.fKeys.length≤1048576) (hl:okDb like) (hlk: ∀t∈like.fCat.fTables,t.fKeys.length≤1048576):VC Tryz.prog 28 [vDb d,vDb like] [(true,mDb ((project d like).getD dDb)),(false,[(.s,.sc (.bool (project d like).isSome))])]:=by
 refine vc_of_ew good hm [0,1,2,3,4,5,21,6,26,27,28,29,8,9,38,10,49,11,12,13,67] Tryz.func28 rfl (by kernel_rfl) (by kernel_rfl) rfl ?_
 simp[Tryz.f28,mDb]
 refine .of (dbOkI_ok d hd hk) ?_
 simp
 refine .of (fun h=>⟨h,dbOkI_ok like hl hlk⟩) ?_
 simp
 refine ⟨fun h=> ?_,fun h1 h2=> ?_⟩
 ·have:project d like=none:=by
   unfold project
   rw[if_neg (by grind)]
  simp[this,dDb,dCat]
 have hp:project d like=pjTo d like.fCat.fTables like.fCat.fTables.length:=by
  unfold project
  rw[if_pos ⟨h1,h2⟩]
 rw[hp]
 have hcl:=((catOk_iff _).1 (dbOk_cat h2)).2.1
 refine ew_loop (fun E=> ∃ (i:Nat) (A:GDb),i≤like.fCat.fTables.length∧pjTo d like.fCat.fTables i=some A∧E= {nt:=86,sl:= [(2,.p (.bx 2 0)),(4,.p (.bx 4 0)),(6,.p (.bx 6 0)),(26,vTableS like.fCat.fTables),(27,int .i64 like.fCat.fTables.length),(28,int .i64 i)],bx:= [(2,cDb d),(4,[.n [Lf.sc (Value.string ⟨#[]⟩),Lf.ls [Lf.sc (Value.string ⟨#[]⟩),Lf.sc (Value.int IntKind.i64 0),Lf.sc (Value.bool false),Lf.sc (Value.bool false),Lf.sc (Value.int IntKind.i64 0),Lf.sc (Value.int IntKind.i64 0),Lf.sc (Value.string ⟨#[]⟩)] [],Lf.ls [Lf.sc (Value.string ⟨#[]⟩)] []],.n [Lf.ls [Lf.ls [Lf.sc (Value.int IntKind.i64 0),Lf.sc (Value.int IntKind.i64 0),Lf.sc (Value.string ⟨#[]⟩)] []] []]]),(6,[.r [990],.r [991]])],rt:= [(990,(Md.o 162 (fun _=> [Md.s,(Md.o 168 (fun _=> [Md.s,Md.s,Md.s,Md.s,Md.s,Md.s,Md.s])),Md.o 9 (fun _=> [Md.s])])),.ls [Lf.sc (Value.string ⟨#[]⟩),Lf.ls [Lf.sc (Value.string ⟨#[]⟩),Lf.sc (Value.int IntKind.i64 0),Lf.sc (Value.bool false),Lf.sc (Value.bool false),Lf.sc (Value.int IntKind.i64 0),Lf.sc (Value.int IntKind.i64 0),Lf.sc (Value.string ⟨#[]⟩)] [],Lf.ls [Lf.sc (Value.string ⟨#[]⟩)] []] (A.fCat.fTables.map eTable)),(991,(Md.o 171 (fun _=> [(Md.o 75 (fun _=> [(Md.o 166 (fun _=> [Md.s,Md.s,Md.s]))]))])),.ls [Lf.ls [Lf.ls [Lf.sc (Value.int IntKind.i64 0),Lf.sc (Value.int IntKind.i64 0),Lf.sc (Value.string ⟨#[]⟩)] []] []] (A.fData.map eRows))]}) (fun E=>like.fCat.fTables.length- (E.num 28).toNat) _ ((Gh.nlB _ 6 0 990 162 (fun _=> [Md.s,(Md.o 168 (fun _=> [Md.s,Md.s,Md.s,Md.s,Md.s,Md.s,Md.s])),Md.o 9 (fun _=> [Md.s])]) [Lf.sc (Value.string ⟨#[]⟩),Lf.ls [Lf.sc (Value.string ⟨#[]⟩),Lf.sc (Value.int IntKind.i64 0),Lf.sc (Value.bool false),Lf.sc (Value.bool false),Lf.sc (Value.int IntKind.i64 0),Lf.sc (Value.int IntKind.i64 0),Lf.sc (Value.string ⟨#[]⟩)] [],Lf.ls [Lf.sc (Value.string ⟨#[]⟩)] []]).trans ((Gh.nlB _ 6 1 991 171 (fun _=> [(Md.o 75 (fun _=> [(Md.o 166 (fun _=> [Md.s,Md.s,Md.s]))]))]) [Lf.ls [Lf.ls [Lf.sc (Value.int IntKind.i64 0),Lf.sc (Value.int IntKind.i64 0),Lf.sc (Value.string ⟨#[]⟩)] []] []]).trans (Gh.kb _ [2,4,6,26,27,28] [2,4,6] [990,991]))) ⟨0,⟨⟨[]⟩,[]⟩,by omega,rfl,by simp⟩ ?_
 rintro E1 ⟨i,A,hi,hx,rfl⟩
 have hAl:=pjTo_len hx
 have hsu:pjTo d like.fCat.fTables (i+1)=pjStep d A (like.fCat.fTables[i]?.getD dTable):=by
  rw[pjTo,hx]
  rfl
 simp
 refine ⟨fun h=>⟨h, ?_⟩,fun h=> ?_⟩
 ·have htk:=dbOk_tab h2 _ (getD_mem dTable h)
  generalize hrr:like.fCat.fTables[i]?.getD dTable=t at hsu htk
  have htb:=tableOk_ok htk
  refine .of (at_ok d.fCat t.fName hd.1.1.1) ?_
  have hps:pjStep d A t=if tabAt d.fCat.fTables t.fName<0 then none else if unk (pjF d t) t.fKeys=true then none else
   (lkTo (pjF d t) (lkT t (pjF d t)) (pjL d t) (pjL d t).length).map fun rows=>⟨⟨A.fCat.fTables++ [lkT t (pjF d t)]⟩,A.fData++ [⟨rows⟩]⟩:=rfl
  simp
  refine ⟨fun hc=> ?_,fun hc=> ?_⟩
  ·rw[hps,if_pos hc] at hsu
   rw[pjTo_none hsu _ h]
   simp[dDb,dCat]
  rw[if_neg (by omega)] at hps
  obtain ⟨g1,g2,g3,g4⟩:=pj_bd h1 (t:=t) (by omega)
  have g5:=tableOk_ok g1
  refine ⟨⟨hc,by omega⟩, ?_⟩
  have g6:=pjL_len h1 hc
  have eF:d.fCat.fTables[(tabAt d.fCat.fTables t.fName).toNat]?.getD dTable=pjF d t:=rfl
  have eL:(d.fData[(tabAt d.fCat.fTables t.fName).toNat]?.getD dRows).fRows=pjL d t:=rfl
  rw[eF]
  generalize pjF d t=f at*
  generalize pjL d t=L at*
  refine .of (isUnknown_ok f t.fKeys g5.1.2.1.1 htb.1.2.2.1.1) ?_
  simp
  refine ⟨fun hu=> ?_,fun hu=> .of (likeTable_ok t f htb.2.1 htb.2.2 g5.1.2.1.1) ?_⟩
  ·rw[hps,if_pos hu] at hsu
   rw[pjTo_none hsu _ h]
   simp[dDb,dCat]
  rw[if_neg (by simp[hu])] at hps
  have hT:=lkT_ok htk hu
  generalize lkT t f=to at*
  have hlr:=likeRows_ok f to L g1 hT g6 g2
  simp[mTable]
  rw[eL]
  refine ⟨⟨hc,by omega⟩,.of hlr ?_⟩
  simp[mRowS]
  refine ⟨fun hn=> ?_,fun hs=> ?_⟩
  ·rw[hps,hn] at hsu
   rw[pjTo_none hsu _ h]
   simp[dDb,dCat]
  obtain ⟨rows,hR⟩:=Option.isSome_iff_exists.1 hs
  rw[hR] at hps
  rw[hps] at hsu
  simp[hR]
  refine ⟨by omega,by omega,.of _ ((Gh.kb _ [2,4,6,26,27,28] [2,4,6] [74,82]).trans ((Gh.rn _ 74 990).trans (Gh.rn _ 82 991))) ⟨i+1,by omega,_,hsu, ?_⟩ ?_⟩
  ·simp[wrapS (show i<9223372036854775807 by omega)]
  ·simp[wrapS (show i<9223372036854775807 by omega)];omega
 ·have:i=like.fCat.fTables.length:=by omega
  subst this
  rw[hx]
  simp
end Go.Proofs.YtcgalnoekjnjoaaGreat
namespace Go.Proofs.YtcgalnoekjnjoaaGreat
open Go Go.Proofs Go.Sm
attribute [local simp] ti eStr eInt eByte eVal cVal vVal eValS vValS eRow cRow vRow eCol vCol vColS eStrS vStrS cDdl vDdl vStmt ePart vPart eTable cTable vTable vTableS cCat vCat vRowS eRows vRows vRowsS eDb cDb vDb eSnap vSnap
set_option linter.unusedVariables false
set_option linter.unusedSimpArgs false
set_option maxRecDepth 8000
theorem l10Table_ok (t f:GTable) (hb:bdTable t) (hf:okM f.fCols.length):VC Tryz.prog 104 [vTable t,vTable f] [(true,mTable (lkT t f))]:=by
 refine vc_of_ew good hm [0,1,2,3,4,5,11,12,13,14,7,6,22] Tryz.func104 rfl (by kernel_rfl) (by kernel_rfl) rfl ?_
 simp[Tryz.f104,mTable]
 refine .of (l02Table_ok t hb) ?_
 simp[mTable]
 refine ew_loop (fun E=> ∃i:Nat,i≤t.fCols.length∧E= {nt:=41,sl:= [(3,.p (.bx 3 0)),(4,.p (.bx 4 0)),(5,.p (.bx 5 0)),(11,.v false [.r [1009]]),(12,int .i64 t.fCols.length),(13,int .i64 i)],bx:= [(3,cTable f),(4,[.s (.sc (.string ⟨#[]⟩)),.n [Lf.sc (Value.string ⟨#[]⟩),Lf.sc (Value.int IntKind.i64 0),Lf.sc (Value.bool false),Lf.sc (Value.bool false),Lf.sc (Value.int IntKind.i64 0),Lf.sc (Value.int IntKind.i64 0),Lf.sc (Value.string ⟨#[]⟩)],.n [.sc (.string ⟨#[]⟩)]]),(5,[.s (.sc (.string t.fName)),.r [1009],.r [2009]])],rt:= [(1009,(Md.o 168 (fun _=> [Md.s,Md.s,Md.s,Md.s,Md.s,Md.s,Md.s])),.ls [Lf.sc (Value.string ⟨#[]⟩),Lf.sc (Value.int IntKind.i64 0),Lf.sc (Value.bool false),Lf.sc (Value.bool false),Lf.sc (Value.int IntKind.i64 0),Lf.sc (Value.int IntKind.i64 0),Lf.sc (Value.string ⟨#[]⟩)] ((chTo (lkC f) t.fCols i).map eCol)),(2009,.o 9 (fun _=> [.s]),.ls [.sc (.string ⟨#[]⟩)] (t.fKeys.map eStr))]}) (fun E=>t.fCols.length- (E.num 13).toNat) _ (Gh.kb _ [3,4,5,11,12,13] [3,4,5] [1009,2009]) ⟨0,by omega,by simp[chTo_zero]⟩ ?_
 rintro E1 ⟨i,hi,rfl⟩
 have hlen:=chTo_len (lkC f) t.fCols i
 have hget:=chTo_get (lkC f) t.fCols i
 have hsu:=fun h=>chTo_succ (lkC f) dCol (l:=t.fCols) (i:=i) h
 have hal:=chTo_all (lkC f) t.fCols
 have hb1:=hb.1
 generalize hM:chTo (lkC f) t.fCols i=M at hlen hget hsu
 simp
 refine ⟨fun h=> ?_,fun h=> ?_⟩
 ·have hMi:M[i]'(by omega)=t.fCols[i]:=by
   rw[List.getElem?_eq_getElem (by omega),List.getElem?_eq_getElem h] at hget
   exact Option.some.inj hget
  simp[md,lf,eCol,List.range',hlen,h,hMi]
  have hl:lkC f t.fCols[i]=if colAt f t.fCols[i].fName<0 then ⟨t.fCols[i].fName,t.fCols[i].fTy,false,false,dVal⟩ else t.fCols[i]:=rfl
  refine .of (colAtS_ok f _ hf) ?_
  simp
  refine ⟨fun hc=> ?_,fun hc=> .of _ (Gh.kb _ [3,4,5,11,12,13] [3,4,5] [1009,2009]) ⟨i+1,by omega, ?_⟩ ?_⟩
  ·have e1:M[i]?.getD dCol=t.fCols[i]:=by rw[hget,List.getElem?_eq_getElem h];rfl
   rw[e1]
   refine ⟨by omega,.of _ (Gh.kb _ [3,4,5,11,12,13] [3,4,5] [1009,2009]) ⟨i+1,by omega, ?_⟩ ?_⟩
   ·rw[hsu h,List.map_set,List.getElem?_eq_getElem h,Option.getD_some,hl,if_pos hc]
    simp[wrapS (show i<9223372036854775807 by omega),eCol,dVal,List.getElem?_set,hlen,h]
   ·simp[wrapS (show i<9223372036854775807 by omega)];omega
  ·have:M.set i t.fCols[i]=M:=by
    rw[←hMi]
    exact List.set_getElem_self _
   rw[hsu h,List.getElem?_eq_getElem h,Option.getD_some,hl,if_neg (by omega),this]
   simp[wrapS (show i<9223372036854775807 by omega)]
  ·simp[wrapS (show i<9223372036854775807 by omega)];omega
 ·have:i=t.fCols.length:=by omega
  subst this
  rw[hal] at hM
  subst hM
  simp[lkT]
theorem l10Lay_ok (t:GTable) (l:List GRow) (v:List GVal) (ht:okTable t) (hk:t.fKeys.length≤1048576) (hl:l.length≤1048576) (hb: ∀x∈l,x.fVals.length≤1048576) (hv:v.length≤1048576) (hin:tableOk t=true→ ∀x∈l,keysIn t x) (hir:tableOk t=true→keysIn t ⟨v⟩):
  VX Tryz.prog 105 [vTable t,.v false [.r [900]],.v true [.r [901]]] [((Md.o 75 (fun _=> [(Md.o 166 (fun _=> [Md.s,Md.s,Md.s]))])),.ls [Lf.ls [Lf.sc (Value.int IntKind.i64 0),Lf.sc (Value.int IntKind.i64 0),Lf.sc (Value.string ⟨#[]⟩)] []] (l.map eRow)),((Md.o 166 (fun _=> [Md.s,Md.s,Md.s])),.ls [Lf.sc (Value.int IntKind.i64 0),Lf.sc (Value.int IntKind.i64 0),Lf.sc (Value.string ⟨#[]⟩)] (v.map eVal))] [(false,mRowS (if tableOk t=true then insW (fun y=> !rowLt t ⟨v⟩ y) ⟨v⟩ l else l++ [⟨v⟩]))]:=by
 refine vx_of_ew good hm [0,1,2,3,5,6,9] Tryz.func105 rfl (by kernel_rfl) (by kernel_rfl) rfl ?_
 simp[Tryz.f105,mRowS]
 refine .of (tableOkS_ok t ht) ?_
 simp
 refine ⟨fun h=>⟨by omega, ?_⟩,fun h=> .of (l03Lay_ok t l ⟨v⟩ ht hk hl hb hv (hin h) (hir h)) ?_⟩
 ·refine .of _ (Gh.refl _) ?_
  simp[h]
 ·simp[mRowS]
  refine .of _ (Gh.refl _) ?_
  simp[h]
end Go.Proofs.YtcgalnoekjnjoaaGreat
namespace Go.Proofs.YtcgalnoekjnjoaaGreat
open Go Go.Proofs Go.Sm
attribute [local simp] ti eStr eInt eByte eVal cVal vVal eValS vValS eRow cRow vRow eCol vCol vColS eStrS vStrS cDdl vDdl vStmt ePart vPart eTable cTable vTable vTableS cCat vCat vRowS eRows vRows vRowsS eDb cDb vDb eSnap vSnap
set_option linter.unusedVariables false
set_option linter.unusedSimpArgs false
set_option maxRecDepth 8000
theorem keysIn_len {t:GTable} (h:tableOk t=true) {r:GRow} (hr:r.fVals.length=t.fCols.length):keysIn t r:=by
 intro k hk
 have hm:=((tableOk_iff t).1 h).2.2.2.2.2.2.1.subset hk
 have h1:=colAt_nn.2 hm
 have hb:=(idxF_bd (fun c:GCol=>c.fName.toList==k.toList) t.fCols).2
 have hb:colAt t k<t.fCols.length:=hb
 omega
theorem idxS_col (t:GTable) (s:ByteArray):idxS (colNames t.fCols) s=colAt t s:=by
 unfold idxS colAt idxF colNames
 rw[List.any_map,List.findIdx_map]
 rfl
theorem rowBy_lk {t f:GTable} {r:GRow} (ht:tableOk t=true):rowBy (colNames f.fCols) (lkT t f) r.fVals [] (lkT t f).fCols.length=(lkR f (lkT t f) r).fVals:=by
 have hpos:1≤(lkT t f).fCols.length:=by
  have:=((tableOk_iff t).1 ht).2.1
  simpa [lkT] using this
 unfold rowBy lkR
 refine List.ext_getElem (by simp) fun i h1 h2=> ?_
 simp only[List.length_map,List.length_range] at h1
 rw[List.getElem_map,List.getElem_range,List.getElem_map]
 unfold byName lkV
 rw[List.getElem?_eq_getElem h1,Option.getD_some,idxS_col]
 split
 ·rfl
 ·rename_i hn
  rw[if_neg (by simp;omega)]
  have: ∃c0,(lkT t f).fCols[i]=lkC f c0:=⟨t.fCols[i]'(by simpa [lkT] using h1),by simp[lkT]⟩
  obtain ⟨c0,hc0⟩:=this
  rw[hc0] at hn⊢
  rw[lkC_name] at hn
  unfold lkC
  rw[if_pos (by omega)]
theorem lyTo_mem {f to:GTable} {l:List GRow}: ∀ {i:Nat} {x:GRow},x∈lyTo f to l i→ ∃j,j<i∧x=lkR f to (l[j]?.getD dRow)
 |0,x,h=>by cases h
 |i+1,x,h=>by
  rw[lyTo] at h
  have:x=lkR f to (l[i]?.getD dRow)∨x∈lyTo f to l i:=by
   split at h
   ·exact insW_mem.1 h
   ·rcases List.mem_append.1 h with h|h
    ·exact .inr h
    ·exact .inl (List.mem_singleton.1 h)
  rcases this with h|h
  ·exact ⟨i,by omega,h⟩
  ·obtain ⟨j,h1,h2⟩:=lyTo_mem h
   exact ⟨j,by omega,h2⟩
theorem lkC_ok {f:GTable} {c:GCol} (h:colOk c=true):colOk (lkC f c)=true:=by
 unfold lkC
 split
 ·simp only[colOk,Bool.and_eq_true] at h⊢
  exact ⟨h.1,by simp[nullV,dVal,em]⟩
 ·exact h
theorem lkT_okT {t f:GTable} (h:tableOk t=true):okTable (lkT t f):=by
 have h1:=(tableOk_ok h).1
 refine ⟨h1.1,⟨by simpa [lkT] using h1.2.1.1,fun c hc=> ?_⟩,h1.2.2.1,trivial⟩
 obtain ⟨c0,hc0,rfl⟩:=List.mem_map.1 hc
 exact colOk_ok (lkC_ok (((tableOk_iff t).1 h).2.2.2.2.1 c0 hc0))
theorem lyTo_ok {f to:GTable} {l:List GRow} (hc:to.fCols.length≤8) (hl:l.length≤60) (hr: ∀r∈l,rowFit f r=true):okRowS (lyTo f to l l.length):=by
 refine ⟨by rw[lyTo_len];unfold okM;omega,fun x hx=> ?_⟩
 obtain ⟨j,hj,rfl⟩:=lyTo_mem hx
 exact lkR_ok (hr _ (getD_mem dRow hj)) hc
theorem spTo_ok {d like r:GDb} (hd:dbOk d=true) (hl:dbOk like=true) (h:spTo d like.fCat.fTables like.fCat.fTables.length=some r) (hat: ∀t∈like.fCat.fTables,0≤tabAt d.fCat.fTables t.fName):okDb r∧ ∀t∈r.fCat.fTables,t.fKeys.length≤1048576:=by
 have hs:=spTo_shape (Nat.le_refl _) h
 rw[List.take_length] at hs
 subst hs
 have hc:=((catOk_iff _).1 (dbOk_cat hl)).2.1
 have ht:=dbOk_tab hl
 refine ⟨⟨⟨⟨by simp[okM];omega,fun t h'=> ?_⟩,trivial⟩,⟨by simp[okM];omega,fun x h'=> ?_⟩,trivial⟩,fun t h'=> ?_⟩
 ·obtain ⟨t0,ht0,rfl⟩:=List.mem_map.1 h'
  exact lkT_okT (ht t0 ht0)
 ·obtain ⟨t0,ht0,rfl⟩:=List.mem_map.1 h'
  have g:=pj_bd hd (hat t0 ht0)
  exact ⟨lyTo_ok (by have:=(tableOk_len (ht t0 ht0)).1;simpa [lkT] using this) (pjL_len hd (hat t0 ht0)) g.2.1,trivial⟩
 ·obtain ⟨t0,ht0,rfl⟩:=List.mem_map.1 h'
  exact (tableOk_ok (ht t0 ht0)).2.2
theorem spTo_at {d:GDb} {l:List GTable}: ∀ {i:Nat} {r:GDb},spTo d l i=some r→ ∀j,j<i→0≤tabAt d.fCat.fTables (l[j]?.getD dTable).fName
 |0,_,_,j,hj=>by omega
 |i+1,r,h,j,hj=>by
  rw[spTo] at h
  cases hs:spTo d l i with
  |none=>rw[hs] at h;cases h
  |some a=>
   rw[hs] at h
   simp only[Option.bind_some,spStep] at h
   split at h
   ·cases h
   ·rcases Nat.lt_or_ge j i with h1|h1
    ·exact spTo_at hs j h1
    ·have:j=i:=by omega
     subst this
     omega
theorem spTo_none {d:GDb} {l:List GTable} {i:Nat} (h:spTo d l i=none): ∀j,i≤j→spTo d l j=none
 |j,hj=>by
  induction j with
  |zero=>cases Nat.le_zero.1 hj;exact h
  |succ j ih=>
   rcases Nat.lt_or_ge j i with hlt|hge
   ·have:i=j+1:=by omega
    rw[←this];exact h
   ·rw[spTo,ih hge];rfl
theorem spTo_len {d:GDb} {l:List GTable} {i:Nat} {r:GDb} (hi:i≤l.length) (h:spTo d l i=some r):r.fCat.fTables.length=i∧r.fData.length=i:=by
 have:=spTo_shape hi h
 subst this
 simp
 omega
theorem projectS_ok (d like:GDb) (hd:okDb d) (hk: ∀t∈d.fCat.fTables,t.fKeys.length≤1048576) (hl:okDb like) (hlk: ∀t∈like.fCat.fTables,t.fKeys.length≤1048576):VC Tryz.prog 26 [vDb d,vDb like] [(true,fDb ((specProject d like).getD dDb)),(false,[(.s,.sc (.bool (specProject d like).isSome))])]:=by
 refine vc_of_ewF good hm [0,1,2,3,4,5,25,6,30,31,32,33,8,9,42,10,11,12,55,56,57,58,14,15,73,74,75,76,17,107] Tryz.func26 rfl (by kernel_rfl) (by kernel_rfl) rfl ?_
 simp[Tryz.f26,fDb]
 refine .of (dbOkS_ok d hd hk) ?_
 simp
 refine .of (fun h=>⟨h,dbOkS_ok like hl hlk⟩) ?_
 simp
 refine ⟨fun h=> ?_,fun h1 h2=> ?_⟩
 ·have:specProject d like=none:=by
   unfold specProject
   rw[if_neg (by grind)]
  simp[this,dDb,dCat]
 have hp:specProject d like=(spTo d like.fCat.fTables like.fCat.fTables.length).bind fun r=>if dbOk r=true then some r else none:=by
  unfold specProject
  rw[if_pos ⟨h1,h2⟩]
 rw[hp]
 have hcl:=((catOk_iff _).1 (dbOk_cat h2)).2.1
 refine ew_loop (fun E=> ∃ (i:Nat) (A:GDb),i≤like.fCat.fTables.length∧spTo d like.fCat.fTables i=some A∧E= {nt:=110,sl:= [(2,.p (.bx 2 0)),(4,.p (.bx 4 0)),(6,.p (.bx 6 0)),(30,vTableS like.fCat.fTables),(31,int .i64 like.fCat.fTables.length),(32,int .i64 i)],bx:= [(2,cDb d),(4,[.n [Lf.sc (Value.string ⟨#[]⟩),Lf.ls [Lf.sc (Value.string ⟨#[]⟩),Lf.sc (Value.int IntKind.i64 0),Lf.sc (Value.bool false),Lf.sc (Value.bool false),Lf.sc (Value.int IntKind.i64 0),Lf.sc (Value.int IntKind.i64 0),Lf.sc (Value.string ⟨#[]⟩)] [],Lf.ls [Lf.sc (Value.string ⟨#[]⟩)] []],.n [Lf.ls [Lf.ls [Lf.sc (Value.int IntKind.i64 0),Lf.sc (Value.int IntKind.i64 0),Lf.sc (Value.string ⟨#[]⟩)] []] []]]),(6,[.r [990],.r [991]])],rt:= [(990,.o 162 (fun _=> [.s,.s,.s]),.ls [Lf.sc (Value.string ⟨#[]⟩),Lf.ls [Lf.sc (Value.string ⟨#[]⟩),Lf.sc (Value.int IntKind.i64 0),Lf.sc (Value.bool false),Lf.sc (Value.bool false),Lf.sc (Value.int IntKind.i64 0),Lf.sc (Value.int IntKind.i64 0),Lf.sc (Value.string ⟨#[]⟩)] [],Lf.ls [Lf.sc (Value.string ⟨#[]⟩)] []] (A.fCat.fTables.map eTable)),(991,(Md.o 171 (fun _=> [(Md.o 75 (fun _=> [(Md.o 166 (fun _=> [Md.s,Md.s,Md.s]))]))])),.ls [Lf.ls [Lf.ls [Lf.sc (Value.int IntKind.i64 0),Lf.sc (Value.int IntKind.i64 0),Lf.sc (Value.string ⟨#[]⟩)] []] []] (A.fData.map eRows))]}) (fun E=>like.fCat.fTables.length- (E.num 32).toNat) _ ((Gh.nlB _ 6 0 990 162 (fun _=> [.s,.s,.s]) [Lf.sc (Value.string ⟨#[]⟩),Lf.ls [Lf.sc (Value.string ⟨#[]⟩),Lf.sc (Value.int IntKind.i64 0),Lf.sc (Value.bool false),Lf.sc (Value.bool false),Lf.sc (Value.int IntKind.i64 0),Lf.sc (Value.int IntKind.i64 0),Lf.sc (Value.string ⟨#[]⟩)] [],Lf.ls [Lf.sc (Value.string ⟨#[]⟩)] []]).trans ((Gh.nlB _ 6 1 991 171 (fun _=> [(Md.o 75 (fun _=> [(Md.o 166 (fun _=> [Md.s,Md.s,Md.s]))]))]) [Lf.ls [Lf.ls [Lf.sc (Value.int IntKind.i64 0),Lf.sc (Value.int IntKind.i64 0),Lf.sc (Value.string ⟨#[]⟩)] []] []]).trans (Gh.kb _ [2,4,6,30,31,32] [2,4,6] [990,991]))) ⟨0,⟨⟨[]⟩,[]⟩,by omega,rfl,by simp⟩ ?_
 rintro E1 ⟨i,A,hi,hx,rfl⟩
 have hAl:=spTo_len hi hx
 have hsu:spTo d like.fCat.fTables (i+1)=spStep d A (like.fCat.fTables[i]?.getD dTable):=by
  rw[spTo,hx]
  rfl
 simp
 refine ⟨fun h=>⟨h, ?_⟩,fun h=> ?_⟩
 ·have htk:=dbOk_tab h2 _ (getD_mem dTable h)
  generalize hrr:like.fCat.fTables[i]?.getD dTable=t at hsu htk
  have htb:=tableOk_ok htk
  have hps:spStep d A t=if tabAt d.fCat.fTables t.fName<0 then none else some ⟨⟨A.fCat.fTables++ [lkT t (pjF d t)]⟩,A.fData++ [⟨pjY d t⟩]⟩:=rfl
  refine .of (l02At_ok d.fCat t.fName hd.1.1.1) ?_
  simp
  refine ⟨fun hc=> ?_,fun hc=> ?_⟩
  ·rw[hps,if_pos hc] at hsu
   rw[spTo_none hsu _ h]
   simp[dDb,dCat]
  rw[if_neg (by omega)] at hps
  obtain ⟨g1,g2,g3,g4⟩:=pj_bd h1 (t:=t) (by omega)
  have g5:=tableOk_ok g1
  have g6:=pjL_len h1 hc
  have eF:d.fCat.fTables[(tabAt d.fCat.fTables t.fName).toNat]?.getD dTable=pjF d t:=rfl
  have eL:(d.fData[(tabAt d.fCat.fTables t.fName).toNat]?.getD dRows).fRows=pjL d t:=rfl
  have eY:pjY d t=lyTo (pjF d t) (lkT t (pjF d t)) (pjL d t) (pjL d t).length:=rfl
  have eB:=fun r=>rowBy_lk (t:=t) (f:=pjF d t) (r:=r) htk
  have eT:=lkT_okT (f:=pjF d t) htk
  have eK:(lkT t (pjF d t)).fKeys.length≤1048576:=htb.2.2
  have eC:(lkT t (pjF d t)).fCols.length≤8:=by have:=(tableOk_len htk).1;simpa [lkT] using this
  refine ⟨⟨hc,by omega⟩, ?_⟩
  rw[eF]
  generalize pjF d t=f at*
  generalize pjL d t=L at*
  generalize pjY d t=Y at*
  refine .of ((l10Table_ok t f htb.2 g5.1.2.1.1).frz (by simp[FullRs,FullML,mTable])) ?_
  generalize lkT t f=to at*
  simp[mTable]
  refine ew_loop (fun E=> ∃j:Nat,j≤f.fCols.length∧E= {nt:=110,sl:= [(2,.p (.bx 2 0)),(4,.p (.bx 4 0)),(6,.p (.bx 6 0)),(30,vTableS like.fCat.fTables),(31,int .i64 like.fCat.fTables.length),(32,int .i64 i),(9,int .i64 (tabAt d.fCat.fTables t.fName)),(11,.p (.bx 11 0)),(12,.v false [.r [53]]),(55,vColS f.fCols),(56,int .i64 f.fCols.length),(57,int .i64 j)],bx:= [(2,cDb d),(4,[.n [Lf.sc (Value.string ⟨#[]⟩),Lf.ls [Lf.sc (Value.string ⟨#[]⟩),Lf.sc (Value.int IntKind.i64 0),Lf.sc (Value.bool false),Lf.sc (Value.bool false),Lf.sc (Value.int IntKind.i64 0),Lf.sc (Value.int IntKind.i64 0),Lf.sc (Value.string ⟨#[]⟩)] [],Lf.ls [Lf.sc (Value.string ⟨#[]⟩)] []],.n [Lf.ls [Lf.ls [Lf.sc (Value.int IntKind.i64 0),Lf.sc (Value.int IntKind.i64 0),Lf.sc (Value.string ⟨#[]⟩)] []] []]]),(6,[.r [990],.r [991]]),(11,cTable to)],rt:= [(53,.o 9 (fun _=> [.s]),.ls [.sc (.string ⟨#[]⟩)] ((colNames (f.fCols.take j)).map eStr)),(990,.o 162 (fun _=> [.s,.s,.s]),.ls [Lf.sc (Value.string ⟨#[]⟩),Lf.ls [Lf.sc (Value.string ⟨#[]⟩),Lf.sc (Value.int IntKind.i64 0),Lf.sc (Value.bool false),Lf.sc (Value.bool false),Lf.sc (Value.int IntKind.i64 0),Lf.sc (Value.int IntKind.i64 0),Lf.sc (Value.string ⟨#[]⟩)] [],Lf.ls [Lf.sc (Value.string ⟨#[]⟩)] []] (A.fCat.fTables.map eTable)),(991,(Md.o 171 (fun _=> [(Md.o 75 (fun _=> [(Md.o 166 (fun _=> [Md.s,Md.s,Md.s]))]))])),.ls [Lf.ls [Lf.ls [Lf.sc (Value.int IntKind.i64 0),Lf.sc (Value.int IntKind.i64 0),Lf.sc (Value.string ⟨#[]⟩)] []] []] (A.fData.map eRows))]}) (fun E=>f.fCols.length- (E.num 57).toNat) _ (Gh.kb _ [2,4,6,30,31,32,9,11,12,55,56,57] [2,4,6,11] [53,990,991]) ⟨0,by omega, ?_⟩ ?_
  ·simp[cTable,colNames]
  rintro E2 ⟨j,hj,rfl⟩
  simp[cTable]
  have hfl:=(tableOk_len g1).1
  have hcj:(colNames (f.fCols.take j)).length=j:=by simp[colNames];omega
  refine ⟨fun hjl=>⟨hjl,by omega,.of _ ((Gh.kb _ [2,4,6,30,31,32,9,11,12,55,56,57] [2,4,6,11] [65,990,991]).trans (Gh.rn _ 65 53)) ⟨j+1,by omega, ?_⟩ ?_⟩,fun hjl=>⟨⟨hc,by omega⟩, ?_⟩⟩
  ·have e:colNames (f.fCols.take (j+1))=colNames (f.fCols.take j)++ [(f.fCols[j]?.getD dCol).fName]:=by
    rw[List.take_succ_eq_append_getElem hjl,List.getElem?_eq_getElem hjl]
    simp only[colNames,List.map_append,List.map_cons,List.map_nil,Option.getD_some]
   rw[e]
   simp[wrapS (show j<9223372036854775807 by omega),cTable,eStr]
  ·simp[wrapS (show j<9223372036854775807 by omega)];omega
  have:j=f.fCols.length:=by omega
  subst this
  rw[List.take_length,eL]
  refine ew_loop (fun E=> ∃k:Nat,k≤L.length∧E= {nt:=110,sl:= [(2,.p (.bx 2 0)),(4,.p (.bx 4 0)),(6,.p (.bx 6 0)),(30,vTableS like.fCat.fTables),(31,int .i64 like.fCat.fTables.length),(32,int .i64 i),(11,.p (.bx 11 0)),(12,.v false [.r [53]]),(15,.v false [.r [67]]),(73,vRowS L),(74,int .i64 L.length),(75,int .i64 k)],bx:= [(2,cDb d),(4,[.n [Lf.sc (Value.string ⟨#[]⟩),Lf.ls [Lf.sc (Value.string ⟨#[]⟩),Lf.sc (Value.int IntKind.i64 0),Lf.sc (Value.bool false),Lf.sc (Value.bool false),Lf.sc (Value.int IntKind.i64 0),Lf.sc (Value.int IntKind.i64 0),Lf.sc (Value.string ⟨#[]⟩)] [],Lf.ls [Lf.sc (Value.string ⟨#[]⟩)] []],.n [Lf.ls [Lf.ls [Lf.sc (Value.int IntKind.i64 0),Lf.sc (Value.int IntKind.i64 0),Lf.sc (Value.string ⟨#[]⟩)] []] []]]),(6,[.r [990],.r [991]]),(11,cTable to)],rt:= [(67,(Md.o 75 (fun _=> [(Md.o 166 (fun _=> [Md.s,Md.s,Md.s]))])),.ls [Lf.ls [Lf.sc (Value.int IntKind.i64 0),Lf.sc (Value.int IntKind.i64 0),Lf.sc (Value.string ⟨#[]⟩)] []] ((lyTo f to L k).map eRow)),(53,.o 9 (fun _=> [.s]),.ls [.sc (.string ⟨#[]⟩)] ((colNames f.fCols).map eStr)),(990,.o 162 (fun _=> [.s,.s,.s]),.ls [Lf.sc (Value.string ⟨#[]⟩),Lf.ls [Lf.sc (Value.string ⟨#[]⟩),Lf.sc (Value.int IntKind.i64 0),Lf.sc (Value.bool false),Lf.sc (Value.bool false),Lf.sc (Value.int IntKind.i64 0),Lf.sc (Value.int IntKind.i64 0),Lf.sc (Value.string ⟨#[]⟩)] [],Lf.ls [Lf.sc (Value.string ⟨#[]⟩)] []] (A.fCat.fTables.map eTable)),(991,(Md.o 171 (fun _=> [(Md.o 75 (fun _=> [(Md.o 166 (fun _=> [Md.s,Md.s,Md.s]))]))])),.ls [Lf.ls [Lf.ls [Lf.sc (Value.int IntKind.i64 0),Lf.sc (Value.int IntKind.i64 0),Lf.sc (Value.string ⟨#[]⟩)] []] []] (A.fData.map eRows))]}) (fun E=>L.length- (E.num 75).toNat) _ (Gh.kb _ [2,4,6,30,31,32,11,12,15,73,74,75] [2,4,6,11] [67,53,990,991]) ⟨0,by omega, ?_⟩ ?_
  ·simp[cTable,lyTo]
  rintro E3 ⟨k,hk3,rfl⟩
  simp[cTable]
  have hll:=lyTo_len f to L k
  have hlk2: ∀r,(lkR f to r).fVals.length=to.fCols.length:=fun r=>by simp[lkR]
  have hlx: ∀x∈lyTo f to L k,x.fVals.length=to.fCols.length:=fun x hx=>by
   obtain ⟨m,_,rfl⟩:=lyTo_mem hx
   exact hlk2 _
  refine ⟨fun hkl=>⟨hkl, ?_⟩,fun hkl=> ?_⟩
  ·have hrm:=g2 _ (getD_mem dRow hkl)
   have hls:lyTo f to L (k+1)=if tableOk to=true then insW (fun y=> !rowLt to ⟨(lkR f to (L[k]?.getD dRow)).fVals⟩ y) ⟨(lkR f to (L[k]?.getD dRow)).fVals⟩ (lyTo f to L k) else lyTo f to L k++ [⟨(lkR f to (L[k]?.getD dRow)).fVals⟩]:=rfl
   generalize L[k]?.getD dRow=r at hrm hls
   have hrl:=rowFit_len hrm
   have hro:=l10Row_ok (colNames f.fCols) to r.fVals [] (by simp[colNames,okM];omega) (by omega) (by simp[colNames];omega)
   rw[eB] at hro
   refine .of hro ?_
   have hly:=l10Lay_ok to (lyTo f to L k) (lkR f to r).fVals eT eK (by omega) (fun x hx=>by rw[hlx x hx];omega) (by rw[hlk2];omega) (fun ht x hx=>keysIn_len ht (hlx x hx)) (fun ht=>keysIn_len ht (hlk2 r))
   simp[mRow]
   refine .use hly ?_
   simp[mRowS]
   refine .of _ ((Gh.kb _ [2,4,6,30,31,32,11,12,15,73,74,75] [2,4,6,11] [87,53,990,991]).trans (Gh.rn _ 87 67)) ⟨k+1,by omega, ?_⟩ ?_
   ·rw[hls]
    simp[wrapS (show k<9223372036854775807 by omega),cTable]
   ·simp[wrapS (show k<9223372036854775807 by omega)];omega
  ·have:k=L.length:=by omega
   subst this
   refine ⟨by omega,by omega,.of _ ((Gh.kb _ [2,4,6,30,31,32] [2,4,6] [94,102]).trans ((Gh.rn _ 94 990).trans (Gh.rn _ 102 991))) ⟨i+1,by omega,⟨⟨A.fCat.fTables++ [to]⟩,A.fData++ [⟨lyTo f to L L.length⟩]⟩,by rw[hsu,hps,eY], ?_⟩ ?_⟩
   ·simp[wrapS (show i<9223372036854775807 by omega),eTable,eRows]
   ·simp[wrapS (show i<9223372036854775807 by omega)];omega
 ·have:i=like.fCat.fTables.length:=by omega
  subst this
  rw[hx]
  have ho:=spTo_ok h1 h2 hx (fun t ht=>by
   obtain ⟨j,hj,rfl⟩:=List.getElem_of_mem ht
   have:=spTo_at hx j hj
   rwa [List.getElem?_eq_getElem hj] at this)
  refine .of (dbOkS_ok A ho.1 ho.2) ?_
  simp
  refine ⟨fun hb=> ?_,fun hb=> ?_⟩
  ·simp[hb,dDb,dCat]
  ·simp[hb]
end Go.Proofs.YtcgalnoekjnjoaaGreat
