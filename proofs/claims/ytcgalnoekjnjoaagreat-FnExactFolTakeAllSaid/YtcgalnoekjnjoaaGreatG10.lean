import Derived.Test.YtcgalnoekjnjoaaGreatG9
import Derived.Test.YtcgalnoekjnjoaaGreatG7
set_option maxHeartbeats 8000000
set_option maxRecDepth 8000
namespace Go.Proofs.YtcgalnoekjnjoaaGreat
open Go Go.Proofs Go.Sm
attribute [local simp] ti eStr eInt eByte eVal cVal vVal eValS vValS eRow cRow vRow eCol cCol vCol vColS eStrS vStrS eDdl cDdl vDdl cStmt vStmt ePart vPart vPartS eBatch cBatch vBatch eTable cTable vTable vTableS cCat vCat vRowS eRows vRows vRowsS eDb cDb vDb eFol cFol vFol eBatchS vBatchS vIntS
set_option linter.unusedVariables false
set_option linter.unusedSimpArgs false
set_option maxRecDepth 8000
@[simp] theorem ow_Ints (l:List Int):Ow (Md.o 3 (fun _=> [Md.s])) (.ls [Lf.sc (Value.int IntKind.i64 0)] (l.map eInt))=True:=eq_true (Ow_rows (fun x j hj=>match j,hj with|0,_=> .sc|n+1,hj=>absurd hj (by simp)) l)
@[simp] theorem full_Ints (l:List Int):Full (Md.o 3 (fun _=> [Md.s])) (.ls [Lf.sc (Value.int IntKind.i64 0)] (l.map eInt))=True:=eq_true (Full_rows (fun x j hj=>match j,hj with|0,_=> .s|n+1,hj=>absurd hj (by simp)) l)
theorem dbOk_nil:dbOk ⟨⟨[]⟩,[]⟩=true:=by decide
end Go.Proofs.YtcgalnoekjnjoaaGreat
namespace Go.Proofs.YtcgalnoekjnjoaaGreat
open Go Go.Proofs Go.Sm
attribute [local simp] ti eStr eInt eByte eVal cVal vVal eValS vValS eRow cRow vRow eCol cCol vCol vColS eStrS vStrS eDdl cDdl vDdl cStmt vStmt ePart vPart vPartS eBatch cBatch vBatch eTable cTable vTable vTableS cCat vCat vRowS eRows vRows vRowsS eDb cDb vDb eFol cFol vFol eBatchS vBatchS vIntS
set_option linter.unusedVariables false
set_option linter.unusedSimpArgs false
set_option maxRecDepth 8000
theorem takePartS_ok (d:GDb) (p:GPart) (hd:okDb d) (hk: ∀t∈d.fCat.fTables,t.fKeys.length≤1048576) (hp:okPart p) (hb:bdStmt p.fStmt) (h1:bdStrs p.fCols) (h2:bdStrs p.fKeys):
  VC Tryz.prog 57 [vDb d,vPart p] [(true,fDb (takePart d p).1),(false,[(.s,.sc (.int .i64 (takePart d p).2))])]:=by
 have hE:takePart d p=if dbOk d=false∨stmtOk p.fStmt=false then (dDb,1) else takeP d p:=rfl
 have hP:takeP d p=if p.fStmt.fKind=5 then takeDdl d p.fStmt else if (mapStP d p).2≠0 then (dDb,(mapStP d p).2) else dbExec d (mapStP d p).1:=rfl
 have hM:mapStmt d p=if dbOk d=false∨stmtOk p.fStmt=false then (dStmt,1) else mapStP d p:=rfl
 refine vc_of_ewF good hm [0,1,2,3,4,5,11,20,6,7,35] Tryz.func57 rfl (by kernel_rfl) (by kernel_rfl) rfl ?_
 simp[Tryz.f57,fDb]
 refine ⟨fun k5=> .of (dbOkS_ok d hd hk) ?_,fun k5=> .of ((mapStmtS_ok d p hd hk hp hb h1 h2).frz (by simp[FullRs,FullML,mStmt])) ?_⟩
 ·rw[if_pos k5] at hP
  simp
  have hso:=stmtOkS_ok p.fStmt hp.1
  refine .of (fun g=>⟨g,hso⟩) ?_
  simp
  refine ⟨fun h=>by rw[hE,if_pos h];simp[dDb,dCat],fun a1 a2=> ?_⟩
  have hl:=l11Ddl_ok d p.fStmt a1 a2 k5
  refine .of hl ?_
  rw[hE,if_neg (by simp[a1,a2]),hP]
  simp[fDb]
 ·rw[if_neg k5] at hP
  simp[mStmt]
  by_cases a:dbOk d=false∨stmtOk p.fStmt=false
  ·rw[if_pos a] at hM hE
   rw[hM,hE]
   simp[dDb,dCat]
  ·rw[if_neg a] at hM hE
   rw[hM,hE,hP]
   have a1:dbOk d=true:=by cases h:dbOk d<;>simp_all
   have a2:stmtOk p.fStmt=true:=by cases h:stmtOk p.fStmt<;>simp_all
   refine ⟨fun h=>by rw[if_pos h];simp[dDb,dCat],fun h=> .of (l11Exec_ok d (mapStP d p).1 a1 (mapStP_ok a1 a2 h)) ?_⟩
   rw[if_neg (by simp[h])]
   simp[fDb,-OwRs,-OwML]
theorem dbExec_fail {d:GDb} {s:GStmt} (h:(dbExec d s).2≠0):(dbExec d s).1=dDb:=by
 unfold dbExec at h⊢
 split at h
 ·rename_i h1;rw[if_pos h1]
 rename_i h1
 rw[if_neg h1]
 split at h
 ·rename_i h2
  rw[if_pos h2]
  split at h
  ·rename_i h3;rw[if_pos h3]
  ·rename_i h3;exact absurd (by omega) h3
 rename_i h2
 rw[if_neg h2]
 split at h
 ·rename_i h3;rw[if_pos h3]
 ·exact absurd rfl h
theorem dbOk_d:dbOk dDb=true:=dbOk_nil
theorem dbExec_all {d:GDb} {s:GStmt} (hd:dbOk d=true):dbOk (dbExec d s).1=true:=by
 by_cases h:(dbExec d s).2=0
 ·exact dbExec_ok hd h
 ·rw[dbExec_fail h];exact dbOk_d
theorem takeDdl_all {d:GDb} {s:GStmt} (hd:dbOk d=true):dbOk (takeDdl d s).1=true:=by
 by_cases h:(takeDdl d s).2=0
 ·exact takeDdl_ok hd h
 have e:(takeDdl d s).1=dDb:=by
  unfold takeDdl takeAdd at h⊢
  have hx:=fun g=>dbExec_fail (d:=d) (s:=s) g
  grind
 rw[e];exact dbOk_d
theorem takeP_all {d:GDb} {p:GPart} (hd:dbOk d=true):dbOk (takeP d p).1=true:=by
 unfold takeP
 split
 ·exact takeDdl_all hd
 split
 ·exact dbOk_d
 ·exact dbExec_all hd
theorem takePart_all (d:GDb) (p:GPart):dbOk (takePart d p).1=true:=by
 unfold takePart
 split
 ·exact dbOk_d
 ·rename_i h
  simp only[not_or,Bool.not_eq_false] at h
  exact takeP_all h.1
theorem I_TakePart_ok (d:GDb) (p:GPart) (o0:okDb d) (hs0: ∀n∈wDb d,n≤1048576) (_:(wDb d).sum≤1048576) (o1:okPart p) (_: ∀n∈wPart p,n≤1048576) (hz1:(wPart p).sum≤1048576):
  VC Tryz.prog 58 [vDb d,vPart p] [(true,mDb (takePart d p).1),(false,[(.s,.sc (.int .i64 (takePart d p).2))])]:=takePartI_ok d p o0 (dbKey hs0) o1 (partsum o1 hz1).1 (partsum o1 hz1).2.1 (partsum o1 hz1).2.2
theorem S_TakePart_ok (d:GDb) (p:GPart) (o0:okDb d) (hs0: ∀n∈wDb d,n≤1048576) (_:(wDb d).sum≤1048576) (o1:okPart p) (_: ∀n∈wPart p,n≤1048576) (hz1:(wPart p).sum≤1048576):VC Tryz.prog 57 [vDb d,vPart p] [(true,fDb (takePart d p).1),(false,[(.s,.sc (.int .i64 (takePart d p).2))])]:=takePartS_ok d p o0 (dbKey hs0) o1 (partsum o1 hz1).1 (partsum o1 hz1).2.1 (partsum o1 hz1).2.2
theorem TakePart_r0 (d:GDb) (p:GPart) (o0:okDb d) (hs0: ∀n∈wDb d,n≤1048576) (_:(wDb d).sum≤1048576) (o1:okPart p) (_: ∀n∈wPart p,n≤1048576) (hz1:(wPart p).sum≤1048576):(∀n∈wDb (takePart d p).1,n≤1048576)∧(wDb (takePart d p).1).sum≤1099511627776:=db_r0 (takePart_all d p)
end Go.Proofs.YtcgalnoekjnjoaaGreat
namespace Go.Proofs.YtcgalnoekjnjoaaGreat
open Go Go.Proofs Go.Sm
attribute [local simp] ti eStr eInt eByte eVal cVal vVal eValS vValS eRow cRow vRow eCol cCol vCol vColS eStrS vStrS eDdl cDdl vDdl cStmt vStmt ePart vPart vPartS eBatch cBatch vBatch eTable cTable vTable vTableS cCat vCat vRowS eRows vRows vRowsS eDb cDb vDb eFol cFol vFol eBatchS vBatchS vIntS
set_option linter.unusedVariables false
set_option linter.unusedSimpArgs false
set_option maxRecDepth 8000
def fFol (f:GFol):ML:= [(Md.s,Lf.ls [Lf.sc (Value.string ⟨#[]⟩),Lf.ls [Lf.sc (Value.string ⟨#[]⟩),Lf.sc (Value.int IntKind.i64 0),Lf.sc (Value.bool false),Lf.sc (Value.bool false),Lf.sc (Value.int IntKind.i64 0),Lf.sc (Value.int IntKind.i64 0),Lf.sc (Value.string ⟨#[]⟩)] [],Lf.ls [Lf.sc (Value.string ⟨#[]⟩)] []] (f.fDb.fCat.fTables.map eTable)),(Md.s,Lf.ls [Lf.ls [Lf.ls [Lf.sc (Value.int IntKind.i64 0),Lf.sc (Value.int IntKind.i64 0),Lf.sc (Value.string ⟨#[]⟩)] []] []] (f.fDb.fData.map eRows)),(.s,.sc (.int .i64 f.fAt)),(.s,.sc (.int .i64 f.fHalt))]
theorem folOk_db {f:GFol} (h:folOk f=true):dbOk f.fDb=true:=by
 simp only[folOk,Bool.and_eq_true] at h
 exact h.1
def bdBatch (b:GBatch):Prop:=okBatch b∧(∀n∈wBatch b,n≤1048576)∧ ∀p∈b.fParts,okPart p∧bdStmt p.fStmt∧bdStrs p.fCols∧bdStrs p.fKeys
theorem batch_bd {b:GBatch} (o:okBatch b) (hz:(wBatch b).sum≤1048576):bdBatch b:=by
 refine ⟨o,(of_sum hz).1,fun p hp=> ?_⟩
 have ho:=o.2.2.1.2 p hp
 have h1:(wPart p).sum≤1048576:=by
  simp only[wBatch,wPartS,List.append_nil,List.sum_cons] at hz
  have:=sum_flat_mem (w:=wPart) hp
  omega
 exact ⟨ho,partsum ho h1⟩
theorem batchOk_st {b:GBatch} (h:batchOk b=true): ∀p∈b.fParts,stmtOk p.fStmt=true:=fun p hp=>by
 simp only[batchOk,Bool.and_eq_true,Bool.not_eq_true',List.any_eq_false] at h
 have:=h.2.2.2 p hp
 simp only[partBad,Bool.not_eq_true',Bool.not_eq_false,Bool.and_eq_true] at this
 exact this.1
theorem copyFol_ok (f:GFol) (h:bdDb f.fDb):VC Tryz.prog 166 [vFol f] [(true,mFol f)]:=by
 refine vc_of_ew good hm [0,1,2] Tryz.func166 rfl (by kernel_rfl) (by kernel_rfl) rfl ?_
 simp[Tryz.f166,mFol]
 refine .of (copyDb_ok f.fDb h) ?_
 simp[mDb]
theorem folTakeI_ok (f:GFol) (b:GBatch) (hf:folOk f=true) (hb:bdBatch b):VC Tryz.prog 165 [vFol f,vBatch b] [(true,mFol (folTake f b).1),(false,[(.s,.sc (.int .i64 (folTake f b).2))])]:=by
 have hE:folTake f b=if batchOk b=false then (dFol,1) else if f.fHalt≠0 then (dFol,20) else if b.fLsn≤f.fAt then (dFol,21) else if b.fPrev≠f.fAt then (dFol,22) else
  if (takeL f.fDb b.fParts).2≠0 then (⟨f.fDb,f.fAt,(takeL f.fDb b.fParts).2⟩,30) else (⟨(takeL f.fDb b.fParts).1,b.fLsn,0⟩,0):=rfl
 have hd:=folOk_db hf
 have hpl:b.fParts.length≤1048576:=hb.2.1 _ (by simp[wBatch,wPartS])
 refine vc_of_ew good hm [0,1,2,3,4,5,12,17,22,29,6,39,40,41,42,8,9,10,52,11] Tryz.func165 rfl (by kernel_rfl) (by kernel_rfl) rfl ?_
 simp[Tryz.f165,mFol]
 refine .of (batchOkI_ok b hb.1 hb.2.1) ?_
 simp
 refine ⟨fun h=>by rw[hE,if_pos h];simp[dFol,dDb,dCat],fun h1=>⟨fun h=>by rw[hE,if_neg (by simp[h1]),if_pos h];simp[dFol,dDb,dCat],fun h2=>⟨fun h=>by rw[hE,if_neg (by simp[h1]),if_neg (by omega),if_pos h];simp[dFol,dDb,dCat],fun h3=>⟨fun h=>by rw[hE,if_neg (by simp[h1]),if_neg (by omega),if_neg (by omega),if_pos h];simp[dFol,dDb,dCat],fun h4=> ?_⟩⟩⟩⟩
 rw[if_neg (by simp[h1]),if_neg (by omega),if_neg (by omega),if_neg (by omega)] at hE
 refine ew_loop (fun E=> ∃ (i:Nat) (D:GDb),i≤b.fParts.length∧dbOk D=true∧takeL f.fDb b.fParts=takeL D (b.fParts.drop i)∧E= {nt:=65,sl:= [(2,.p (.bx 2 0)),(3,.p (.bx 3 0)),(4,.p (.bx 4 0)),(6,.p (.bx 6 0)),(39,vPartS b.fParts),(40,int .i64 b.fParts.length),(41,int .i64 i)],bx:= [(2,cFol f),(3,cBatch b),(4,[.n [Lf.sc (Value.string ⟨#[]⟩),Lf.ls [Lf.sc (Value.string ⟨#[]⟩),Lf.sc (Value.int IntKind.i64 0),Lf.sc (Value.bool false),Lf.sc (Value.bool false),Lf.sc (Value.int IntKind.i64 0),Lf.sc (Value.int IntKind.i64 0),Lf.sc (Value.string ⟨#[]⟩)] [],Lf.ls [Lf.sc (Value.string ⟨#[]⟩)] []],.n [Lf.ls [Lf.ls [Lf.sc (Value.int IntKind.i64 0),Lf.sc (Value.int IntKind.i64 0),Lf.sc (Value.string ⟨#[]⟩)] []] []],.s (.sc (.int .i64 0)),.s (.sc (.int .i64 0))]),(6,[.s (.ls [Lf.sc (Value.string ⟨#[]⟩),Lf.ls [Lf.sc (Value.string ⟨#[]⟩),Lf.sc (Value.int IntKind.i64 0),Lf.sc (Value.bool false),Lf.sc (Value.bool false),Lf.sc (Value.int IntKind.i64 0),Lf.sc (Value.int IntKind.i64 0),Lf.sc (Value.string ⟨#[]⟩)] [],Lf.ls [Lf.sc (Value.string ⟨#[]⟩)] []] (D.fCat.fTables.map eTable)),.s (.ls [Lf.ls [Lf.ls [Lf.sc (Value.int IntKind.i64 0),Lf.sc (Value.int IntKind.i64 0),Lf.sc (Value.string ⟨#[]⟩)] []] []] (D.fData.map eRows))])],rt:= []}) (fun E=>b.fParts.length- (E.num 41).toNat) _ (Gh.kb _ [2,3,4,6,39,40,41] [2,3,4,6] []) ⟨0,f.fDb,by omega,hd,by simp,by simp⟩ ?_
 rintro E1 ⟨i,D,hi,hD,hx,rfl⟩
 simp
 refine ⟨fun hil=> ?_,fun hil=> ?_⟩
 ·have hpm:=getD_mem dPart hil
  obtain ⟨p1,p2,p3,p4⟩:=hb.2.2 _ hpm
  have hst:=batchOk_st h1 _ hpm
  rw[takeL_at D hil] at hx
  refine ⟨hil,.of ((takePI_ok D _ hD hst p3 p4).frz (by simp[FullRs,FullML,mDb])) ?_⟩
  simp[mDb]
  refine ⟨fun h=> .of (copyFol_ok f (dbOk_bd hd)) ?_,fun h=> ?_⟩
  ·rw[if_pos h] at hx
   rw[hE,hx,if_pos h]
   simp[mFol]
  ·rw[if_neg (by simp[h])] at hx
   refine .of _ (Gh.kb _ [2,3,4,6,39,40,41] [2,3,4,6] []) ⟨i+1,by omega,(takeP D (b.fParts[i]?.getD dPart)).1,takeP_ok hD h,hx, ?_⟩ ?_
   ·simp[wrapS (show i<9223372036854775807 by omega)]
   ·simp[wrapS (show i<9223372036854775807 by omega)];omega
 ·have:i=b.fParts.length:=by omega
  subst this
  rw[List.drop_length,takeL] at hx
  refine .of (copyDb_ok D (dbOk_bd hD)) ?_
  rw[hE,hx]
  simp[mDb]
theorem folTake_db {f:GFol} (b:GBatch) (hf:dbOk f.fDb=true):dbOk (folTake f b).1.fDb=true:=by
 unfold folTake
 split
 ·exact dbOk_d
 split
 ·exact dbOk_d
 split
 ·exact dbOk_d
 split
 ·exact dbOk_d
 split
 ·exact hf
 ·rename_i h
  exact takeL_ok hf (by omega)
theorem folTakeFI_ok (f:GFol) (b:GBatch) (hf:okFol f) (hk: ∀t∈f.fDb.fCat.fTables,t.fKeys.length≤1048576) (hb:bdBatch b):VC Tryz.prog 64 [vFol f,vBatch b] [(true,mFol (folTakeM f b).1),(false,[(.s,.sc (.int .i64 (folTakeM f b).2))])]:=by
 have hE:folTakeM f b=if folOk f=false then (dFol,1) else folTake f b:=rfl
 refine vc_of_ew good hm [0,1,2,3,4,5,8] Tryz.func64 rfl (by kernel_rfl) (by kernel_rfl) rfl ?_
 simp[Tryz.f64,mFol]
 refine .of (folOkI_ok f hf hk) ?_
 simp
 refine ⟨fun h=>by rw[hE,if_pos h];simp[dFol,dDb,dCat],fun h=> .of (folTakeI_ok f b h hb) ?_⟩
 rw[hE,if_neg (by simp[h])]
 simp[mFol]
theorem folTakeFS_ok (f:GFol) (b:GBatch) (hf:okFol f) (hk: ∀t∈f.fDb.fCat.fTables,t.fKeys.length≤1048576) (hb:bdBatch b):VC Tryz.prog 61 [vFol f,vBatch b] [(true,fFol (folTakeM f b).1),(false,[(.s,.sc (.int .i64 (folTakeM f b).2))])]:=by
 have hE0:folTakeM f b=if folOk f=false then (dFol,1) else folTake f b:=rfl
 have hE:folTake f b=if batchOk b=false then (dFol,1) else if f.fHalt≠0 then (dFol,20) else if b.fLsn≤f.fAt then (dFol,21) else if b.fPrev≠f.fAt then (dFol,22) else
  if (takeL f.fDb b.fParts).2≠0 then (⟨f.fDb,f.fAt,(takeL f.fDb b.fParts).2⟩,30) else (⟨(takeL f.fDb b.fParts).1,b.fLsn,0⟩,0):=rfl
 have hpl:b.fParts.length≤1048576:=hb.2.1 _ (by simp[wBatch,wPartS])
 refine vc_of_ewF good hm [0,1,2,3,4,5,18,22,28,34,6,40,41,42,43,8,9,10,53] Tryz.func61 rfl (by kernel_rfl) (by kernel_rfl) rfl ?_
 simp[Tryz.f61,fFol]
 refine .of (folOkS_ok f hf hk) ?_
 simp
 refine .of (fun g=>⟨g,batchOkS_ok b hb.1⟩) ?_
 simp
 refine ⟨fun h=> ?_,fun h0 h1=> ?_⟩
 ·by_cases h0:folOk f=false
  ·rw[hE0,if_pos h0];simp[dFol,dDb,dCat]
  ·rw[hE0,if_neg h0,hE,if_pos (by rcases h with h|h;exact absurd h h0;exact h)];simp[dFol,dDb,dCat]
 rw[hE0,if_neg (by simp[h0])]
 have hd:=folOk_db h0
 refine ⟨fun h=>by rw[hE,if_neg (by simp[h1]),if_pos h];simp[dFol,dDb,dCat],fun h2=>⟨fun h=>by rw[hE,if_neg (by simp[h1]),if_neg (by omega),if_pos h];simp[dFol,dDb,dCat],fun h3=>⟨fun h=>by rw[hE,if_neg (by simp[h1]),if_neg (by omega),if_neg (by omega),if_pos h];simp[dFol,dDb,dCat],fun h4=> ?_⟩⟩⟩
 rw[if_neg (by simp[h1]),if_neg (by omega),if_neg (by omega),if_neg (by omega)] at hE
 refine .of ((l04Copy_ok f.fDb (dbOk_bd hd)).frz (by simp[FullRs,FullML,mDb])) ?_
 simp[mDb]
 refine ew_loop (fun E=> ∃ (i:Nat) (D:GDb),i≤b.fParts.length∧dbOk D=true∧takeL f.fDb b.fParts=takeL D (b.fParts.drop i)∧E= {nt:=67,sl:= [(2,.p (.bx 2 0)),(3,.p (.bx 3 0)),(4,.p (.bx 4 0)),(6,.p (.bx 6 0)),(40,vPartS b.fParts),(41,int .i64 b.fParts.length),(42,int .i64 i)],bx:= [(2,cFol f),(3,cBatch b),(4,[.n [Lf.sc (Value.string ⟨#[]⟩),Lf.ls [Lf.sc (Value.string ⟨#[]⟩),Lf.sc (Value.int IntKind.i64 0),Lf.sc (Value.bool false),Lf.sc (Value.bool false),Lf.sc (Value.int IntKind.i64 0),Lf.sc (Value.int IntKind.i64 0),Lf.sc (Value.string ⟨#[]⟩)] [],Lf.ls [Lf.sc (Value.string ⟨#[]⟩)] []],.n [Lf.ls [Lf.ls [Lf.sc (Value.int IntKind.i64 0),Lf.sc (Value.int IntKind.i64 0),Lf.sc (Value.string ⟨#[]⟩)] []] []],.s (.sc (.int .i64 0)),.s (.sc (.int .i64 0))]),(6,[.s (.ls [Lf.sc (Value.string ⟨#[]⟩),Lf.ls [Lf.sc (Value.string ⟨#[]⟩),Lf.sc (Value.int IntKind.i64 0),Lf.sc (Value.bool false),Lf.sc (Value.bool false),Lf.sc (Value.int IntKind.i64 0),Lf.sc (Value.int IntKind.i64 0),Lf.sc (Value.string ⟨#[]⟩)] [],Lf.ls [Lf.sc (Value.string ⟨#[]⟩)] []] (D.fCat.fTables.map eTable)),.s (.ls [Lf.ls [Lf.ls [Lf.sc (Value.int IntKind.i64 0),Lf.sc (Value.int IntKind.i64 0),Lf.sc (Value.string ⟨#[]⟩)] []] []] (D.fData.map eRows))])],rt:= []}) (fun E=>b.fParts.length- (E.num 42).toNat) _ (Gh.kb _ [2,3,4,6,40,41,42] [2,3,4,6] []) ⟨0,f.fDb,by omega,hd,by simp,by simp⟩ ?_
 rintro E1 ⟨i,D,hi,hD,hx,rfl⟩
 simp
 refine ⟨fun hil=> ?_,fun hil=> ?_⟩
 ·have hpm:=getD_mem dPart hil
  obtain ⟨p1,p2,p3,p4⟩:=hb.2.2 _ hpm
  have hst:=batchOk_st h1 _ hpm
  have hP:=takePartS_ok D _ (dbOk_ok hD) (dbOk_key hD) p1 p2 p3 p4
  have hPe:takePart D (b.fParts[i]?.getD dPart)=takeP D (b.fParts[i]?.getD dPart):=by unfold takePart;rw[if_neg (by simp[hD,hst])]
  rw[hPe] at hP
  rw[takeL_at D hil] at hx
  refine ⟨hil,.of hP ?_⟩
  simp[fDb]
  refine ⟨fun h=> .of ((l04Copy_ok f.fDb (dbOk_bd hd)).frz (by simp[FullRs,FullML,mDb])) ?_,fun h=> ?_⟩
  ·rw[if_pos h] at hx
   rw[hE,hx,if_pos h]
   simp[mDb]
  ·rw[if_neg (by simp[h])] at hx
   refine .of _ (Gh.kb _ [2,3,4,6,40,41,42] [2,3,4,6] []) ⟨i+1,by omega,(takeP D (b.fParts[i]?.getD dPart)).1,takeP_ok hD h,hx, ?_⟩ ?_
   ·simp[wrapS (show i<9223372036854775807 by omega)]
   ·simp[wrapS (show i<9223372036854775807 by omega)];omega
 ·have:i=b.fParts.length:=by omega
  subst this
  rw[List.drop_length,takeL] at hx
  rw[hE,hx]
  simp
theorem folKey {f:GFol} (hs: ∀n∈wFol f,n≤1048576): ∀t∈f.fDb.fCat.fTables,t.fKeys.length≤1048576:=folB hs
theorem I_FolTake_ok (f:GFol) (b:GBatch) (o0:okFol f) (hs0: ∀n∈wFol f,n≤1048576) (_:(wFol f).sum≤1048576) (o1:okBatch b) (_: ∀n∈wBatch b,n≤1048576) (hz1:(wBatch b).sum≤1048576):VC Tryz.prog 64 [vFol f,vBatch b] [(true,mFol (folTakeM f b).1),(false,[(.s,.sc (.int .i64 (folTakeM f b).2))])]:=folTakeFI_ok f b o0 (folKey hs0) (batch_bd o1 hz1)
theorem S_FolTake_ok (f:GFol) (b:GBatch) (o0:okFol f) (hs0: ∀n∈wFol f,n≤1048576) (_:(wFol f).sum≤1048576) (o1:okBatch b) (_: ∀n∈wBatch b,n≤1048576) (hz1:(wBatch b).sum≤1048576):VC Tryz.prog 61 [vFol f,vBatch b] [(true,fFol (folTakeM f b).1),(false,[(.s,.sc (.int .i64 (folTakeM f b).2))])]:=folTakeFS_ok f b o0 (folKey hs0) (batch_bd o1 hz1)
theorem fol_r0 {f:GFol} (h:dbOk f.fDb=true):(∀n∈wFol f,n≤1048576)∧(wFol f).sum≤1099511627776:=of_sum (by
 have:=db_w h
 simp only[wFol,List.sum_append,List.append_nil]
 omega)
theorem folTakeM_db (f:GFol) (b:GBatch):dbOk (folTakeM f b).1.fDb=true:=by
 unfold folTakeM
 split
 ·exact dbOk_d
 ·rename_i h
  exact folTake_db b (folOk_db (by simpa using h))
theorem FolTake_r0 (f:GFol) (b:GBatch) (o0:okFol f) (hs0: ∀n∈wFol f,n≤1048576) (_:(wFol f).sum≤1048576) (o1:okBatch b) (_: ∀n∈wBatch b,n≤1048576) (hz1:(wBatch b).sum≤1048576):(∀n∈wFol (folTakeM f b).1,n≤1048576)∧(wFol (folTakeM f b).1).sum≤1099511627776:=fol_r0 (folTakeM_db f b)
end Go.Proofs.YtcgalnoekjnjoaaGreat
namespace Go.Proofs.YtcgalnoekjnjoaaGreat
open Go Go.Proofs Go.Sm
attribute [local simp] ti eStr eInt eByte eVal cVal vVal eValS vValS eRow cRow vRow eCol cCol vCol vColS eStrS vStrS eDdl cDdl vDdl cStmt vStmt ePart vPart vPartS eBatch cBatch vBatch eTable cTable vTable vTableS cCat vCat vRowS eRows vRows vRowsS eDb cDb vDb eFol cFol vFol eBatchS vBatchS vIntS
set_option linter.unusedVariables false
set_option linter.unusedSimpArgs false
set_option maxRecDepth 8000
def fIntS (l:List Int):ML:= [(Md.s,Lf.ls [Lf.sc (Value.int IntKind.i64 0)] (l.map eInt))]
theorem dbExec_bd (d:GDb) (s:GStmt):0≤(dbExec d s).2∧(dbExec d s).2≤110:=by
 have h1:=dbCh_bd d s.fDdl
 have h2:=stRows_bd (tabOf d.fCat s.fTable) (dataOf d (dbIx d s.fTable)) s
 unfold dbExec
 split
 ·exact ⟨(by decide:(0:Int)≤4),(by decide:(4:Int)≤110)⟩
 split
 ·split
  ·simp only;omega
  ·omega
 split
 ·simp only;omega
 ·exact ⟨(by decide:(0:Int)≤0),(by decide:(0:Int)≤110)⟩
theorem drift_bd (a b:List ByteArray) (t:GTable):0≤drift a b t∧drift a b t≤110:=by
 unfold drift
 grind
theorem mapKey_bd (a:List ByteArray) (t:GTable) (v:List GVal):0≤(mapKey a t v).2∧(mapKey a t v).2≤110:=by
 unfold mapKey
 grind
theorem mapRow_bd (a:List ByteArray) (t:GTable) (v o:List GVal):0≤(mapRow a t v o).2∧(mapRow a t v o).2≤110:=by
 unfold mapRow
 grind
theorem mapSt_bd (t:GTable) (l:List GRow) (cols keys:List ByteArray) (s:GStmt):0≤(mapSt t l cols keys s).2∧(mapSt t l cols keys s).2≤110:=by
 have h1:=drift_bd cols keys t
 have h2:=mapKey_bd keys t s.fKey
 have h3:=mapRow_bd cols t s.fRow.fVals []
 unfold mapSt
 grind
theorem takeP_bd (d:GDb) (p:GPart):0≤(takeP d p).2∧(takeP d p).2≤110:=by
 have h1:=dbExec_bd d p.fStmt
 have h2:=dbExec_bd d (mapStP d p).1
 have h3:=mapSt_bd (tabOf d.fCat p.fStmt.fTable) (dataOf d (dbIx d p.fStmt.fTable)) p.fCols p.fKeys p.fStmt
 have h4:0≤(mapStP d p).2∧(mapStP d p).2≤110:=by
  unfold mapStP
  grind
 have h5:=drift_bd (colNames p.fStmt.fDdl.fCols) p.fStmt.fDdl.fKeys (tabOf d.fCat p.fStmt.fTable)
 unfold takeP takeDdl takeAdd
 grind
theorem takeL_bd: ∀ (l:List GPart) (d:GDb),0≤(takeL d l).2∧(takeL d l).2≤110
 | [],d=>⟨(by decide:(0:Int)≤0),(by decide:(0:Int)≤110)⟩
 |p::r,d=>by
  have h:=takeP_bd d p
  rw[takeL]
  split
  ·exact h
  ·exact takeL_bd r _
def okF (f:GFol):Prop:=okFol f∧ ∀t∈f.fDb.fCat.fTables,t.fKeys.length≤1048576
theorem okF_db {f:GFol} (h:dbOk f.fDb=true) (h1:okI f.fAt) (h2:okI f.fHalt):okF f:=⟨⟨dbOk_ok h,h1,h2,trivial⟩,dbOk_key h⟩
theorem keepF_ok {f:GFol} {b:GBatch} (hf:okF f) (hb:bdBatch b):okF (keepF f (folTakeM f b)):=by
 unfold keepF
 split
 ·rename_i h
  unfold folTakeM at h⊢
  split at h
  ·exact absurd h (by decide)
  rename_i h0
  rw[if_neg h0]
  have hd:=folTake_db b (folOk_db (by simpa using h0))
  refine okF_db hd ?_ ?_
  ·unfold folTake
   have h1:=hf.1.2.1
   have h2:=hb.1.1
   have h3:okI dFol.fAt:=by unfold okI dFol;simp
   split
   ·exact h3
   split
   ·exact h3
   split
   ·exact h3
   split
   ·exact h3
   split
   ·exact h1
   ·exact h2
  ·unfold folTake
   have h3:okI dFol.fHalt:=by unfold okI dFol;simp
   have h4:=takeL_bd b.fParts f.fDb
   split
   ·exact h3
   split
   ·exact h3
   split
   ·exact h3
   split
   ·exact h3
   split
   ·show okI (takeL f.fDb b.fParts).2
    unfold okI
    omega
   ·exact h3
 ·exact hf
theorem folTo_ok {f:GFol} {l:List GBatch} (hf:okF f) (hl: ∀b∈l,bdBatch b): ∀ {i:Nat},i≤l.length→okF (folTo f l i).1
 |0,_=>hf
 |i+1,h=>keepF_ok (folTo_ok hf hl (by omega)) (hl _ (getD_mem dBatch (by omega)))
theorem folTakeAllI_ok (f:GFol) (l:List GBatch) (hf:okF f) (hbd:bdDb f.fDb) (hl:l.length≤1048576) (hb: ∀b∈l,bdBatch b):VC Tryz.prog 70 [vFol f,vBatchS l] [(true,mFol (folTo f l l.length).1),(false,mInts (folTo f l l.length).2)]:=by
 refine vc_of_ew good hm [0,1,2,4,5,6,7,15,16,17,18,9,10,11,32] Tryz.func70 rfl (by kernel_rfl) (by kernel_rfl) rfl ?_
 simp[Tryz.f70,mFol,mInts]
 refine .of (copyFol_ok f hbd) ?_
 simp[mFol]
 refine ew_loop (fun E=> ∃i:Nat,i≤l.length∧E= {nt:=41,sl:= [(4,.p (.bx 4 0)),(6,.p (.bx 6 0)),(7,.v false [.r [14]]),(15,vBatchS l),(16,int .i64 l.length),(17,int .i64 i)],bx:= [(4,[.n [Lf.sc (Value.string ⟨#[]⟩),Lf.ls [Lf.sc (Value.string ⟨#[]⟩),Lf.sc (Value.int IntKind.i64 0),Lf.sc (Value.bool false),Lf.sc (Value.bool false),Lf.sc (Value.int IntKind.i64 0),Lf.sc (Value.int IntKind.i64 0),Lf.sc (Value.string ⟨#[]⟩)] [],Lf.ls [Lf.sc (Value.string ⟨#[]⟩)] []],.n [Lf.ls [Lf.ls [Lf.sc (Value.int IntKind.i64 0),Lf.sc (Value.int IntKind.i64 0),Lf.sc (Value.string ⟨#[]⟩)] []] []],.s (.sc (.int .i64 0)),.s (.sc (.int .i64 0))]),(6,[.r [13],.r [1013],.s (.sc (.int .i64 (folTo f l i).1.fAt)),.s (.sc (.int .i64 (folTo f l i).1.fHalt))])],rt:= [(14,(Md.o 3 (fun _=> [Md.s])),.ls [.sc (.int .i64 0)] ((folTo f l i).2.map eInt)),(13,(Md.o 162 (fun _=> [Md.s,(Md.o 168 (fun _=> [Md.s,Md.s,Md.s,Md.s,Md.s,Md.s,Md.s])),Md.o 9 (fun _=> [Md.s])])),.ls [Lf.sc (Value.string ⟨#[]⟩),Lf.ls [Lf.sc (Value.string ⟨#[]⟩),Lf.sc (Value.int IntKind.i64 0),Lf.sc (Value.bool false),Lf.sc (Value.bool false),Lf.sc (Value.int IntKind.i64 0),Lf.sc (Value.int IntKind.i64 0),Lf.sc (Value.string ⟨#[]⟩)] [],Lf.ls [Lf.sc (Value.string ⟨#[]⟩)] []] ((folTo f l i).1.fDb.fCat.fTables.map eTable)),(1013,(Md.o 171 (fun _=> [(Md.o 75 (fun _=> [(Md.o 166 (fun _=> [Md.s,Md.s,Md.s]))]))])),.ls [Lf.ls [Lf.ls [Lf.sc (Value.int IntKind.i64 0),Lf.sc (Value.int IntKind.i64 0),Lf.sc (Value.string ⟨#[]⟩)] []] []] ((folTo f l i).1.fDb.fData.map eRows))]}) (fun E=>l.length- (E.num 17).toNat) _ (Gh.kb _ [4,6,7,15,16,17] [4,6] [14,13,1013]) ⟨0,by omega,by simp[folTo]⟩ ?_
 rintro E1 ⟨i,hi,rfl⟩
 have hF:=folTo_ok hf hb hi
 have hfl:=folTo_len f l i
 have hsu:folTo f l (i+1)=(keepF (folTo f l i).1 (folTakeM (folTo f l i).1 (l[i]?.getD dBatch)),(folTo f l i).2++ [(folTakeM (folTo f l i).1 (l[i]?.getD dBatch)).2]):=rfl
 generalize hFg:(folTo f l i).1=F at*
 generalize hCg:(folTo f l i).2=C at*
 simp
 refine ⟨fun h=>⟨h,.of (folTakeFI_ok F _ hF.1 hF.2 (hb _ (getD_mem dBatch h))) ?_⟩,fun h=> ?_⟩
 ·simp[mFol,-OwRs,-OwML]
  refine ⟨fun hc=>⟨by omega,.of _ ((Gh.kb _ [4,6,7,15,16,17] [4,6] [37,24,1024]).trans ((Gh.rn _ 37 14).trans ((Gh.rn _ 24 13).trans (Gh.rn _ 1024 1013)))) ⟨i+1,by omega, ?_⟩ ?_⟩,fun hc hc2=>⟨by omega,.of _ ((Gh.kb _ [4,6,7,15,16,17] [4,6] [37,13,1013]).trans (Gh.rn _ 37 14)) ⟨i+1,by omega, ?_⟩ ?_⟩⟩
  ·simp[wrapS (show i<9223372036854775807 by omega),hsu,keepF,hc]
  ·simp[wrapS (show i<9223372036854775807 by omega)];omega
  ·simp[wrapS (show i<9223372036854775807 by omega),hsu,keepF,hc,hc2]
  ·simp[wrapS (show i<9223372036854775807 by omega)];omega
 ·have:i=l.length:=by omega
  subst this
  rw[hFg,hCg]
  simp
theorem folTakeAllS_ok (f:GFol) (l:List GBatch) (hf:okF f) (hbd:bdDb f.fDb) (hl:l.length≤1048576) (hb: ∀b∈l,bdBatch b):VC Tryz.prog 68 [vFol f,vBatchS l] [(true,fFol (folTo f l l.length).1),(false,fIntS (folTo f l l.length).2)]:=by
 refine vc_of_ewF good hm [0,1,2,4,5,6,7,21,22,23,24,9,10,11,38] Tryz.func68 rfl (by kernel_rfl) (by kernel_rfl) rfl ?_
 simp[Tryz.f68,fFol,fIntS]
 refine .of ((l04Copy_ok f.fDb hbd).frz (by simp[FullRs,FullML,mDb])) ?_
 simp[mDb,md,lf,List.range']
 refine ew_loop (fun E=> ∃i:Nat,i≤l.length∧E= {nt:=47,sl:= [(4,.p (.bx 4 0)),(6,.p (.pt [6] 4 0 0)),(7,.v false [.r [20]]),(21,vBatchS l),(22,int .i64 l.length),(23,int .i64 i)],bx:= [(4,[.n [Lf.sc (Value.string ⟨#[]⟩),Lf.ls [Lf.sc (Value.string ⟨#[]⟩),Lf.sc (Value.int IntKind.i64 0),Lf.sc (Value.bool false),Lf.sc (Value.bool false),Lf.sc (Value.int IntKind.i64 0),Lf.sc (Value.int IntKind.i64 0),Lf.sc (Value.string ⟨#[]⟩)] [],Lf.ls [Lf.sc (Value.string ⟨#[]⟩)] []],.n [Lf.ls [Lf.ls [Lf.sc (Value.int IntKind.i64 0),Lf.sc (Value.int IntKind.i64 0),Lf.sc (Value.string ⟨#[]⟩)] []] []],.s (.sc (.int .i64 0)),.s (.sc (.int .i64 0))])],rt:= [(20,(Md.o 3 (fun _=> [Md.s])),.ls [.sc (.int .i64 0)] ((folTo f l i).2.map eInt)),(6,Md.o 92 (fun k=>if k=0 then [Md.s,Md.s,Md.s,Md.s] else [(Md.o 162 (fun _=> [Md.s,(Md.o 168 (fun _=> [Md.s,Md.s,Md.s,Md.s,Md.s,Md.s,Md.s])),Md.o 9 (fun _=> [Md.s])])),(Md.o 171 (fun _=> [(Md.o 75 (fun _=> [(Md.o 166 (fun _=> [Md.s,Md.s,Md.s]))]))])),Md.s,Md.s]),.ls [Lf.ls [Lf.sc (Value.string ⟨#[]⟩),Lf.ls [Lf.sc (Value.string ⟨#[]⟩),Lf.sc (Value.int IntKind.i64 0),Lf.sc (Value.bool false),Lf.sc (Value.bool false),Lf.sc (Value.int IntKind.i64 0),Lf.sc (Value.int IntKind.i64 0),Lf.sc (Value.string ⟨#[]⟩)] [],Lf.ls [Lf.sc (Value.string ⟨#[]⟩)] []] [],Lf.ls [Lf.ls [Lf.ls [Lf.sc (Value.int IntKind.i64 0),Lf.sc (Value.int IntKind.i64 0),Lf.sc (Value.string ⟨#[]⟩)] []] []] [],.sc (.int .i64 0),.sc (.int .i64 0)] [[.ls [Lf.sc (Value.string ⟨#[]⟩),Lf.ls [Lf.sc (Value.string ⟨#[]⟩),Lf.sc (Value.int IntKind.i64 0),Lf.sc (Value.bool false),Lf.sc (Value.bool false),Lf.sc (Value.int IntKind.i64 0),Lf.sc (Value.int IntKind.i64 0),Lf.sc (Value.string ⟨#[]⟩)] [],Lf.ls [Lf.sc (Value.string ⟨#[]⟩)] []] ((folTo f l i).1.fDb.fCat.fTables.map eTable),.ls [Lf.ls [Lf.ls [Lf.sc (Value.int IntKind.i64 0),Lf.sc (Value.int IntKind.i64 0),Lf.sc (Value.string ⟨#[]⟩)] []] []] ((folTo f l i).1.fDb.fData.map eRows),.sc (.int .i64 (folTo f l i).1.fAt),.sc (.int .i64 (folTo f l i).1.fHalt)]])]}) (fun E=>l.length- (E.num 23).toNat) _ (Gh.kb _ [4,6,7,21,22,23] [4] [20,6]) ⟨0,by omega,by simp[folTo]⟩ ?_
 rintro E1 ⟨i,hi,rfl⟩
 have hF:=folTo_ok hf hb hi
 have hfl:=folTo_len f l i
 have hsu:folTo f l (i+1)=(keepF (folTo f l i).1 (folTakeM (folTo f l i).1 (l[i]?.getD dBatch)),(folTo f l i).2++ [(folTakeM (folTo f l i).1 (l[i]?.getD dBatch)).2]):=rfl
 generalize hFg:(folTo f l i).1=F at*
 generalize hCg:(folTo f l i).2=C at*
 simp[md,lf,List.range']
 refine ⟨fun h=>⟨h,.of (folTakeFS_ok F _ hF.1 hF.2 (hb _ (getD_mem dBatch h))) ?_⟩,fun h=> ?_⟩
 ·simp[fFol,md,lf,List.range']
  refine ⟨fun hc=>⟨by omega,.of _ ((Gh.kb _ [4,6,7,21,22,23] [4] [43,6]).trans (Gh.rn _ 43 20)) ⟨i+1,by omega, ?_⟩ ?_⟩,fun hc hc2=>⟨by omega,.of _ ((Gh.kb _ [4,6,7,21,22,23] [4] [43,6]).trans (Gh.rn _ 43 20)) ⟨i+1,by omega, ?_⟩ ?_⟩⟩
  ·simp[wrapS (show i<9223372036854775807 by omega),hsu,keepF,hc]
   funext k
   by_cases h0:k=0<;>simp[h0]
  ·simp[wrapS (show i<9223372036854775807 by omega)];omega
  ·simp[wrapS (show i<9223372036854775807 by omega),hsu,keepF,hc,hc2]
  ·simp[wrapS (show i<9223372036854775807 by omega)];omega
 ·have:i=l.length:=by omega
  subst this
  rw[hFg,hCg]
  simp[md,lf,List.range',FullRs,FullML]
theorem okF_of {f:GFol} (o0:okFol f) (hs0: ∀n∈wFol f,n≤1048576):okF f:=⟨o0,folKey hs0⟩
theorem batchS_bd {l:List GBatch} (o:okBatchS l) (hz:(wBatchS l).sum≤1048576):l.length≤1048576∧ ∀b∈l,bdBatch b:=by
 simp only[wBatchS,List.sum_cons] at hz
 refine ⟨by omega,fun b hb=>batch_bd (o.2 b hb) ?_⟩
 have:=sum_flat_mem (w:=wBatch) hb
 omega
theorem fol_bdDb {f:GFol} (hs: ∀n∈wFol f,n≤1048576):bdDb f.fDb:=by
 have h1: ∀n∈wDb f.fDb,n≤1048576:=fun n hn=>hs n (by simp[wFol,hn])
 refine ⟨⟨h1 _ (by simp[wDb,wCat,wTableS]),dbB h1⟩,h1 _ (by simp[wDb,wRowsS]),fun r hr=>⟨h1 _ ?_,fun x hx=>h1 _ ?_⟩⟩
 ·simp only[wDb,wRowsS,List.append_nil]
  refine List.mem_append_right _ (List.mem_cons_of_mem _ (List.mem_flatMap.2 ⟨r,hr, ?_⟩))
  simp[wRows,wRowS]
 ·simp only[wDb,wRowsS,List.append_nil]
  refine List.mem_append_right _ (List.mem_cons_of_mem _ (List.mem_flatMap.2 ⟨r,hr, ?_⟩))
  simp only[wRows,wRowS,List.append_nil]
  refine List.mem_cons_of_mem _ (List.mem_flatMap.2 ⟨x,hx, ?_⟩)
  simp[wRow,wValS]
theorem I_FolTakeAll_ok (f:GFol) (l:List GBatch) (o0:okFol f) (hs0: ∀n∈wFol f,n≤1048576) (_:(wFol f).sum≤1048576) (o1:okBatchS l) (_: ∀n∈wBatchS l,n≤1048576) (hz1:(wBatchS l).sum≤1048576):VC Tryz.prog 70 [vFol f,vBatchS l] [(true,mFol (folTo f l l.length).1),(false,mInts (folTo f l l.length).2)]:=folTakeAllI_ok f l (okF_of o0 hs0) (fol_bdDb hs0) (batchS_bd o1 hz1).1 (batchS_bd o1 hz1).2
theorem S_FolTakeAll_ok (f:GFol) (l:List GBatch) (o0:okFol f) (hs0: ∀n∈wFol f,n≤1048576) (_:(wFol f).sum≤1048576) (o1:okBatchS l) (_: ∀n∈wBatchS l,n≤1048576) (hz1:(wBatchS l).sum≤1048576):VC Tryz.prog 68 [vFol f,vBatchS l] [(true,fFol (folTo f l l.length).1),(false,fIntS (folTo f l l.length).2)]:=folTakeAllS_ok f l (okF_of o0 hs0) (fol_bdDb hs0) (batchS_bd o1 hz1).1 (batchS_bd o1 hz1).2
theorem folTo_w {f:GFol} {l:List GBatch} (h:(wFol f).sum≤1048576): ∀i,(wFol (folTo f l i).1).sum≤1048576
 |0=>h
 |i+1=>by
  show (wFol (keepF _ _)).sum≤_
  unfold keepF
  split
  ·have:=db_w (folTakeM_db (folTo f l i).1 (l[i]?.getD dBatch))
   simp only[wFol,List.sum_append,List.append_nil]
   omega
  ·exact folTo_w h i
theorem FolTakeAll_r0 (f:GFol) (l:List GBatch) (o0:okFol f) (hs0: ∀n∈wFol f,n≤1048576) (hz:(wFol f).sum≤1048576) (o1:okBatchS l) (_: ∀n∈wBatchS l,n≤1048576) (hz1:(wBatchS l).sum≤1048576):(∀n∈wFol (folTo f l l.length).1,n≤1048576)∧(wFol (folTo f l l.length).1).sum≤1099511627776:=of_sum (folTo_w hz _)
theorem FolTakeAll_r1 (f:GFol) (l:List GBatch) (o0:okFol f) (hs0: ∀n∈wFol f,n≤1048576) (hz:(wFol f).sum≤1048576) (o1:okBatchS l) (_: ∀n∈wBatchS l,n≤1048576) (hz1:(wBatchS l).sum≤1048576):(∀n∈wIntS (folTo f l l.length).2,n≤1048576)∧(wIntS (folTo f l l.length).2).sum≤1099511627776:=of_sum (by
 have:=(batchS_bd o1 hz1).1
 simp[wIntS,folTo_len]
 omega)
end Go.Proofs.YtcgalnoekjnjoaaGreat
