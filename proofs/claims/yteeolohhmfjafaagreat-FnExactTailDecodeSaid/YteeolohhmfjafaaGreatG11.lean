import Derived.Test.YteeolohhmfjafaaGreatG10
import Derived.Test.YteeolohhmfjafaaGreatG9
set_option maxHeartbeats 8000000
set_option maxRecDepth 8000
namespace Go.Proofs.YteeolohhmfjafaaGreat
open Go Go.Proofs Go.Sm
attribute [local simp] ti eStr eInt eByte eVal vVal eValS vValS eRow cRow vRow eCol vCol vColS vStrS eDdl cDdl vDdl eStmt cStmt vStmt ePart vPart vPartS eBatch vBatch eTable cTable vTable vTableS cCat vCat vRowS eRows vRows vRowsS cDb vDb eRec vRec vRecS eTail cTail vTail vBatchS vStmtS
set_option linter.unusedVariables false
set_option linter.unusedSimpArgs false
set_option maxRecDepth 8000
def befOf (t:GTail) (fr:Int):Int:=if fr≤t.fBase then fr else 0
def tailDecM (t:GTail) (fr:Int):List GBatch×Bool:=
 if tailOk t=true∧0≤fr then ((batTo t.fDb t.fRecs t.fBase (befOf t fr) t.fRecs.length).filter (fun b=>decide (fr<b.fLsn)),true) else ([],false)
theorem batW (d:GDb) {l:List GRec} (hl:l.length≤400) (hz:(wRecS l).sum≤1048576) (base bef:Int) (i:Nat):(wBatch (batM d l base bef i)).sum≤1400000:=by
 have h1:=parts_w ((playTo d l i).getD dDb) (stmtsOf (l.take i) (l[i]?.getD dRec).fXid)
 have h2:=stmtsOf_w (l.take i) (l[i]?.getD dRec).fXid
 have h3:=flat_take l i
 have h4:=stmtsOf_len (l.take i) (l[i]?.getD dRec).fXid
 rw[List.length_take] at h4
 simp only[wRecS,List.sum_cons] at hz
 simp only[wBatch,batM,List.append_nil]
 omega
theorem batN (d:GDb) {l:List GRec} (hz:(wRecS l).sum≤1048576) (base bef:Int) (i:Nat): ∀n∈wBatch (batM d l base bef i),n≤1048576:=by
 have h2:=stmtsOf_w (l.take i) (l[i]?.getD dRec).fXid
 have h3:=flat_take l i
 have h4:=stmtsOf_len (l.take i) (l[i]?.getD dRec).fXid
 rw[List.length_take] at h4
 simp only[wRecS,List.sum_cons] at hz
 have hw:(wStmtS (stmtsOf (l.take i) (l[i]?.getD dRec).fXid)).sum≤1048576:=by
  simp only[wStmtS,List.sum_cons]
  omega
 intro n hn
 simp only[wBatch,batM,List.append_nil] at hn
 exact (partsOf_w _ (of_sum hw).1 hw).1 n hn
theorem tail_len {t:GTail} (h:tailOk t=true):0≤t.fBase∧t.fBase≤400∧t.fRecs.length≤400:=by
 simp only[tailOk,within,Bool.and_eq_true,decide_eq_true_eq] at h
 omega
theorem bats_w (d:GDb) {l:List GRec} (hl:l.length≤400) (hz:(wRecS l).sum≤1048576) (base bef:Int) (X:List GBatch) (hX: ∀b∈X,∃i,b=batM d l base bef i) (hn:X.length≤400):(∀n∈wBatchS X,n≤1048576)∧(wBatchS X).sum≤1099511627776:=by
 have hsum:=sumF (w:=wBatch) hn (B:=1400000) fun b hbm=>by
  obtain ⟨i,rfl⟩:=hX b hbm
  exact batW d hl hz base bef i
 refine ⟨fun m hm=> ?_,by simp only[wBatchS,List.sum_cons];omega⟩
 simp only[wBatchS,List.mem_cons,List.mem_flatMap] at hm
 rcases hm with rfl|⟨b,hbm,hm⟩
 ·omega
 ·obtain ⟨i,rfl⟩:=hX b hbm
  exact batN d hz base bef i m hm
theorem TailDecode_r0 (t:GTail) (n:Int) (o0:okTail t) (hs: ∀n∈wTail t,n≤1048576) (hz:(wTail t).sum≤1048576) (o1:okI n):(∀k∈wBatchS (tailDecM t n).1,k≤1048576)∧(wBatchS (tailDecM t n).1).sum≤1099511627776:=by
 unfold tailDecM
 split
 ·rename_i h
  have h4:=tail_len h.1
  refine bats_w t.fDb h4.2.2 (by simp only[wTail,List.sum_append,List.sum_cons,List.append_nil] at hz;omega) t.fBase (befOf t n) _ (fun b hb=> ?_) ?_
  ·obtain ⟨i,_,e⟩:=List.mem_map.1 (List.mem_filter.1 hb).1
   exact ⟨i,e.symm⟩
  ·have h1:=List.length_filter_le (fun b:GBatch=>decide (n<b.fLsn)) (batTo t.fDb t.fRecs t.fBase (befOf t n) t.fRecs.length)
   have h2:=batTo_len t.fDb t.fRecs t.fBase (befOf t n) t.fRecs.length
   show (List.filter _ _).length≤400
   omega
 ·simp[wBatchS]
end Go.Proofs.YteeolohhmfjafaaGreat
namespace Go.Proofs.YteeolohhmfjafaaGreat
open Go Go.Proofs Go.Sm
attribute [local simp] ti eStr eInt eByte eVal vVal eValS vValS eRow cRow vRow eCol vCol vColS vStrS eDdl cDdl vDdl eStmt cStmt vStmt ePart vPart vPartS eBatch vBatch eTable cTable vTable vTableS cCat vCat vRowS eRows vRows vRowsS cDb vDb eRec vRec vRecS eTail cTail vTail vBatchS vStmtS
set_option linter.unusedVariables false
set_option linter.unusedSimpArgs false
set_option maxRecDepth 8000
theorem tailDecI_ok (t:GTail) (fr:Int) (o0:okTail t) (hs: ∀n∈wTail t,n≤1048576):VC Tryz.prog 58 [vTail t,int .i64 fr] [(false,mBatchS (tailDecM t fr).1),(false,[(.s,.sc (.bool (tailDecM t fr).2))])]:=by
 obtain ⟨b1,b2,b3⟩:=tailB hs
 have hE0:tailDecM t fr=if tailOk t=true∧0≤fr then ((batTo t.fDb t.fRecs t.fBase (befOf t fr) t.fRecs.length).filter (fun b=>decide (fr<b.fLsn)),true) else ([],false):=rfl
 have hbef:befOf t fr=if fr≤t.fBase then fr else 0:=rfl
 refine vc_of_ew good hm [0,1,2,4,5,18,6,22,7,9,36,37,38,39,11,45] Tryz.func58 rfl (by kernel_rfl) (by kernel_rfl) rfl ?_
 simp[Tryz.f58,mBatchS]
 refine .of (tailOkI_ok t o0.2.1 b1 b2 o0.2.2.1.2 b3) ?_
 simp
 refine ⟨fun h=>by rw[hE0,if_neg (by rintro ⟨h1,h2⟩;rcases h with h|h;rw[h1] at h;cases h;omega)];simp,fun h1 h2=> ?_⟩
 have h4:=tail_len h1
 have hbt:=batches_ok t.fDb t.fRecs t.fBase (befOf t fr) (tail_dbOk h1) b2 o0.2.2.1.2 b3 (fun i hi=>by rw[wrapI (by omega) (by omega)])
 rw[if_pos ⟨h1,h2⟩] at hE0
 have hpl: ∃D,play t.fDb t.fRecs=some D:=by
  obtain ⟨D,hD,_⟩:=tail_play h1 (k:=t.fRecs.length) (Nat.le_refl _)
  rw[List.take_length] at hD
  exact ⟨D,hD⟩
 obtain ⟨D,hD⟩:=hpl
 have hst:stopN t.fDb t.fRecs t.fRecs.length=t.fRecs.length:=stopN_all hD
 rw[hst] at hbt
 have hXl:=batTo_len t.fDb t.fRecs t.fBase (befOf t fr) t.fRecs.length
 obtain ⟨X,hX⟩: ∃X,X=batTo t.fDb t.fRecs t.fBase (befOf t fr) t.fRecs.length:=⟨_,rfl⟩
 have hE:tailDecM t fr=(X.filter (fun b=>decide (fr<b.fLsn)),true):=by rw[hE0,hX]
 rw[←hX] at hbt hXl
 rw[hbef] at hbt
 refine ⟨fun hc=> ?_,fun hc=> ?_⟩
 ·rw[if_pos hc] at hbt
  refine .of hbt ?_
  simp[mBatchS]
  refine ew_loop (fun E=> ∃i:Nat,i≤X.length∧E= {nt:=52,sl:= [(1,int .i64 fr),(9,.v false [.r [35]]),(36,.v false [.r [32]]),(37,int .i64 X.length),(38,int .i64 i)],bx:= [],rt:=(mBatchS (keptB true fr X i)).map (fun y=>(35,y))++(mBatD X i).map fun y=>(32,y)}) (fun E=>X.length- (E.num 38).toNat) _ ((Gh.wk _ 32 (dCols 0) rfl (fun i j=> .inl (by simp[md,dCols,modeP,mPartS]))).trans (Gh.kb _ [1,9,36,37,38] [] [35,32])) ⟨0,by omega,by simp[mBatchS,mBatD,keptB]⟩ ?_
  rintro E1 ⟨i,hi,rfl⟩
  have hkl:(keptB true fr X i).length≤i:=by
   have:=List.length_filter_le (fun b:GBatch=>true&&decide (fr<b.fLsn)) (X.take i)
   rw[List.length_take] at this
   unfold keptB
   omega
  have hks:=fun (h:i<X.length)=>keptB_succ true fr h
  generalize hKe:keptB true fr X i=K at*
  simp[mBatchS,mBatD,md,lf,List.range',dCols,modeP,mPartS]
  refine ⟨fun hil=>⟨hil,fun a2=>⟨hil,by omega,.of _ ((Gh.wk _ 32 (dCols (i+1)) rfl (fun k j=> .inl ?_)).trans ((Gh.kb _ [1,9,36,37,38] [] [49,32]).trans (Gh.rn _ 49 35))) ⟨i+1,by omega, ?_⟩ ?_⟩,fun a=> .of _ ((Gh.wk _ 32 (dCols (i+1)) rfl (dCols_wk i)).trans (Gh.kb _ [1,9,36,37,38] [] [35,32])) ⟨i+1,by omega, ?_⟩ ?_⟩,fun hil=> ?_⟩
  ·exact congrArg (fun c=>md c k j) (dCols_cut i _ (by funext k;simp[dCols,modeP,mPartS])).symm
  ·rw[hks hil,if_pos ⟨rfl,a2⟩]
   simp[wrapS (show i<9223372036854775807 by omega),mBatchS]
  ·simp[wrapS (show i<9223372036854775807 by omega)];omega
  ·rw[hks hil,if_neg (by rintro ⟨h1,h2⟩;omega)]
   simp[wrapS (show i<9223372036854775807 by omega),mBatchS]
  ·simp[wrapS (show i<9223372036854775807 by omega)];omega
  ·have:i=X.length:=by omega
   subst this
   rw[hE,←hKe,keptB,List.take_length]
   simp
 ·rw[if_neg (by omega)] at hbt
  refine .of hbt ?_
  simp[mBatchS]
  refine ew_loop (fun E=> ∃i:Nat,i≤X.length∧E= {nt:=52,sl:= [(1,int .i64 fr),(9,.v false [.r [35]]),(36,.v false [.r [32]]),(37,int .i64 X.length),(38,int .i64 i)],bx:= [],rt:=(mBatchS (keptB true fr X i)).map (fun y=>(35,y))++(mBatD X i).map fun y=>(32,y)}) (fun E=>X.length- (E.num 38).toNat) _ ((Gh.wk _ 32 (dCols 0) rfl (fun i j=> .inl (by simp[md,dCols,modeP,mPartS]))).trans (Gh.kb _ [1,9,36,37,38] [] [35,32])) ⟨0,by omega,by simp[mBatchS,mBatD,keptB]⟩ ?_
  rintro E1 ⟨i,hi,rfl⟩
  have hkl:(keptB true fr X i).length≤i:=by
   have:=List.length_filter_le (fun b:GBatch=>true&&decide (fr<b.fLsn)) (X.take i)
   rw[List.length_take] at this
   unfold keptB
   omega
  have hks:=fun (h:i<X.length)=>keptB_succ true fr h
  generalize hKe:keptB true fr X i=K at*
  simp[mBatchS,mBatD,md,lf,List.range',dCols,modeP,mPartS]
  refine ⟨fun hil=>⟨hil,fun a2=>⟨hil,by omega,.of _ ((Gh.wk _ 32 (dCols (i+1)) rfl (fun k j=> .inl ?_)).trans ((Gh.kb _ [1,9,36,37,38] [] [49,32]).trans (Gh.rn _ 49 35))) ⟨i+1,by omega, ?_⟩ ?_⟩,fun a=> .of _ ((Gh.wk _ 32 (dCols (i+1)) rfl (dCols_wk i)).trans (Gh.kb _ [1,9,36,37,38] [] [35,32])) ⟨i+1,by omega, ?_⟩ ?_⟩,fun hil=> ?_⟩
  ·exact congrArg (fun c=>md c k j) (dCols_cut i _ (by funext k;simp[dCols,modeP,mPartS])).symm
  ·rw[hks hil,if_pos ⟨rfl,a2⟩]
   simp[wrapS (show i<9223372036854775807 by omega),mBatchS]
  ·simp[wrapS (show i<9223372036854775807 by omega)];omega
  ·rw[hks hil,if_neg (by rintro ⟨h1,h2⟩;omega)]
   simp[wrapS (show i<9223372036854775807 by omega),mBatchS]
  ·simp[wrapS (show i<9223372036854775807 by omega)];omega
  ·have:i=X.length:=by omega
   subst this
   rw[hE,←hKe,keptB,List.take_length]
   simp
end Go.Proofs.YteeolohhmfjafaaGreat
namespace Go.Proofs.YteeolohhmfjafaaGreat
open Go Go.Proofs Go.Sm
attribute [local simp] ti eStr eInt eByte eVal vVal eValS vValS eRow cRow vRow eCol vCol vColS vStrS eDdl cDdl vDdl eStmt cStmt vStmt ePart vPart vPartS eBatch vBatch eTable cTable vTable vTableS cCat vCat vRowS eRows vRows vRowsS cDb vDb eRec vRec vRecS eTail cTail vTail vBatchS vStmtS
set_option linter.unusedVariables false
set_option linter.unusedSimpArgs false
set_option maxRecDepth 8000
def keptT (t:GTail) (fr:Int) (i:Nat):List GBatch:=(batTo t.fDb t.fRecs t.fBase (befOf t fr) i).filter (fun b=>decide (fr<b.fLsn))
theorem keptT_succ (t:GTail) (fr:Int) (i:Nat):keptT t fr (i+1)=if (t.fRecs[i]?.getD dRec).fKind=3∧fr< (batM t.fDb t.fRecs t.fBase (befOf t fr) i).fLsn then keptT t fr i++ [batM t.fDb t.fRecs t.fBase (befOf t fr) i] else keptT t fr i:=by
 unfold keptT
 rw[batTo_succ]
 by_cases k:(t.fRecs[i]?.getD dRec).fKind=3
 ·rw[if_pos k,List.filter_append]
  by_cases c:fr< (batM t.fDb t.fRecs t.fBase (befOf t fr) i).fLsn<;>simp[k,c]
 ·rw[if_neg k,if_neg (fun e=>k e.1)]
theorem keptT_len (t:GTail) (fr:Int) (i:Nat):(keptT t fr i).length≤i:=by
 have h1:=List.length_filter_le (fun b:GBatch=>decide (fr<b.fLsn)) (batTo t.fDb t.fRecs t.fBase (befOf t fr) i)
 have h2:=batTo_len t.fDb t.fRecs t.fBase (befOf t fr) i
 unfold keptT
 omega
theorem tailDecS_ok (t:GTail) (fr:Int) (o0:okTail t) (hs: ∀n∈wTail t,n≤1048576) (hz:(wTail t).sum≤1048576) (hsz: ∀r∈t.fRecs,r.fStmt.fTable.size≤1048576):VC Tryz.prog 56 [vTail t,int .i64 fr] [(false,mBatchS (tailDecM t fr).1),(false,[(.s,.sc (.bool (tailDecM t fr).2))])]:=by
 obtain ⟨b1,b2,b3⟩:=tailB hs
 have ho:=o0.2.2.1.2
 have hE0:tailDecM t fr=if tailOk t=true∧0≤fr then ((batTo t.fDb t.fRecs t.fBase (befOf t fr) t.fRecs.length).filter (fun b=>decide (fr<b.fLsn)),true) else ([],false):=rfl
 have hbef:befOf t fr=if fr≤t.fBase then fr else 0:=rfl
 refine vc_of_ew good hm [0,1,2,4,5,21,6,25,7,29,30,31,32,9,8,38,10,11,13,65] Tryz.func56 rfl (by kernel_rfl) (by kernel_rfl) rfl ?_
 simp[Tryz.f56,mBatchS]
 refine .of (tailOkS_ok t o0.2.1 b1 b2 o0.2.2.1.2 b3) ?_
 simp
 refine ⟨fun h=>by rw[hE0,if_neg (by rintro ⟨h1,h2⟩;rcases h with h|h;rw[h1] at h;cases h;omega)];simp,fun h1 h2=> ?_⟩
 have h4:=tail_len h1
 rw[if_pos ⟨h1,h2⟩] at hE0
 have hE:tailDecM t fr=(keptT t fr t.fRecs.length,true):=hE0
 refine ⟨fun hc=> ?_,fun hc=> ?_⟩
 ·refine ew_loop (fun E=> ∃i:Nat,i≤t.fRecs.length∧E= {nt:=76,sl:= [(1,int .i64 fr),(2,.p (.bx 2 0)),(6,int .i64 (prevC t.fBase (befOf t fr) t.fRecs i)),(7,.v false [.r [27]]),(29,vRecS t.fRecs),(30,int .i64 t.fRecs.length),(31,int .i64 i)],bx:= [(2,cTail t)],rt:=(mBatchS (keptT t fr i)).map (fun y=>(27,y))}) (fun E=>t.fRecs.length- (E.num 31).toNat) _ (Gh.kb _ [1,2,6,7,29,30,31] [2] [27]) ⟨0,by omega,by simp[mBatchS,keptT,batTo,comIx,prevC,hbef,hc];try omega⟩ ?_
  rintro E1 ⟨i,hi,rfl⟩
  have hkl:=keptT_len t fr i
  have hks:=keptT_succ t fr i
  have hpc:prevC t.fBase (befOf t fr) t.fRecs (i+1)=if (t.fRecs[i]?.getD dRec).fKind=3 then t.fBase+((i+1:Nat):Int) else prevC t.fBase (befOf t fr) t.fRecs i:=rfl
  have hbM:batM t.fDb t.fRecs t.fBase (befOf t fr) i=⟨t.fBase+((i+1:Nat):Int),prevC t.fBase (befOf t fr) t.fRecs i,(partsOf ((playTo t.fDb t.fRecs i).getD dDb) (stmtsOf (t.fRecs.take i) (t.fRecs[i]?.getD dRec).fXid)).1⟩:=rfl
  generalize hKe:keptT t fr i=K at*
  generalize hPe:prevC t.fBase (befOf t fr) t.fRecs i=Pv at*
  simp[mBatchS,md,lf,List.range']
  refine ⟨fun hil=>⟨hil,fun k3=> .of _ (Gh.kb _ [1,2,6,7,29,30,31] [2] [27]) ⟨i+1,by omega, ?_⟩ ?_,fun k3=> ?_⟩,fun hil=> ?_⟩
  ·rw[hks,if_neg (fun e=>k3 e.1),hpc,if_neg k3]
   simp[wrapS (show i<9223372036854775807 by omega),mBatchS]
  ·simp[wrapS (show i<9223372036854775807 by omega)];omega
  ·have ew1:IntKind.i64.wrap (IntKind.i64.wrap (t.fBase+i)+1)=t.fBase+((i+1:Nat):Int):=by
    rw[wrapI (i:=t.fBase+i) (by omega) (by omega),wrapI (by omega) (by omega)]
    omega
   have ew2:IntKind.i64.wrap (t.fBase+((i+1:Nat):Int)-1)=t.fBase+i:=by
    rw[wrapI (by omega) (by omega)]
    omega
   rw[ew1,ew2]
   have hat:=S_TailAt_ok t (t.fBase+i) o0 hs hz (by unfold okI;omega)
   obtain ⟨D,hD,hDo⟩:=tail_play h1 (k:=i) (by omega)
   have hDt:playTo t.fDb t.fRecs i=some D:=by rw[←play_take (by omega)];exact hD
   have htA:tailAt t (t.fBase+i)=(D,true):=by
    unfold tailAt
    rw[if_pos ⟨h1,by omega,by omega⟩,show (t.fBase+i-t.fBase).toNat=i by omega,hD]
    rfl
   rw[htA] at hat
   rw[hDt] at hbM
   refine .of hat ?_
   have hm:(t.fRecs.take i).map eRec=(t.fRecs.map eRec).take i:=List.map_take ..
   have hso:=stmtsOfS_ok (t.fRecs.take i) (t.fRecs[i]?.getD dRec).fXid (by simp;omega) (fun r hr=>b3 r (List.mem_of_mem_take hr))
   unfold vRecS at hso
   rw[hm] at hso
   simp[fDb]
   refine ⟨by omega,.of (hso.frz (by simp[FullRs,FullML,mStmtS])) ?_⟩
   have hst:=partsOfS_ok D (stmtsOf (t.fRecs.take i) (t.fRecs[i]?.getD dRec).fXid) (dbOk_ok hDo) (dbOk_key hDo) (by have:=stmtsOf_len (t.fRecs.take i) (t.fRecs[i]?.getD dRec).fXid;rw[List.length_take] at this;omega) (fun s hs=>⟨stmtsOf_okS (fun r hr=>ho r (List.mem_of_mem_take hr)) _ s hs,by
     obtain ⟨r',hr',rfl⟩:=List.mem_map.1 hs
     exact ⟨b3 r' (List.mem_of_mem_take (List.mem_filter.1 hr').1),hsz r' (List.mem_of_mem_take (List.mem_filter.1 hr').1)⟩⟩)
   simp[mStmtS]
   refine .of hst ?_
   simp[mPartS]
   have hsn:((i+1:Nat):Int)=(i:Int)+1:=by omega
   refine ⟨fun c=>⟨by omega,.of _ ((Gh.kb _ [1,2,6,7,29,30,31] [2] [72]).trans (Gh.rn _ 72 27)) ⟨i+1,by omega, ?_⟩ ?_⟩,fun c=> .of _ (Gh.kb _ [1,2,6,7,29,30,31] [2] [27]) ⟨i+1,by omega, ?_⟩ ?_⟩
   ·rw[hks,if_pos ⟨k3,by rw[hbM];simp only;omega⟩,hpc,if_pos k3,hbM]
    simp[wrapS (show i<9223372036854775807 by omega),mBatchS,eBatch]
   ·simp[wrapS (show i<9223372036854775807 by omega)];omega
   ·rw[hks,if_neg (fun e=>by have e2:=e.2;rw[hbM] at e2;simp only at e2;omega),hpc,if_pos k3]
    simp[wrapS (show i<9223372036854775807 by omega),mBatchS]
   ·simp[wrapS (show i<9223372036854775807 by omega)];omega
  ·have:i=t.fRecs.length:=by omega
   subst this
   rw[hE,hKe]
   simp
 ·refine ew_loop (fun E=> ∃i:Nat,i≤t.fRecs.length∧E= {nt:=76,sl:= [(1,int .i64 fr),(2,.p (.bx 2 0)),(6,int .i64 (prevC t.fBase (befOf t fr) t.fRecs i)),(7,.v false [.r [27]]),(29,vRecS t.fRecs),(30,int .i64 t.fRecs.length),(31,int .i64 i)],bx:= [(2,cTail t)],rt:=(mBatchS (keptT t fr i)).map (fun y=>(27,y))}) (fun E=>t.fRecs.length- (E.num 31).toNat) _ (Gh.kb _ [1,2,6,7,29,30,31] [2] [27]) ⟨0,by omega,by simp[mBatchS,keptT,batTo,comIx,prevC,hbef,hc];try omega⟩ ?_
  rintro E1 ⟨i,hi,rfl⟩
  have hkl:=keptT_len t fr i
  have hks:=keptT_succ t fr i
  have hpc:prevC t.fBase (befOf t fr) t.fRecs (i+1)=if (t.fRecs[i]?.getD dRec).fKind=3 then t.fBase+((i+1:Nat):Int) else prevC t.fBase (befOf t fr) t.fRecs i:=rfl
  have hbM:batM t.fDb t.fRecs t.fBase (befOf t fr) i=⟨t.fBase+((i+1:Nat):Int),prevC t.fBase (befOf t fr) t.fRecs i,(partsOf ((playTo t.fDb t.fRecs i).getD dDb) (stmtsOf (t.fRecs.take i) (t.fRecs[i]?.getD dRec).fXid)).1⟩:=rfl
  generalize hKe:keptT t fr i=K at*
  generalize hPe:prevC t.fBase (befOf t fr) t.fRecs i=Pv at*
  simp[mBatchS,md,lf,List.range']
  refine ⟨fun hil=>⟨hil,fun k3=> .of _ (Gh.kb _ [1,2,6,7,29,30,31] [2] [27]) ⟨i+1,by omega, ?_⟩ ?_,fun k3=> ?_⟩,fun hil=> ?_⟩
  ·rw[hks,if_neg (fun e=>k3 e.1),hpc,if_neg k3]
   simp[wrapS (show i<9223372036854775807 by omega),mBatchS]
  ·simp[wrapS (show i<9223372036854775807 by omega)];omega
  ·have ew1:IntKind.i64.wrap (IntKind.i64.wrap (t.fBase+i)+1)=t.fBase+((i+1:Nat):Int):=by
    rw[wrapI (i:=t.fBase+i) (by omega) (by omega),wrapI (by omega) (by omega)]
    omega
   have ew2:IntKind.i64.wrap (t.fBase+((i+1:Nat):Int)-1)=t.fBase+i:=by
    rw[wrapI (by omega) (by omega)]
    omega
   rw[ew1,ew2]
   have hat:=S_TailAt_ok t (t.fBase+i) o0 hs hz (by unfold okI;omega)
   obtain ⟨D,hD,hDo⟩:=tail_play h1 (k:=i) (by omega)
   have hDt:playTo t.fDb t.fRecs i=some D:=by rw[←play_take (by omega)];exact hD
   have htA:tailAt t (t.fBase+i)=(D,true):=by
    unfold tailAt
    rw[if_pos ⟨h1,by omega,by omega⟩,show (t.fBase+i-t.fBase).toNat=i by omega,hD]
    rfl
   rw[htA] at hat
   rw[hDt] at hbM
   refine .of hat ?_
   have hm:(t.fRecs.take i).map eRec=(t.fRecs.map eRec).take i:=List.map_take ..
   have hso:=stmtsOfS_ok (t.fRecs.take i) (t.fRecs[i]?.getD dRec).fXid (by simp;omega) (fun r hr=>b3 r (List.mem_of_mem_take hr))
   unfold vRecS at hso
   rw[hm] at hso
   simp[fDb]
   refine ⟨by omega,.of (hso.frz (by simp[FullRs,FullML,mStmtS])) ?_⟩
   have hst:=partsOfS_ok D (stmtsOf (t.fRecs.take i) (t.fRecs[i]?.getD dRec).fXid) (dbOk_ok hDo) (dbOk_key hDo) (by have:=stmtsOf_len (t.fRecs.take i) (t.fRecs[i]?.getD dRec).fXid;rw[List.length_take] at this;omega) (fun s hs=>⟨stmtsOf_okS (fun r hr=>ho r (List.mem_of_mem_take hr)) _ s hs,by
     obtain ⟨r',hr',rfl⟩:=List.mem_map.1 hs
     exact ⟨b3 r' (List.mem_of_mem_take (List.mem_filter.1 hr').1),hsz r' (List.mem_of_mem_take (List.mem_filter.1 hr').1)⟩⟩)
   simp[mStmtS]
   refine .of hst ?_
   simp[mPartS]
   have hsn:((i+1:Nat):Int)=(i:Int)+1:=by omega
   refine ⟨fun c=>⟨by omega,.of _ ((Gh.kb _ [1,2,6,7,29,30,31] [2] [72]).trans (Gh.rn _ 72 27)) ⟨i+1,by omega, ?_⟩ ?_⟩,fun c=> .of _ (Gh.kb _ [1,2,6,7,29,30,31] [2] [27]) ⟨i+1,by omega, ?_⟩ ?_⟩
   ·rw[hks,if_pos ⟨k3,by rw[hbM];simp only;omega⟩,hpc,if_pos k3,hbM]
    simp[wrapS (show i<9223372036854775807 by omega),mBatchS,eBatch]
   ·simp[wrapS (show i<9223372036854775807 by omega)];omega
   ·rw[hks,if_neg (fun e=>by have e2:=e.2;rw[hbM] at e2;simp only at e2;omega),hpc,if_pos k3]
    simp[wrapS (show i<9223372036854775807 by omega),mBatchS]
   ·simp[wrapS (show i<9223372036854775807 by omega)];omega
  ·have:i=t.fRecs.length:=by omega
   subst this
   rw[hE,hKe]
   simp
theorem tailSz {t:GTail} (hs: ∀n∈wTail t,n≤1048576): ∀r∈t.fRecs,r.fStmt.fTable.size≤1048576:=fun r h=>hs _ (by
 simp only[wTail,wRecS,List.append_nil]
 refine List.mem_append_right _ (List.mem_cons_of_mem _ (List.mem_flatMap.2 ⟨r,h, ?_⟩))
 simp[wRec,wStmt])
theorem I_TailDecode_ok (t:GTail) (n:Int) (o0:okTail t) (hs: ∀n∈wTail t,n≤1048576) (_:(wTail t).sum≤1048576) (o1:okI n):VC Tryz.prog 58 [vTail t,int .i64 n] [(false,mBatchS (tailDecM t n).1),(false,[(.s,.sc (.bool (tailDecM t n).2))])]:=tailDecI_ok t n o0 hs
theorem S_TailDecode_ok (t:GTail) (n:Int) (o0:okTail t) (hs: ∀n∈wTail t,n≤1048576) (hz:(wTail t).sum≤1048576) (o1:okI n):VC Tryz.prog 56 [vTail t,int .i64 n] [(false,mBatchS (tailDecM t n).1),(false,[(.s,.sc (.bool (tailDecM t n).2))])]:=tailDecS_ok t n o0 hs hz (tailSz hs)
end Go.Proofs.YteeolohhmfjafaaGreat
