import Derived.Test.YteeolohhmfjafaaGreatG10
import Derived.Test.YteeolohhmfjafaaGreatG9
set_option maxHeartbeats 8000000
set_option maxRecDepth 8000
namespace Go.Proofs.YteeolohhmfjafaaGreat
open Go Go.Proofs Go.Sm
attribute [local simp] ti eStr eInt eByte eVal cVal vVal eValS vValS eRow cRow vRow eCol cCol vCol vColS eStrS vStrS eDdl cDdl vDdl cStmt vStmt ePart vPart vPartS eTable cTable vTable vTableS cCat vCat vRowS eRows vRows vRowsS eDb cDb vDb eFol vFol eSnap cSnap vSnap
set_option linter.unusedVariables false
set_option linter.unusedSimpArgs false
set_option maxRecDepth 8000
end Go.Proofs.YteeolohhmfjafaaGreat
namespace Go.Proofs.YteeolohhmfjafaaGreat
open Go Go.Proofs Go.Sm
attribute [local simp] ti eStr eInt eByte eVal cVal vVal eValS vValS eRow cRow vRow eCol cCol vCol vColS eStrS vStrS eDdl cDdl vDdl cStmt vStmt ePart vPart vPartS eTable cTable vTable vTableS cCat vCat vRowS eRows vRows vRowsS eDb cDb vDb eFol vFol eSnap cSnap vSnap
set_option linter.unusedVariables false
set_option linter.unusedSimpArgs false
set_option maxRecDepth 8000
def keptB (ok:Bool) (fr:Int) (X:List GBatch) (i:Nat):List GBatch:=(X.take i).filter fun b=>ok&&decide (fr<b.fLsn)
end Go.Proofs.YteeolohhmfjafaaGreat
namespace Go.Proofs.YteeolohhmfjafaaGreat
open Go Go.Proofs Go.Sm
attribute [local simp] ti eStr eInt eByte eVal cVal vVal eValS vValS eRow cRow vRow eCol cCol vCol vColS eStrS vStrS eDdl cDdl vDdl cStmt vStmt ePart vPart vPartS eTable cTable vTable vTableS cCat vCat vRowS eRows vRows vRowsS eDb cDb vDb eFol vFol eSnap cSnap vSnap
set_option linter.unusedVariables false
set_option linter.unusedSimpArgs false
set_option maxRecDepth 8000
theorem VX.vc {P:Program} {f:FuncId} {xs:List SV} {rs:List (Bool×ML)} (h:VX P f xs [] rs):VC P f xs rs:=
 ⟨h.1,fun w tag hv vs h1 h2 h3=>h.2 w tag hv vs (fun b=>(h1 b).elim .inl fun x=> .inr (.inl x)) h2 h3 (fun i x hx=>by simp at hx)⟩
end Go.Proofs.YteeolohhmfjafaaGreat
namespace Go.Proofs.YteeolohhmfjafaaGreat
open Go Go.Proofs Go.Sm
attribute [local simp] ti eStr eInt eByte eVal cVal vVal eValS vValS eRow cRow vRow eCol cCol vCol vColS eStrS vStrS eDdl cDdl vDdl cStmt vStmt ePart vPart vPartS eTable cTable vTable vTableS cCat vCat vRowS eRows vRows vRowsS eDb cDb vDb eFol vFol eSnap cSnap vSnap
set_option linter.unusedVariables false
set_option linter.unusedSimpArgs false
set_option maxRecDepth 8000
end Go.Proofs.YteeolohhmfjafaaGreat
namespace Go.Proofs.YteeolohhmfjafaaGreat
open Go Go.Proofs Go.Sm
attribute [local simp] ti eStr eInt eByte eVal cVal vVal eValS vValS eRow cRow vRow eCol cCol vCol vColS eStrS vStrS eDdl cDdl vDdl cStmt vStmt ePart vPart vPartS eTable cTable vTable vTableS cCat vCat vRowS eRows vRows vRowsS eDb cDb vDb eFol vFol eSnap cSnap vSnap
set_option linter.unusedVariables false
set_option linter.unusedSimpArgs false
set_option maxRecDepth 8000
end Go.Proofs.YteeolohhmfjafaaGreat
namespace Go.Proofs.YteeolohhmfjafaaGreat
open Go Go.Proofs Go.Sm
attribute [local simp] ti eStr eInt eByte eVal cVal vVal eValS vValS eRow cRow vRow eCol cCol vCol vColS eStrS vStrS eDdl cDdl vDdl cStmt vStmt ePart vPart vPartS eTable cTable vTable vTableS cCat vCat vRowS eRows vRows vRowsS eDb cDb vDb eFol vFol eSnap cSnap vSnap
set_option linter.unusedVariables false
set_option linter.unusedSimpArgs false
set_option maxRecDepth 8000
end Go.Proofs.YteeolohhmfjafaaGreat
namespace Go.Proofs.YteeolohhmfjafaaGreat
open Go Go.Proofs Go.Sm
attribute [local simp] ti eStr eInt eByte eVal cVal vVal eValS vValS eRow cRow vRow eCol cCol vCol vColS eStrS vStrS eDdl cDdl vDdl cStmt vStmt ePart vPart vPartS eTable cTable vTable vTableS cCat vCat vRowS eRows vRows vRowsS eDb cDb vDb eFol vFol eSnap cSnap vSnap
set_option linter.unusedVariables false
set_option linter.unusedSimpArgs false
set_option maxRecDepth 8000
def creP (t:GTable):GPart:=⟨⟨5,t.fName,[],⟨[]⟩,crD t⟩,[],[]⟩
def insP (t:GTable) (r:GRow):GPart:=⟨insS t r,colNames t.fCols,t.fKeys⟩
def tabP (D:GDb) (i:Nat):List GPart:=creP (D.fCat.fTables[i]?.getD dTable)::(D.fData[i]?.getD dRows).fRows.map (insP (D.fCat.fTables[i]?.getD dTable))
def loadTo (D:GDb) (n:Nat):List GPart:=(List.range n).flatMap (tabP D)
theorem loadTo_succ (D:GDb) (n:Nat):loadTo D (n+1)=loadTo D n++tabP D n:=by simp[loadTo,List.range_succ]
def loadP (D:GDb):List GPart:=loadTo D D.fCat.fTables.length
def restP (D:GDb) (i:Nat):List GPart:=((List.range D.fCat.fTables.length).drop i).flatMap (tabP D)
theorem restP_zero (D:GDb):restP D 0=loadP D:=rfl
theorem restP_at (D:GDb) {i:Nat} (h:i<D.fCat.fTables.length):restP D i=tabP D i++restP D (i+1):=by
 unfold restP
 rw[List.drop_eq_getElem_cons (by simpa using h),List.flatMap_cons,List.getElem_range]
theorem restP_end (D:GDb):restP D D.fCat.fTables.length= []:=by
 unfold restP
 rw[List.drop_of_length_le (by simp)]
 rfl
def load (f:GFol) (s:GSnap):GFol×Int:=
 if folOk f=false∨snapOk s=false then (dFol,1) else if f.fHalt≠0 then (dFol,20) else if f.fAt≠0∨countM f.fDb≠0 then (dFol,21) else
 if (takeL f.fDb (loadP s.fDb)).2≠0 then (dFol,(takeL f.fDb (loadP s.fDb)).2) else (⟨(takeL f.fDb (loadP s.fDb)).1,s.fLsn,0⟩,0)
theorem snap_db {s:GSnap} (h:snapOk s=true):dbOk s.fDb=true∧0≤s.fLsn∧s.fLsn≤400:=by
 simp only[snapOk,within,Bool.and_eq_true,decide_eq_true_eq] at h
 exact ⟨h.2,by omega,by omega⟩
theorem creP_ok {t:GTable} (h:tableOk t=true):stmtOk (creP t).fStmt=true:=by
 have h1:=((tableOk_iff t).1 h).1
 simp[stmtOk,creP,crD,h1,ddlOk,madeT,em,h]
theorem insP_ok {t:GTable} {r:GRow} (h:tableOk t=true) (hr:rowFit t r=true):stmtOk (insP t r).fStmt=true:=by
 obtain ⟨h1,h2,h3,_⟩:=(tableOk_iff t).1 h
 obtain ⟨q1,q2⟩:=(rowFit_iff t r).1 hr
 have hv:valsOk r.fVals=true:=by
  simp only[valsOk,within,Bool.and_eq_true,decide_eq_true_eq,Bool.not_eq_true',List.any_eq_false]
  refine ⟨⟨by omega,by omega⟩,fun v hv=> ?_⟩
  obtain ⟨i,hi,rfl⟩:=List.getElem_of_mem hv
  have:=q2 i (by omega)
  rw[List.getElem?_eq_getElem hi,Option.getD_some] at this
  simp only[stands,Bool.and_eq_true] at this
  simp[this.1]
 simp[stmtOk,insP,insS,h1,hv,noDdl,em]
theorem tabP_ok {D:GDb} (h:dbOk D=true) {i:Nat} (hi:i<D.fCat.fTables.length): ∀p∈tabP D i,stmtOk p.fStmt=true∧bdStrs p.fCols∧bdStrs p.fKeys:=fun p hp=>by
 have ht:=dbOk_tab h _ (getD_mem dTable hi)
 have hr:=(rowsOk_iff _ _).1 (((dbOk_iff D).1 h).2.2 i hi)
 have hn:bdStrs []:=⟨⟨by unfold okM;simp,by simp⟩,by simp[wStrS],by simp[wStrS]⟩
 rcases List.mem_cons.1 hp with rfl|hp
 ·exact ⟨creP_ok ht,hn,hn⟩
 ·obtain ⟨r,hrm,rfl⟩:=List.mem_map.1 hp
  exact ⟨insP_ok ht (hr.2.2.1 r hrm),(made_words ht).1,(made_words ht).2⟩
theorem load_fol {f:GFol} {s:GSnap} (h:(load f s).2=0):folOk (load f s).1=true:=by
 unfold load at h⊢
 split at h
 ·exact absurd h (by decide)
 rename_i h0
 rw[if_neg h0]
 split at h
 ·exact absurd h (by decide)
 rename_i h1
 rw[if_neg h1]
 split at h
 ·exact absurd h (by decide)
 rename_i h2
 rw[if_neg h2]
 split at h
 ·exact absurd h (by assumption)
 rename_i h3
 rw[if_neg h3]
 simp only[not_or,Bool.not_eq_false] at h0
 have hs:=snap_db h0.2
 have hd:=takeL_ok (folOk_db h0.1) (l:=loadP s.fDb) (by omega)
 simp only[folOk,within,Bool.and_eq_true,decide_eq_true_eq]
 exact ⟨hd,by omega,by omega⟩
theorem load_fail {f:GFol} {s:GSnap} (h:(load f s).2≠0):(load f s).1=dFol:=by
 unfold load at h⊢
 split at h
 ·rename_i h0;rw[if_pos h0]
 rename_i h0
 rw[if_neg h0]
 split at h
 ·rename_i h0;rw[if_pos h0]
 rename_i h0
 rw[if_neg h0]
 split at h
 ·rename_i h0;rw[if_pos h0]
 rename_i h0
 rw[if_neg h0]
 split at h
 ·rename_i h0;rw[if_pos h0]
 ·exact absurd rfl h
theorem load_db (f:GFol) (s:GSnap):dbOk (load f s).1.fDb=true:=by
 by_cases h:(load f s).2=0
 ·exact folOk_db (load_fol h)
 ·rw[load_fail h];exact dbOk_d
theorem Load_r0 (f:GFol) (s:GSnap) (o0:okFol f) (hs0: ∀n∈wFol f,n≤1048576) (_:(wFol f).sum≤1048576) (o1:okSnap s) (hs1: ∀n∈wSnap s,n≤1048576) (_:(wSnap s).sum≤1048576):(∀n∈wFol (load f s).1,n≤1048576)∧(wFol (load f s).1).sum≤1099511627776:=fol_r0 (load_db f s)
end Go.Proofs.YteeolohhmfjafaaGreat
namespace Go.Proofs.YteeolohhmfjafaaGreat
open Go Go.Proofs Go.Sm
attribute [local simp] ti eStr eInt eByte eVal cVal vVal eValS vValS eRow cRow vRow eCol cCol vCol vColS eStrS vStrS eDdl cDdl vDdl cStmt vStmt ePart vPart vPartS eTable cTable vTable vTableS cCat vCat vRowS eRows vRows vRowsS eDb cDb vDb eFol vFol eSnap cSnap vSnap
set_option linter.unusedVariables false
set_option linter.unusedSimpArgs false
set_option maxRecDepth 8000
def envShr (E:Env) (r t:Nat) (l:Lf):Env:= {E.fresh (fun x=>x==r) with sl:=putL (E.fresh (fun x=>x==r)).sl t (.v false [.s l])}
theorem Gh_shr (E:Env) (r t:Nat) {m:Md} {l:Lf} (ht:lkp E.sl t=some (.v false [.r [r]])) (hr:lkp E.rt r=some (m,l)) (hf:Full m l):Gh E (envShr E r t l):=by
 intro w0 tag0 tag hv a w hs
 let tag':Nat→Tag:=fun b=>match tag b with
  | .own (k::p)=>if k=r then .sh else .own (k::p)
  |s=>s
 have hh:Hop (fun x=>x==r) tag tag' hv hv w w:=⟨fun b _ h=>⟨by simp[tag',h],rfl⟩,fun b k p _ h hk=>⟨by simp at hk;simp[tag',h,hk],rfl⟩,fun _ _ _=>rfl⟩
 have hfr:Fr w0 tag0 tag' w:=⟨hs.fr.os,hs.fr.tape,hs.fr.output,hs.fr.size,fun b hb h=>by
  have h1:=hs.fr.heap b hb h
  refine ⟨h1.1, ?_⟩
  rcases h with h|h<;>simp[tag',h1.2,h]⟩
 have hs1:=hs.hop hh hfr (fun b hb=>by simp[tag',hs.hi b hb])
 refine ⟨tag',hv,hs1.nt,hs1.df,fun t' sv hl=> ?_,hs1.bx,hs1.rt,hs1.fr,hs1.hi⟩
 simp only[envShr,lkp_putL] at hl
 split at hl
 ·rename_i e
  subst e
  cases hl
  have h1:=VV_open (hs.sl t _ ht)
  have h2:=hs.rt r _ hr
  rw[h1.1]
  exact VV_one (VR.share h2 hf (fun b hb=>by simp[tag',hb]) (fun rest b _ hb=>by simp[tag',show tag b= .own (r::rest) from hb]) [])
 ·exact hs1.sl t' _ hl
attribute [simp] envShr
theorem fullVs (l:List GVal):Full (Md.o 234 (fun _=> [Md.s,Md.s,Md.s])) (.ls [Lf.sc (Value.int IntKind.i64 0),Lf.sc (Value.int IntKind.i64 0),Lf.sc (Value.string ⟨#[]⟩)] (l.map eVal)):=Full_rows (fun x j hj=>match j,hj with|0,_=> .s|1,_=> .s|2,_=> .s|n+3,hj=>absurd hj (by simp)) l
theorem fullCs (l:List GCol):Full (Md.o 236 (fun _=> [Md.s,Md.s,Md.s,Md.s,Md.s,Md.s,Md.s])) (.ls [Lf.sc (Value.string ⟨#[]⟩),Lf.sc (Value.int IntKind.i64 0),Lf.sc (Value.bool false),Lf.sc (Value.bool false),Lf.sc (Value.int IntKind.i64 0),Lf.sc (Value.int IntKind.i64 0),Lf.sc (Value.string ⟨#[]⟩)] (l.map eCol)):=Full_rows (fun x j hj=>match j,hj with|0,_=> .s|1,_=> .s|2,_=> .s|3,_=> .s|4,_=> .s|5,_=> .s|6,_=> .s|n+7,hj=>absurd hj (by simp)) l
theorem fullSs (l:List ByteArray):Full (.o 9 (fun _=> [.s])) (.ls [.sc (.string ⟨#[]⟩)] (l.map eStr)):=Full_rows (fun x j hj=>match j,hj with|0,_=> .s|n+1,hj=>absurd hj (by simp)) l
theorem part_full {M:Nat→List Md} (l:List GPart) (n:Nat) (h0:M 0= [.s,.s,(Md.o 234 (fun _=> [Md.s,Md.s,Md.s])),(Md.o 234 (fun _=> [Md.s,Md.s,Md.s])),.s,.s,.s,.s,.s,.s,.o 9 (fun _=> [.s]),.o 9 (fun _=> [.s])]) (h1: ∀x,1≤x→x≤n→M x= [.s,.s,(Md.o 234 (fun _=> [Md.s,Md.s,Md.s])),.s,.s,.s,(Md.o 236 (fun _=> [Md.s,Md.s,Md.s,Md.s,Md.s,Md.s,Md.s])),.o 9 (fun _=> [.s]),.s,.s,.s,.s]) (hn:l.length≤n+1):Full (.o 150 M) (.ls [Lf.sc (Value.int IntKind.i64 0),Lf.sc (Value.string ⟨#[]⟩),Lf.ls [Lf.sc (Value.int IntKind.i64 0),Lf.sc (Value.int IntKind.i64 0),Lf.sc (Value.string ⟨#[]⟩)] [],Lf.ls [Lf.sc (Value.int IntKind.i64 0),Lf.sc (Value.int IntKind.i64 0),Lf.sc (Value.string ⟨#[]⟩)] [],Lf.sc (Value.int IntKind.i64 0),Lf.sc (Value.string ⟨#[]⟩),Lf.ls [Lf.sc (Value.string ⟨#[]⟩),Lf.sc (Value.int IntKind.i64 0),Lf.sc (Value.bool false),Lf.sc (Value.bool false),Lf.sc (Value.int IntKind.i64 0),Lf.sc (Value.int IntKind.i64 0),Lf.sc (Value.string ⟨#[]⟩)] [],Lf.ls [Lf.sc (Value.string ⟨#[]⟩)] [],Lf.sc (Value.string ⟨#[]⟩),Lf.sc (Value.string ⟨#[]⟩),Lf.ls [Lf.sc (Value.string ⟨#[]⟩)] [],Lf.ls [Lf.sc (Value.string ⟨#[]⟩)] []] (l.map ePart)):=by
 refine .o fun i j hi hj=> ?_
 have hi':i<l.length:=by simpa using hi
 have e:lf [Lf.sc (Value.int IntKind.i64 0),Lf.sc (Value.string ⟨#[]⟩),Lf.ls [Lf.sc (Value.int IntKind.i64 0),Lf.sc (Value.int IntKind.i64 0),Lf.sc (Value.string ⟨#[]⟩)] [],Lf.ls [Lf.sc (Value.int IntKind.i64 0),Lf.sc (Value.int IntKind.i64 0),Lf.sc (Value.string ⟨#[]⟩)] [],Lf.sc (Value.int IntKind.i64 0),Lf.sc (Value.string ⟨#[]⟩),Lf.ls [Lf.sc (Value.string ⟨#[]⟩),Lf.sc (Value.int IntKind.i64 0),Lf.sc (Value.bool false),Lf.sc (Value.bool false),Lf.sc (Value.int IntKind.i64 0),Lf.sc (Value.int IntKind.i64 0),Lf.sc (Value.string ⟨#[]⟩)] [],Lf.ls [Lf.sc (Value.string ⟨#[]⟩)] [],Lf.sc (Value.string ⟨#[]⟩),Lf.sc (Value.string ⟨#[]⟩),Lf.ls [Lf.sc (Value.string ⟨#[]⟩)] [],Lf.ls [Lf.sc (Value.string ⟨#[]⟩)] []] (l.map ePart) i j=(ePart l[i]).getD j default:=by simp[lf,hi']
 rw[e]
 generalize l[i]=p
 rcases Nat.eq_zero_or_pos i with rfl|i0
 ·simp only[md,h0]
  exact match j,hj with
   |0,_=> .s|1,_=> .s|2,_=>fullVs _|3,_=>fullVs _|4,_=> .s|5,_=> .s|6,_=> .s|7,_=> .s|8,_=> .s|9,_=> .s|10,_=>fullSs _|11,_=>fullSs _|n+12,hj=>absurd hj (by simp)
 ·simp only[md,h1 i i0 (by omega)]
  exact match j,hj with
   |0,_=> .s|1,_=> .s|2,_=>fullVs _|3,_=> .s|4,_=> .s|5,_=> .s|6,_=>fullCs _|7,_=>fullSs _|8,_=> .s|9,_=> .s|10,_=> .s|11,_=> .s|n+12,hj=>absurd hj (by simp)
theorem loadI_ok (f:GFol) (s:GSnap) (o0:okFol f) (hk0: ∀t∈f.fDb.fCat.fTables,t.fKeys.length≤1048576) (o1:okSnap s) (hk1: ∀t∈s.fDb.fCat.fTables,t.fKeys.length≤1048576):VC Tryz.prog 66 [vFol f,vSnap s] [(true,mFol (load f s).1),(false,[(.s,.sc (.int .i64 (load f s).2))])]:=by
 have hE0:load f s=if folOk f=false∨snapOk s=false then (dFol,1) else if f.fHalt≠0 then (dFol,20) else if f.fAt≠0∨countM f.fDb≠0 then (dFol,21) else
  if (takeL f.fDb (loadP s.fDb)).2≠0 then (dFol,(takeL f.fDb (loadP s.fDb)).2) else (⟨(takeL f.fDb (loadP s.fDb)).1,s.fLsn,0⟩,0):=rfl
 refine vc_of_ew good hm [0,1,2,3,4,5,16,26,31,6,47,48,49,50,8,7,9,67,68,69,70,11,86,87,88,89,13,14,15,99] Tryz.func66 rfl (by kernel_rfl) (by kernel_rfl) rfl ?_
 simp[Tryz.f66,mFol]
 refine .of (folOkI_ok f o0 hk0) ?_
 simp
 refine .of (fun g=>⟨g,snapOk_ok s o1.2.1 hk1⟩) ?_
 simp
 refine ⟨fun h=>by rw[hE0,if_pos (by grind)];simp[dFol,dDb,dCat],fun h1 h2=>⟨fun h=>by rw[hE0,if_neg (by simp[h1,h2]),if_pos h];simp[dFol,dDb,dCat],fun h3=> ?_⟩⟩
 have hd:=folOk_db h1
 refine .of (fun g=>⟨g,countI_ok f.fDb (dbOk_ok hd) (dbOk_key hd)⟩) ?_
 simp
 rw[if_neg (by simp[h1,h2]),if_neg (by omega)] at hE0
 refine ⟨fun h=>by rw[hE0,if_pos (by grind)];simp[dFol,dDb,dCat],fun h4 h5=> ?_⟩
 rw[if_neg (by omega)] at hE0
 obtain ⟨hsd,hs1,hs2⟩:=snap_db h2
 have hsl:=dbOk_len hsd
 have hcl:=(catOk_ok (dbOk_cat hsd)).2.1
 refine ew_loop (fun E=> ∃ (i:Nat) (D:GDb),i≤s.fDb.fCat.fTables.length∧dbOk D=true∧takeL f.fDb (loadP s.fDb)=takeL D (restP s.fDb i)∧E= {nt:=110,sl:= [(3,.p (.bx 3 0)),(4,.p (.bx 4 0)),(6,.p (.bx 6 0)),(47,vTableS s.fDb.fCat.fTables),(48,int .i64 s.fDb.fCat.fTables.length),(49,int .i64 i)],bx:= [(3,cSnap s),(4,[.n [Lf.sc (Value.string ⟨#[]⟩),Lf.ls [Lf.sc (Value.string ⟨#[]⟩),Lf.sc (Value.int IntKind.i64 0),Lf.sc (Value.bool false),Lf.sc (Value.bool false),Lf.sc (Value.int IntKind.i64 0),Lf.sc (Value.int IntKind.i64 0),Lf.sc (Value.string ⟨#[]⟩)] [],Lf.ls [Lf.sc (Value.string ⟨#[]⟩)] []],.n [Lf.ls [Lf.ls [Lf.sc (Value.int IntKind.i64 0),Lf.sc (Value.int IntKind.i64 0),Lf.sc (Value.string ⟨#[]⟩)] []] []],.s (.sc (.int .i64 0)),.s (.sc (.int .i64 0))]),(6,[.s (.ls [Lf.sc (Value.string ⟨#[]⟩),Lf.ls [Lf.sc (Value.string ⟨#[]⟩),Lf.sc (Value.int IntKind.i64 0),Lf.sc (Value.bool false),Lf.sc (Value.bool false),Lf.sc (Value.int IntKind.i64 0),Lf.sc (Value.int IntKind.i64 0),Lf.sc (Value.string ⟨#[]⟩)] [],Lf.ls [Lf.sc (Value.string ⟨#[]⟩)] []] (D.fCat.fTables.map eTable)),.s (.ls [Lf.ls [Lf.ls [Lf.sc (Value.int IntKind.i64 0),Lf.sc (Value.int IntKind.i64 0),Lf.sc (Value.string ⟨#[]⟩)] []] []] (D.fData.map eRows))])],rt:= []}) (fun E=>s.fDb.fCat.fTables.length- (E.num 49).toNat) _ (Gh.kb _ [3,4,6,47,48,49] [3,4,6] []) ⟨0,f.fDb,by omega,hd,by rw[restP_zero],by simp⟩ ?_
 rintro E1 ⟨i,D,hi,hD,hx,rfl⟩
 simp
 refine ⟨fun hil=> ?_,fun hil=> ?_⟩
 ·have ht:=dbOk_tab hsd _ (getD_mem dTable hil)
  have htb:=table_b ht
  have hr:=(rowsOk_iff _ _).1 (((dbOk_iff _).1 hsd).2.2 i hil)
  have hP:=tabP_ok hsd hil
  have hcr:=creates_ok (s.fDb.fCat.fTables[i]?.getD dTable) (bdD_cr (fun n hn=>by have:=memS hn;have:=table_w ht;omega))
  refine ⟨hil,.of (hcr.frz (by simp[FullRs,FullML,mDdl])) ?_⟩
  simp[mDdl]
  rw[show s.fDb.fData.length=s.fDb.fCat.fTables.length from hsl]
  refine ⟨hil, ?_⟩
  generalize hL:(s.fDb.fData[i]?.getD dRows).fRows=L at*
  generalize hT:s.fDb.fCat.fTables[i]?.getD dTable=t at*
  refine ew_loop (fun E=> ∃ (j:Nat) (M:Nat→List Md),j≤L.length∧M 0= [.s,.s,(Md.o 234 (fun _=> [Md.s,Md.s,Md.s])),(Md.o 234 (fun _=> [Md.s,Md.s,Md.s])),.s,.s,.s,.s,.s,.s,.o 9 (fun _=> [.s]),.o 9 (fun _=> [.s])]∧(∀x,1≤x→x≤j→M x= [.s,.s,(Md.o 234 (fun _=> [Md.s,Md.s,Md.s])),.s,.s,.s,(Md.o 236 (fun _=> [Md.s,Md.s,Md.s,Md.s,Md.s,Md.s,Md.s])),.o 9 (fun _=> [.s]),.s,.s,.s,.s])∧E= {nt:=110,sl:= [(3,.p (.bx 3 0)),(4,.p (.bx 4 0)),(6,.p (.bx 6 0)),(47,vTableS s.fDb.fCat.fTables),(48,int .i64 s.fDb.fCat.fTables.length),(49,int .i64 i),(8,.p (.bx 8 0)),(9,.v false [.r [60]]),(67,vRowS L),(68,int .i64 L.length),(69,int .i64 j)],bx:= [(3,cSnap s),(4,[.n [Lf.sc (Value.string ⟨#[]⟩),Lf.ls [Lf.sc (Value.string ⟨#[]⟩),Lf.sc (Value.int IntKind.i64 0),Lf.sc (Value.bool false),Lf.sc (Value.bool false),Lf.sc (Value.int IntKind.i64 0),Lf.sc (Value.int IntKind.i64 0),Lf.sc (Value.string ⟨#[]⟩)] [],Lf.ls [Lf.sc (Value.string ⟨#[]⟩)] []],.n [Lf.ls [Lf.ls [Lf.sc (Value.int IntKind.i64 0),Lf.sc (Value.int IntKind.i64 0),Lf.sc (Value.string ⟨#[]⟩)] []] []],.s (.sc (.int .i64 0)),.s (.sc (.int .i64 0))]),(6,[.s (.ls [Lf.sc (Value.string ⟨#[]⟩),Lf.ls [Lf.sc (Value.string ⟨#[]⟩),Lf.sc (Value.int IntKind.i64 0),Lf.sc (Value.bool false),Lf.sc (Value.bool false),Lf.sc (Value.int IntKind.i64 0),Lf.sc (Value.int IntKind.i64 0),Lf.sc (Value.string ⟨#[]⟩)] [],Lf.ls [Lf.sc (Value.string ⟨#[]⟩)] []] (D.fCat.fTables.map eTable)),.s (.ls [Lf.ls [Lf.ls [Lf.sc (Value.int IntKind.i64 0),Lf.sc (Value.int IntKind.i64 0),Lf.sc (Value.string ⟨#[]⟩)] []] []] (D.fData.map eRows))]),(8,cTable t)],rt:= [(60,.o 150 M,.ls [Lf.sc (Value.int IntKind.i64 0),Lf.sc (Value.string ⟨#[]⟩),Lf.ls [Lf.sc (Value.int IntKind.i64 0),Lf.sc (Value.int IntKind.i64 0),Lf.sc (Value.string ⟨#[]⟩)] [],Lf.ls [Lf.sc (Value.int IntKind.i64 0),Lf.sc (Value.int IntKind.i64 0),Lf.sc (Value.string ⟨#[]⟩)] [],Lf.sc (Value.int IntKind.i64 0),Lf.sc (Value.string ⟨#[]⟩),Lf.ls [Lf.sc (Value.string ⟨#[]⟩),Lf.sc (Value.int IntKind.i64 0),Lf.sc (Value.bool false),Lf.sc (Value.bool false),Lf.sc (Value.int IntKind.i64 0),Lf.sc (Value.int IntKind.i64 0),Lf.sc (Value.string ⟨#[]⟩)] [],Lf.ls [Lf.sc (Value.string ⟨#[]⟩)] [],Lf.sc (Value.string ⟨#[]⟩),Lf.sc (Value.string ⟨#[]⟩),Lf.ls [Lf.sc (Value.string ⟨#[]⟩)] [],Lf.ls [Lf.sc (Value.string ⟨#[]⟩)] []] ((creP t::(L.take j).map (insP t)).map ePart))]}) (fun E=>L.length- (E.num 69).toNat) _ (Gh.kb _ [3,4,6,47,48,49,8,9,67,68,69] [3,4,6,8] [60]) ⟨0,fun _=> [.s,.s,(Md.o 234 (fun _=> [Md.s,Md.s,Md.s])),(Md.o 234 (fun _=> [Md.s,Md.s,Md.s])),.s,.s,.s,.s,.s,.s,.o 9 (fun _=> [.s]),.o 9 (fun _=> [.s])],by omega,rfl,fun x h1 h2=>by omega,by simp[ePart,creP]⟩ ?_
  rintro E2 ⟨j,M,hj,hM0,hM1,rfl⟩
  simp
  refine ⟨fun hjl=> ?_,fun hjl=> ?_⟩
  ·refine ⟨hjl,.of ((names_ok t (by have:=((tableOk_iff t).1 ht).2.2.1;omega)).frz (by simp[FullRs,FullML,mStrS])) ?_⟩
   simp[mStrS]
   have hLl:L.length≤60:=hr.2.1
   refine ⟨by omega,.of _ ((Gh.kb _ [3,4,6,47,48,49,8,9,67,68,69] [3,4,6,8] [84]).trans (Gh.rn _ 84 60)) ⟨j+1,by omega,fun x=>if x<min j L.length+1 then M x else [.s,.s,(Md.o 234 (fun _=> [Md.s,Md.s,Md.s])),.s,.s,.s,(Md.o 236 (fun _=> [Md.s,Md.s,Md.s,Md.s,Md.s,Md.s,Md.s])),.o 9 (fun _=> [.s]),.s,.s,.s,.s],by simp[hM0],fun x h1 h2=> ?_, ?_⟩ ?_⟩
   ·by_cases hx1:x<min j L.length+1
    ·exact (if_pos hx1).trans (hM1 x h1 (by omega))
    ·exact if_neg hx1
   ·have hw:=wrapS (n:=j) (by omega)
    push_cast at hw
    simp[hw,hjl,List.take_add_one,ePart,insP,insS,noDdl,dDdl]
   ·have hw:=wrapS (n:=j) (by omega)
    push_cast at hw
    simp[hw]
    omega
  ·obtain rfl:j=L.length:=by omega
   have hPe:tabP s.fDb i=creP t::L.map (insP t):=by simp[tabP,hL,hT]
   simp
   generalize hPP:creP t::L.map (insP t)=PP at*
   have hPl:PP.length=L.length+1:=by rw[←hPP];simp
   refine ew_loop (fun E=> ∃ (k:Nat) (D':GDb),k≤PP.length∧dbOk D'=true∧takeL f.fDb (loadP s.fDb)=takeL D' (PP.drop k++restP s.fDb (i+1))∧E= {nt:=110,sl:= [(3,.p (.bx 3 0)),(4,.p (.bx 4 0)),(6,.p (.bx 6 0)),(47,vTableS s.fDb.fCat.fTables),(48,int .i64 s.fDb.fCat.fTables.length),(49,int .i64 i),(86,vPartS PP),(87,int .i64 PP.length),(88,int .i64 k)],bx:= [(3,cSnap s),(4,[.n [Lf.sc (Value.string ⟨#[]⟩),Lf.ls [Lf.sc (Value.string ⟨#[]⟩),Lf.sc (Value.int IntKind.i64 0),Lf.sc (Value.bool false),Lf.sc (Value.bool false),Lf.sc (Value.int IntKind.i64 0),Lf.sc (Value.int IntKind.i64 0),Lf.sc (Value.string ⟨#[]⟩)] [],Lf.ls [Lf.sc (Value.string ⟨#[]⟩)] []],.n [Lf.ls [Lf.ls [Lf.sc (Value.int IntKind.i64 0),Lf.sc (Value.int IntKind.i64 0),Lf.sc (Value.string ⟨#[]⟩)] []] []],.s (.sc (.int .i64 0)),.s (.sc (.int .i64 0))]),(6,[.s (.ls [Lf.sc (Value.string ⟨#[]⟩),Lf.ls [Lf.sc (Value.string ⟨#[]⟩),Lf.sc (Value.int IntKind.i64 0),Lf.sc (Value.bool false),Lf.sc (Value.bool false),Lf.sc (Value.int IntKind.i64 0),Lf.sc (Value.int IntKind.i64 0),Lf.sc (Value.string ⟨#[]⟩)] [],Lf.ls [Lf.sc (Value.string ⟨#[]⟩)] []] (D'.fCat.fTables.map eTable)),.s (.ls [Lf.ls [Lf.ls [Lf.sc (Value.int IntKind.i64 0),Lf.sc (Value.int IntKind.i64 0),Lf.sc (Value.string ⟨#[]⟩)] []] []] (D'.fData.map eRows))])],rt:= []}) (fun E=>PP.length- (E.num 88).toNat) _ ((Gh_shr _ 60 86 (m:= .o 150 M) (l:= .ls [Lf.sc (Value.int IntKind.i64 0),Lf.sc (Value.string ⟨#[]⟩),Lf.ls [Lf.sc (Value.int IntKind.i64 0),Lf.sc (Value.int IntKind.i64 0),Lf.sc (Value.string ⟨#[]⟩)] [],Lf.ls [Lf.sc (Value.int IntKind.i64 0),Lf.sc (Value.int IntKind.i64 0),Lf.sc (Value.string ⟨#[]⟩)] [],Lf.sc (Value.int IntKind.i64 0),Lf.sc (Value.string ⟨#[]⟩),Lf.ls [Lf.sc (Value.string ⟨#[]⟩),Lf.sc (Value.int IntKind.i64 0),Lf.sc (Value.bool false),Lf.sc (Value.bool false),Lf.sc (Value.int IntKind.i64 0),Lf.sc (Value.int IntKind.i64 0),Lf.sc (Value.string ⟨#[]⟩)] [],Lf.ls [Lf.sc (Value.string ⟨#[]⟩)] [],Lf.sc (Value.string ⟨#[]⟩),Lf.sc (Value.string ⟨#[]⟩),Lf.ls [Lf.sc (Value.string ⟨#[]⟩)] [],Lf.ls [Lf.sc (Value.string ⟨#[]⟩)] []] (PP.map ePart)) (by simp) (by rw[←hPP];simp[ePart,List.take_of_length_le]) (part_full PP L.length hM0 hM1 (by omega))).trans (Gh.kb _ [3,4,6,47,48,49,86,87,88] [3,4,6] [])) ⟨0,D,by omega,hD,by rw[hx,restP_at s.fDb hil,hPe];rfl,by rw[←hPP];simp[ePart,List.take_of_length_le]⟩ ?_
   rintro E3 ⟨k,D',hk,hD',hx',rfl⟩
   rcases Nat.lt_or_ge k PP.length with hkl|hkl
   ·obtain ⟨q1,q2,q3⟩:=hP (PP[k]'hkl) (by rw[hPe];exact List.getElem_mem hkl)
    rw[List.drop_eq_getElem_cons hkl,List.cons_append,takeL] at hx'
    simp[hkl]
    refine .of ((takePI_ok D' _ hD' q1 q2 q3).frz (by simp[FullRs,FullML,mDb])) ?_
    simp[mDb]
    refine ⟨fun h=> ?_,fun h=> ?_⟩
    ·rw[if_pos h] at hx'
     rw[hE0,hx',if_pos h]
     simp[dFol,dDb,dCat]
    ·rw[if_neg (by simp[h])] at hx'
     refine .of _ (Gh.kb _ [3,4,6,47,48,49,86,87,88] [3,4,6] []) ⟨k+1,by omega,(takeP D' PP[k]).1,takeP_ok hD' h,hx',by have:=wrapS (n:=k) (by omega);push_cast at this;simp[this]⟩ (by have:=wrapS (n:=k) (by omega);push_cast at this;simp[this];omega)
   ·obtain rfl:k=PP.length:=by omega
    simp
    rw[List.drop_length,List.nil_append] at hx'
    refine .of _ (Gh.kb _ [3,4,6,47,48,49] [3,4,6] []) ⟨i+1,by omega,D',hD',hx',by have:=wrapS (n:=i) (by omega);push_cast at this;simp[this]⟩ (by have:=wrapS (n:=i) (by omega);push_cast at this;simp[this];omega)
 ·have:i=s.fDb.fCat.fTables.length:=by omega
  subst this
  rw[restP_end,takeL] at hx
  refine .of (copyDb_ok D (dbOk_bd hD)) ?_
  rw[hE0,hx]
  simp[mDb]
end Go.Proofs.YteeolohhmfjafaaGreat
namespace Go.Proofs.YteeolohhmfjafaaGreat
open Go Go.Proofs Go.Sm
attribute [local simp] ti eStr eInt eByte eVal cVal vVal eValS vValS eRow cRow vRow eCol cCol vCol vColS eStrS vStrS eDdl cDdl vDdl cStmt vStmt ePart vPart vPartS eTable cTable vTable vTableS cCat vCat vRowS eRows vRows vRowsS eDb cDb vDb eFol vFol eSnap cSnap vSnap
set_option linter.unusedVariables false
set_option linter.unusedSimpArgs false
set_option maxRecDepth 8000
theorem loadTo_len {D:GDb} (h:dbOk D=true): ∀ {n:Nat},n≤D.fCat.fTables.length→(loadTo D n).length≤n*61
 |0,_=>by simp[loadTo]
 |n+1,hn=>by
  have h1:=loadTo_len h (n:=n) (by omega)
  have h2:=((rowsOk_iff _ _).1 (((dbOk_iff _).1 h).2.2 n (by omega))).2.1
  rw[loadTo_succ,List.length_append]
  simp only[tabP,List.length_cons,List.length_map]
  omega
def ab (M:Nat→List Md) (n:Nat):Prop:= ∀x,x<n→M x= [.s,.s,(Md.o 234 (fun _=> [Md.s,Md.s,Md.s])),(Md.o 234 (fun _=> [Md.s,Md.s,Md.s])),.s,.s,.s,.s,.s,.s,.o 9 (fun _=> [.s]),.o 9 (fun _=> [.s])]∨M x= [.s,.s,(Md.o 234 (fun _=> [Md.s,Md.s,Md.s])),.s,.s,.s,(Md.o 236 (fun _=> [Md.s,Md.s,Md.s,Md.s,Md.s,Md.s,Md.s])),.o 9 (fun _=> [.s]),.s,.s,.s,.s]
theorem ab_app {M:Nat→List Md} {n:Nat} (h:ab M n) {b:List Md} (hb:b= [.s,.s,(Md.o 234 (fun _=> [Md.s,Md.s,Md.s])),(Md.o 234 (fun _=> [Md.s,Md.s,Md.s])),.s,.s,.s,.s,.s,.s,.o 9 (fun _=> [.s]),.o 9 (fun _=> [.s])]∨b= [.s,.s,(Md.o 234 (fun _=> [Md.s,Md.s,Md.s])),.s,.s,.s,(Md.o 236 (fun _=> [Md.s,Md.s,Md.s,Md.s,Md.s,Md.s,Md.s])),.o 9 (fun _=> [.s]),.s,.s,.s,.s]) {n':Nat} (hn:n'=n):ab (fun x=>if x<n' then M x else b) (n+1):=fun x hx=>by
 subst hn
 by_cases h1:x<n'
 ·simp only[if_pos h1];exact h x h1
 ·simp only[if_neg h1];exact hb
theorem ab_full {M:Nat→List Md} (l:List GPart) (h:ab M l.length):Full (.o 150 M) (.ls [Lf.sc (Value.int IntKind.i64 0),Lf.sc (Value.string ⟨#[]⟩),Lf.ls [Lf.sc (Value.int IntKind.i64 0),Lf.sc (Value.int IntKind.i64 0),Lf.sc (Value.string ⟨#[]⟩)] [],Lf.ls [Lf.sc (Value.int IntKind.i64 0),Lf.sc (Value.int IntKind.i64 0),Lf.sc (Value.string ⟨#[]⟩)] [],Lf.sc (Value.int IntKind.i64 0),Lf.sc (Value.string ⟨#[]⟩),Lf.ls [Lf.sc (Value.string ⟨#[]⟩),Lf.sc (Value.int IntKind.i64 0),Lf.sc (Value.bool false),Lf.sc (Value.bool false),Lf.sc (Value.int IntKind.i64 0),Lf.sc (Value.int IntKind.i64 0),Lf.sc (Value.string ⟨#[]⟩)] [],Lf.ls [Lf.sc (Value.string ⟨#[]⟩)] [],Lf.sc (Value.string ⟨#[]⟩),Lf.sc (Value.string ⟨#[]⟩),Lf.ls [Lf.sc (Value.string ⟨#[]⟩)] [],Lf.ls [Lf.sc (Value.string ⟨#[]⟩)] []] (l.map ePart)):=by
 refine .o fun i j hi hj=> ?_
 have hi':i<l.length:=by simpa using hi
 have e:lf [Lf.sc (Value.int IntKind.i64 0),Lf.sc (Value.string ⟨#[]⟩),Lf.ls [Lf.sc (Value.int IntKind.i64 0),Lf.sc (Value.int IntKind.i64 0),Lf.sc (Value.string ⟨#[]⟩)] [],Lf.ls [Lf.sc (Value.int IntKind.i64 0),Lf.sc (Value.int IntKind.i64 0),Lf.sc (Value.string ⟨#[]⟩)] [],Lf.sc (Value.int IntKind.i64 0),Lf.sc (Value.string ⟨#[]⟩),Lf.ls [Lf.sc (Value.string ⟨#[]⟩),Lf.sc (Value.int IntKind.i64 0),Lf.sc (Value.bool false),Lf.sc (Value.bool false),Lf.sc (Value.int IntKind.i64 0),Lf.sc (Value.int IntKind.i64 0),Lf.sc (Value.string ⟨#[]⟩)] [],Lf.ls [Lf.sc (Value.string ⟨#[]⟩)] [],Lf.sc (Value.string ⟨#[]⟩),Lf.sc (Value.string ⟨#[]⟩),Lf.ls [Lf.sc (Value.string ⟨#[]⟩)] [],Lf.ls [Lf.sc (Value.string ⟨#[]⟩)] []] (l.map ePart) i j=(ePart l[i]).getD j default:=by simp[lf,hi']
 rw[e]
 generalize l[i]=p
 rcases h i hi' with h0|h0
 ·simp only[md,h0]
  exact match j,hj with
   |0,_=> .s|1,_=> .s|2,_=>fullVs _|3,_=>fullVs _|4,_=> .s|5,_=> .s|6,_=> .s|7,_=> .s|8,_=> .s|9,_=> .s|10,_=>fullSs _|11,_=>fullSs _|n+12,hj=>absurd hj (by simp)
 ·simp only[md,h0]
  exact match j,hj with
   |0,_=> .s|1,_=> .s|2,_=>fullVs _|3,_=> .s|4,_=> .s|5,_=> .s|6,_=>fullCs _|7,_=>fullSs _|8,_=> .s|9,_=> .s|10,_=> .s|11,_=> .s|n+12,hj=>absurd hj (by simp)
theorem l12Parts_ok (d:GDb) (hd:dbOk d=true):VC Tryz.prog 144 [vDb d] [(false,[(.s,.ls [Lf.sc (Value.int IntKind.i64 0),Lf.sc (Value.string ⟨#[]⟩),Lf.ls [Lf.sc (Value.int IntKind.i64 0),Lf.sc (Value.int IntKind.i64 0),Lf.sc (Value.string ⟨#[]⟩)] [],Lf.ls [Lf.sc (Value.int IntKind.i64 0),Lf.sc (Value.int IntKind.i64 0),Lf.sc (Value.string ⟨#[]⟩)] [],Lf.sc (Value.int IntKind.i64 0),Lf.sc (Value.string ⟨#[]⟩),Lf.ls [Lf.sc (Value.string ⟨#[]⟩),Lf.sc (Value.int IntKind.i64 0),Lf.sc (Value.bool false),Lf.sc (Value.bool false),Lf.sc (Value.int IntKind.i64 0),Lf.sc (Value.int IntKind.i64 0),Lf.sc (Value.string ⟨#[]⟩)] [],Lf.ls [Lf.sc (Value.string ⟨#[]⟩)] [],Lf.sc (Value.string ⟨#[]⟩),Lf.sc (Value.string ⟨#[]⟩),Lf.ls [Lf.sc (Value.string ⟨#[]⟩)] [],Lf.ls [Lf.sc (Value.string ⟨#[]⟩)] []] ((loadP d).map ePart))])]:=by
 have hsl:=dbOk_len hd
 have hcl:=(catOk_ok (dbOk_cat hd)).2.1
 have hpw:tabPw d.fCat.fTables:=((catOk_iff _).1 (dbOk_cat hd)).2.2
 have hdw:=db_r0 hd
 have hdz:=db_w hd
 refine vc_of_ewF good hm [0,1,2,3,14,15,16,17,5,4,6,7,8,48,49,50,51,10] Tryz.func144 rfl (by kernel_rfl) (by kernel_rfl) rfl ?_
 simp[Tryz.f144]
 refine ew_loop (fun E=> ∃ (i:Nat) (M:Nat→List Md),i≤d.fCat.fTables.length∧ab M (loadTo d i).length∧E= {nt:=67,sl:= [(1,.p (.bx 1 0)),(3,.v false [.r [11]]),(14,vTableS d.fCat.fTables),(15,int .i64 d.fCat.fTables.length),(16,int .i64 i)],bx:= [(1,cDb d)],rt:= [(11,.o 150 M,.ls [Lf.sc (Value.int IntKind.i64 0),Lf.sc (Value.string ⟨#[]⟩),Lf.ls [Lf.sc (Value.int IntKind.i64 0),Lf.sc (Value.int IntKind.i64 0),Lf.sc (Value.string ⟨#[]⟩)] [],Lf.ls [Lf.sc (Value.int IntKind.i64 0),Lf.sc (Value.int IntKind.i64 0),Lf.sc (Value.string ⟨#[]⟩)] [],Lf.sc (Value.int IntKind.i64 0),Lf.sc (Value.string ⟨#[]⟩),Lf.ls [Lf.sc (Value.string ⟨#[]⟩),Lf.sc (Value.int IntKind.i64 0),Lf.sc (Value.bool false),Lf.sc (Value.bool false),Lf.sc (Value.int IntKind.i64 0),Lf.sc (Value.int IntKind.i64 0),Lf.sc (Value.string ⟨#[]⟩)] [],Lf.ls [Lf.sc (Value.string ⟨#[]⟩)] [],Lf.sc (Value.string ⟨#[]⟩),Lf.sc (Value.string ⟨#[]⟩),Lf.ls [Lf.sc (Value.string ⟨#[]⟩)] [],Lf.ls [Lf.sc (Value.string ⟨#[]⟩)] []] ((loadTo d i).map ePart))]}) (fun E=>d.fCat.fTables.length- (E.num 16).toNat) _ (Gh.kb _ [1,3,14,15,16] [1] [11]) ⟨0,fun _=> [.s,.s,(Md.o 234 (fun _=> [Md.s,Md.s,Md.s])),(Md.o 234 (fun _=> [Md.s,Md.s,Md.s])),.s,.s,(Md.o 236 (fun _=> [Md.s,Md.s,Md.s,Md.s,Md.s,Md.s,Md.s])),.o 9 (fun _=> [.s]),.s,.s,.o 9 (fun _=> [.s]),.o 9 (fun _=> [.s])],by omega,fun x hx=>absurd hx (by simp[loadTo]),by simp[loadTo]⟩ ?_
 rintro E1 ⟨i,M,hi,hM,rfl⟩
 simp
 refine ⟨fun hil=> ?_,fun hil=> ?_⟩
 ·have hlen:=loadTo_len hd hi
  have ht:=dbOk_tab hd _ (getD_mem dTable hil)
  have hnm:namesOf d (d.fCat.fTables[i]?.getD dTable).fName=(colNames (d.fCat.fTables[i]?.getD dTable).fCols,(d.fCat.fTables[i]?.getD dTable).fKeys):=by
   have h1:=tabAt_at hpw hil
   simp[namesOf,hd,namesP,theTab,h1]
  have hnz:=word_w (((tableOk_iff _).1 ht).1)
  have hN:=(S_NamesOf_ok d (d.fCat.fTables[i]?.getD dTable).fName (dbOk_ok hd) hdw.1 (by omega) (by unfold okM;omega) (by omega)).frz (by simp[FullRs,FullML,mStrS])
  rw[hnm] at hN
  have hLl:(d.fData[i]?.getD dRows).fRows.length≤60:=((rowsOk_iff _ _).1 (((dbOk_iff _).1 hd).2.2 i hil)).2.1
  have hst:loadTo d (i+1)=loadTo d i++creP (d.fCat.fTables[i]?.getD dTable)::((d.fData[i]?.getD dRows).fRows).map (insP (d.fCat.fTables[i]?.getD dTable)):=by rw[loadTo_succ];rfl
  refine ⟨hil,by omega,.of hN ?_⟩
  simp[mStrS]
  refine ⟨by omega, ?_⟩
  generalize hL:(d.fData[i]?.getD dRows).fRows=L at*
  generalize hT:d.fCat.fTables[i]?.getD dTable=t at*
  generalize hP0:loadTo d i=P0 at*
  refine ew_loop (fun E=> ∃ (j:Nat) (M:Nat→List Md),j≤L.length∧ab M (P0.length+1+j)∧E= {nt:=67,sl:= [(1,.p (.bx 1 0)),(3,.v false [.r [35]]),(14,vTableS d.fCat.fTables),(15,int .i64 d.fCat.fTables.length),(16,int .i64 i),(5,.p (.bx 5 0)),(7,vStrS (colNames t.fCols)),(8,vStrS t.fKeys),(48,vRowS L),(49,int .i64 L.length),(50,int .i64 j)],bx:= [(1,cDb d),(5,cTable t)],rt:= [(35,.o 150 M,.ls [Lf.sc (Value.int IntKind.i64 0),Lf.sc (Value.string ⟨#[]⟩),Lf.ls [Lf.sc (Value.int IntKind.i64 0),Lf.sc (Value.int IntKind.i64 0),Lf.sc (Value.string ⟨#[]⟩)] [],Lf.ls [Lf.sc (Value.int IntKind.i64 0),Lf.sc (Value.int IntKind.i64 0),Lf.sc (Value.string ⟨#[]⟩)] [],Lf.sc (Value.int IntKind.i64 0),Lf.sc (Value.string ⟨#[]⟩),Lf.ls [Lf.sc (Value.string ⟨#[]⟩),Lf.sc (Value.int IntKind.i64 0),Lf.sc (Value.bool false),Lf.sc (Value.bool false),Lf.sc (Value.int IntKind.i64 0),Lf.sc (Value.int IntKind.i64 0),Lf.sc (Value.string ⟨#[]⟩)] [],Lf.ls [Lf.sc (Value.string ⟨#[]⟩)] [],Lf.sc (Value.string ⟨#[]⟩),Lf.sc (Value.string ⟨#[]⟩),Lf.ls [Lf.sc (Value.string ⟨#[]⟩)] [],Lf.ls [Lf.sc (Value.string ⟨#[]⟩)] []] ((P0++creP t::(L.take j).map (insP t)).map ePart))]}) (fun E=>L.length- (E.num 50).toNat) _ (Gh.kb _ [1,3,14,15,16,5,7,8,48,49,50] [1,5] [35]) ⟨0,fun x=>if x<P0.length then M x else [.s,.s,(Md.o 234 (fun _=> [Md.s,Md.s,Md.s])),(Md.o 234 (fun _=> [Md.s,Md.s,Md.s])),.s,.s,.s,.s,.s,.s,.o 9 (fun _=> [.s]),.o 9 (fun _=> [.s])],by omega,ab_app hM (.inl rfl) rfl,by simp[ePart,creP,crD]⟩ ?_
  rintro E2 ⟨j,M',hj,hM',rfl⟩
  simp
  refine ⟨fun hjl=> ?_,fun hjl=> ?_⟩
  ·have hw:=wrapS (n:=j) (by omega)
   push_cast at hw
   refine ⟨hjl,by omega,.of _ ((Gh.kb _ [1,3,14,15,16,5,7,8,48,49,50] [1,5] [63]).trans (Gh.rn _ 63 35)) ⟨j+1,by omega,fun x=>if x<P0.length+1+j then M' x else [.s,.s,(Md.o 234 (fun _=> [Md.s,Md.s,Md.s])),.s,.s,.s,(Md.o 236 (fun _=> [Md.s,Md.s,Md.s,Md.s,Md.s,Md.s,Md.s])),.o 9 (fun _=> [.s]),.s,.s,.s,.s],ab_app hM' (.inr rfl) rfl, ?_⟩ ?_⟩
   ·simp[hw,hjl,List.take_add_one,ePart,insP,insS,noDdl,dDdl,Nat.add_assoc,Nat.min_eq_left hj,Nat.add_comm 1 j]
   ·simp[hw]
    omega
  ·obtain rfl:j=L.length:=by omega
   have hw:=wrapS (n:=i) (by omega)
   push_cast at hw
   refine .of _ ((Gh.kb _ [1,3,14,15,16] [1] [35]).trans (Gh.rn _ 35 11)) ⟨i+1,by omega,M', ?_, ?_⟩ ?_
   ·rw[hst,List.length_append,List.length_cons,List.length_map]
    exact (show P0.length+1+L.length=P0.length+(L.length+1) by omega)▸hM'
   ·simp[hw,hst,List.take_of_length_le]
   ·simp[hw]
    omega
 ·obtain rfl:i=d.fCat.fTables.length:=by omega
  exact ⟨ab_full _ hM,rfl⟩
theorem tabP_part {D:GDb} (h:dbOk D=true) {p:GPart} (hp:p∈loadP D):stmtOk p.fStmt=true∧okPart p∧bdStmt p.fStmt∧bdStrs p.fCols∧bdStrs p.fKeys:=by
 obtain ⟨i,hi,hp⟩:=List.mem_flatMap.1 hp
 obtain ⟨h1,h2,h3⟩:=tabP_ok h (List.mem_range.1 hi) p hp
 have h4:=stmtOk_ok h1
 exact ⟨h1,⟨h4.1,h2.1,h3.1,trivial⟩,⟨by omega,by omega,by omega,by omega⟩,h2,h3⟩
theorem loadS_ok (f:GFol) (s:GSnap) (o0:okFol f) (hk0: ∀t∈f.fDb.fCat.fTables,t.fKeys.length≤1048576) (o1:okSnap s) (hk1: ∀t∈s.fDb.fCat.fTables,t.fKeys.length≤1048576):VC Tryz.prog 63 [vFol f,vSnap s] [(true,fFol (load f s).1),(false,[(.s,.sc (.int .i64 (load f s).2))])]:=by
 have hE0:load f s=if folOk f=false∨snapOk s=false then (dFol,1) else if f.fHalt≠0 then (dFol,20) else if f.fAt≠0∨countM f.fDb≠0 then (dFol,21) else
  if (takeL f.fDb (loadP s.fDb)).2≠0 then (dFol,(takeL f.fDb (loadP s.fDb)).2) else (⟨(takeL f.fDb (loadP s.fDb)).1,s.fLsn,0⟩,0):=rfl
 refine vc_of_ewF good hm [0,1,2,3,4,5,18,22,32,6,39,40,41,42,8,9,10,52] Tryz.func63 rfl (by kernel_rfl) (by kernel_rfl) rfl ?_
 simp[Tryz.f63,fFol]
 refine .of (folOkS_ok f o0 hk0) ?_
 simp
 refine .of (fun g=>⟨g,l12Ok_ok s o1.2.1 hk1⟩) ?_
 simp
 refine ⟨fun h=>by rw[hE0,if_pos (by grind)];simp[dFol,dDb,dCat],fun h1 h2=>⟨fun h=>by rw[hE0,if_neg (by simp[h1,h2]),if_pos h];simp[dFol,dDb,dCat],fun h3=> ?_⟩⟩
 have hd:=folOk_db h1
 refine .of (fun g=>⟨g,countS_ok f.fDb (dbOk_ok hd) (dbOk_key hd)⟩) ?_
 simp
 rw[if_neg (by simp[h1,h2]),if_neg (by omega)] at hE0
 refine ⟨fun h=>by rw[hE0,if_pos (by grind)];simp[dFol,dDb,dCat],fun h4 h5=> ?_⟩
 rw[if_neg (by omega)] at hE0
 obtain ⟨hsd,hs1,hs2⟩:=snap_db h2
 have hlen:(loadP s.fDb).length≤1000:=by
  have h1:=loadTo_len hsd (Nat.le_refl _)
  have h2:=(catOk_ok (dbOk_cat hsd)).2.1
  show (loadTo _ _).length≤_
  omega
 have hP:=fun p hp=>tabP_part hsd (p:=p) hp
 refine .of ((l04Copy_ok f.fDb (dbOk_bd hd)).frz (by simp[FullRs,FullML,mDb])) ?_
 simp[mDb]
 refine .of (l12Parts_ok s.fDb hsd) ?_
 simp
 generalize loadP s.fDb=PP at*
 refine ew_loop (fun E=> ∃ (k:Nat) (D:GDb),k≤PP.length∧dbOk D=true∧takeL f.fDb PP=takeL D (PP.drop k)∧E= {nt:=61,sl:= [(3,.p (.bx 3 0)),(4,.p (.bx 4 0)),(6,.p (.bx 6 0)),(39,vPartS PP),(40,int .i64 PP.length),(41,int .i64 k)],bx:= [(3,cSnap s),(4,[.n [Lf.sc (Value.string ⟨#[]⟩),Lf.ls [Lf.sc (Value.string ⟨#[]⟩),Lf.sc (Value.int IntKind.i64 0),Lf.sc (Value.bool false),Lf.sc (Value.bool false),Lf.sc (Value.int IntKind.i64 0),Lf.sc (Value.int IntKind.i64 0),Lf.sc (Value.string ⟨#[]⟩)] [],Lf.ls [Lf.sc (Value.string ⟨#[]⟩)] []],.n [Lf.ls [Lf.ls [Lf.sc (Value.int IntKind.i64 0),Lf.sc (Value.int IntKind.i64 0),Lf.sc (Value.string ⟨#[]⟩)] []] []],.s (.sc (.int .i64 0)),.s (.sc (.int .i64 0))]),(6,[.s (.ls [Lf.sc (Value.string ⟨#[]⟩),Lf.ls [Lf.sc (Value.string ⟨#[]⟩),Lf.sc (Value.int IntKind.i64 0),Lf.sc (Value.bool false),Lf.sc (Value.bool false),Lf.sc (Value.int IntKind.i64 0),Lf.sc (Value.int IntKind.i64 0),Lf.sc (Value.string ⟨#[]⟩)] [],Lf.ls [Lf.sc (Value.string ⟨#[]⟩)] []] (D.fCat.fTables.map eTable)),.s (.ls [Lf.ls [Lf.ls [Lf.sc (Value.int IntKind.i64 0),Lf.sc (Value.int IntKind.i64 0),Lf.sc (Value.string ⟨#[]⟩)] []] []] (D.fData.map eRows))])],rt:= []}) (fun E=>PP.length- (E.num 41).toNat) _ (Gh.kb _ [3,4,6,39,40,41] [3,4,6] []) ⟨0,f.fDb,by omega,hd,rfl,by simp⟩ ?_
 rintro E3 ⟨k,D,hk,hD,hx,rfl⟩
 rcases Nat.lt_or_ge k PP.length with hkl|hkl
 ·obtain ⟨q0,q1,q2,q3,q4⟩:=hP (PP[k]'hkl) (List.getElem_mem hkl)
  rw[List.drop_eq_getElem_cons hkl,takeL] at hx
  have hTP:=takePartS_ok D PP[k] (dbOk_ok hD) (dbOk_key hD) q1 q2 q3 q4
  have hPe:takePart D PP[k]=takeP D PP[k]:=by unfold takePart;rw[if_neg (by simp[hD,q0])]
  rw[hPe] at hTP
  simp[hkl]
  refine .of hTP ?_
  simp[fDb]
  have hw:=wrapS (n:=k) (by omega)
  push_cast at hw
  refine ⟨fun h=> ?_,fun h=> ?_⟩
  ·rw[if_pos h] at hx
   rw[hE0,hx,if_pos h]
   simp[dFol,dDb,dCat]
  ·rw[if_neg (by simp[h])] at hx
   refine .of _ (Gh.kb _ [3,4,6,39,40,41] [3,4,6] []) ⟨k+1,by omega,(takeP D PP[k]).1,takeP_ok hD h,hx,by simp[hw]⟩ (by simp[hw];omega)
 ·obtain rfl:k=PP.length:=by omega
  rw[List.drop_length,takeL] at hx
  simp
  rw[hE0,hx]
  simp
theorem I_Load_ok (f:GFol) (s:GSnap) (o0:okFol f) (hs0: ∀n∈wFol f,n≤1048576) (_:(wFol f).sum≤1048576) (o1:okSnap s) (hs1: ∀n∈wSnap s,n≤1048576) (_:(wSnap s).sum≤1048576):VC Tryz.prog 66 [vFol f,vSnap s] [(true,mFol (load f s).1),(false,[(.s,.sc (.int .i64 (load f s).2))])]:=loadI_ok f s o0 (folKey hs0) o1 (snapB hs1)
theorem S_Load_ok (f:GFol) (s:GSnap) (o0:okFol f) (hs0: ∀n∈wFol f,n≤1048576) (_:(wFol f).sum≤1048576) (o1:okSnap s) (hs1: ∀n∈wSnap s,n≤1048576) (_:(wSnap s).sum≤1048576):VC Tryz.prog 63 [vFol f,vSnap s] [(true,fFol (load f s).1),(false,[(.s,.sc (.int .i64 (load f s).2))])]:=loadS_ok f s o0 (folKey hs0) o1 (snapB hs1)
end Go.Proofs.YteeolohhmfjafaaGreat
