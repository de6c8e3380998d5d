import Derived.Test.YteeolohhmfjafaaGreatG7
import Derived.Test.YteeolohhmfjafaaGreatG9
set_option maxHeartbeats 8000000
set_option maxRecDepth 8000
namespace Go.Proofs.YteeolohhmfjafaaGreat
open Go Go.Proofs Go.Sm
attribute [local simp] ti eStr eInt eByte eVal vVal eValS vValS eRow cRow vRow eCol vCol vColS vStrS eDdl cDdl vDdl eStmt cStmt vStmt ePart vPart vPartS eBatch vBatch eTable cTable vTable vTableS cCat vCat vRowS eRows vRows vRowsS cDb vDb eRec vRec vRecS eTail cTail vTail vBatchS vStmtS
set_option linter.unusedVariables false
set_option linter.unusedSimpArgs false
set_option maxRecDepth 8000
@[simp 10000] theorem OwML_c (m:Md) (l:Lf) (r:ML):OwML ((m,l)::r)=(Ow m l∧OwML r):=by simp[OwML]
@[simp 10000] theorem OwML_n:OwML []=True:=by simp[OwML]
@[simp 10000] theorem OwRs_c (q:Bool×ML) (r:List (Bool×ML)):OwRs (q::r)=(OwML q.2∧OwRs r):=by simp[OwRs]
@[simp 10000] theorem OwRs_n:OwRs []=True:=by simp[OwRs]
theorem memS {l:List Nat} {n:Nat} (h:n∈l):n≤l.sum:=by
 induction l with
 |nil=>cases h
 |cons x r ih=>
  rcases List.mem_cons.1 h with rfl|h
  ·simp
  ·have:=ih h;simp;omega
theorem sumF {α:Type} {w:α→List Nat} {l:List α} {B k:Nat} (hk:l.length≤k) (h: ∀v∈l,(w v).sum≤B):(l.flatMap w).sum≤k*B:=by
 refine Nat.le_trans ?_ (Nat.mul_le_mul_right B hk)
 clear hk
 induction l with
 |nil=>simp
 |cons x r ih=>
  simp only[List.flatMap_cons,List.sum_append,List.length_cons,Nat.add_mul]
  have h1:=h x (by simp)
  have h2:=ih fun v hv=>h v (by simp[hv])
  omega
theorem val_w {v:GVal} (h:valOk v=true):(wVal v).sum≤30:=by
 simp only[wVal,List.sum_cons,List.sum_nil]
 simp only[valOk,Bool.or_eq_true,Bool.and_eq_true,decide_eq_true_eq] at h
 rcases h with ((⟨_,_,h⟩|⟨_,_,h⟩)|⟨_,_,h⟩)|⟨_,_,h⟩
 ·rw[em_size h];omega
 ·rw[em_size h];omega
 ·rw[em_size h];omega
 ·omega
theorem null_w {v:GVal} (h:nullV v=true):(wVal v).sum≤30:=by
 simp only[wVal,List.sum_cons,List.sum_nil]
 simp only[nullV,Bool.and_eq_true,decide_eq_true_eq] at h
 rw[em_size h.2.2];omega
theorem word_w {s:ByteArray} (h:wordOk s=true):s.size≤8:=by
 simp only[wordOk,within,Bool.and_eq_true,decide_eq_true_eq] at h
 omega
theorem col_w {c:GCol} (h:colOk c=true):(wCol c).sum≤38:=by
 simp only[colOk,Bool.and_eq_true] at h
 have h1:=word_w h.1.1
 have h2:(wVal c.fDef).sum≤30:=by
  have:=h.2
  split at this
  ·simp only[Bool.and_eq_true] at this
   exact val_w this.1
  ·exact null_w this
 simp only[wCol,List.sum_cons,List.sum_append,List.sum_nil]
 omega
theorem table_w {t:GTable} (h:tableOk t=true):(wTable t).sum≤400:=by
 obtain ⟨h1,h2,h3,h4,h5,h6,h7,h8⟩:=(tableOk_iff t).1 h
 have hkl:=h7.length_le
 simp only[cnm,List.length_map] at hkl
 have a1:=sumF (w:=wCol) h3 fun c hc=>col_w (h5 c hc)
 have a2:=sumF (w:=wStr) (k:=8) (B:=8) (l:=t.fKeys) (by omega) fun s hs=>by
  obtain ⟨c,hc,rfl⟩:=List.mem_map.1 (h7.mem hs)
  have:=h5 c hc
  simp only[colOk,Bool.and_eq_true] at this
  simpa [wStr] using word_w this.1.1
 have:=word_w h1
 simp only[wTable,wColS,wStrS,List.sum_cons,List.sum_append,List.sum_nil]
 omega
theorem row_w {t:GTable} (ht:tableOk t=true) {r:GRow} (h:rowFit t r=true):(wRow r).sum≤248:=by
 have hl:=(rowFit_ok ht h).2
 simp only[rowFit,rowTo,Bool.and_eq_true,List.all_eq_true,List.mem_range] at h
 have a:=sumF (w:=wVal) hl fun v hv=>by
  obtain ⟨i,hi,rfl⟩:=List.getElem_of_mem hv
  have:=h.2 i hi
  simp only[rowAt,stands,Bool.and_eq_true,List.getElem?_eq_getElem hi,Option.getD_some] at this
  exact val_w this.1
 simp only[wRow,wValS,List.sum_cons,List.sum_append,List.sum_nil]
 omega
theorem rows_w {t:GTable} {x:GRows} (h:rowsOk t x.fRows=true):(wRows x).sum≤15000:=by
 obtain ⟨h1,h2,h3,_⟩:=(rowsOk_iff _ _).1 h
 have a:=sumF (w:=wRow) h2 fun r hr=>row_w h1 (h3 r hr)
 simp only[wRows,wRowS,List.sum_cons,List.sum_append,List.sum_nil]
 omega
theorem db_w {d:GDb} (h:dbOk d=true):(wDb d).sum≤100000:=by
 have h1:=catOk_ok (dbOk_cat h)
 have h2:=dbOk_len h
 have a1:=sumF (w:=wTable) h1.2.1 fun t ht=>table_w (h1.2.2 t ht).1
 have a2:=sumF (w:=wRows) (k:=6) (B:=15000) (l:=d.fData) (by omega) fun x hx=>by
  obtain ⟨t,_,ht⟩:=dbOk_rows h x hx
  exact rows_w ht
 simp only[wDb,wCat,wTableS,wRowsS,List.sum_cons,List.sum_append,List.sum_nil]
 omega
theorem of_sum {l:List Nat} (h:l.sum≤1048576):(∀n∈l,n≤1048576)∧l.sum≤1099511627776:=⟨fun n hn=>by have:=memS hn;omega,by omega⟩
theorem db_r0 {d:GDb} (h:dbOk d=true):(∀n∈wDb d,n≤1048576)∧(wDb d).sum≤1099511627776:=of_sum (by have:=db_w h;omega)
end Go.Proofs.YteeolohhmfjafaaGreat
namespace Go.Proofs.YteeolohhmfjafaaGreat
open Go Go.Proofs Go.Sm
attribute [local simp] ti eStr eInt eByte eVal vVal eValS vValS eRow cRow vRow eCol vCol vColS vStrS eDdl cDdl vDdl eStmt cStmt vStmt ePart vPart vPartS eBatch vBatch eTable cTable vTable vTableS cCat vCat vRowS eRows vRows vRowsS cDb vDb eRec vRec vRecS eTail cTail vTail vBatchS vStmtS
set_option linter.unusedVariables false
set_option linter.unusedSimpArgs false
set_option maxRecDepth 8000
end Go.Proofs.YteeolohhmfjafaaGreat
namespace Go.Proofs.YteeolohhmfjafaaGreat
open Go Go.Proofs Go.Sm
attribute [local simp] ti eStr eInt eByte eVal vVal eValS vValS eRow cRow vRow eCol vCol vColS vStrS eDdl cDdl vDdl eStmt cStmt vStmt ePart vPart vPartS eBatch vBatch eTable cTable vTable vTableS cCat vCat vRowS eRows vRows vRowsS cDb vDb eRec vRec vRecS eTail cTail vTail vBatchS vStmtS
set_option linter.unusedVariables false
set_option linter.unusedSimpArgs false
set_option maxRecDepth 8000
def partOf (d:GDb) (s:GStmt):GPart:=⟨s,if s.fKind=5 then [] else (namesP d s.fTable).1,if s.fKind=5 then [] else (namesP d s.fTable).2⟩
def partsL:GDb→List GStmt→Option (List GPart)
 |_,[]=>some []
 |d,s::r=>if stmtOk s=false∨(dbExec d s).2≠0 then none else (partsL (dbExec d s).1 r).map (partOf d s:: ·)
theorem partsL_at (D:GDb) {l:List GStmt} {i:Nat} (h:i<l.length):partsL D (l.drop i)=if stmtOk (l[i]?.getD dStmt)=false∨(dbExec D (l[i]?.getD dStmt)).2≠0 then none else (partsL (dbExec D (l[i]?.getD dStmt)).1 (l.drop (i+1))).map (partOf D (l[i]?.getD dStmt):: ·):=by
 rw[List.drop_eq_getElem_cons h,partsL,List.getElem?_eq_getElem h]
 rfl
def partsOf (d:GDb) (l:List GStmt):List GPart×Bool:=if dbOk d=false then ([],false) else ((partsL d l).getD [],(partsL d l).isSome)
theorem partsL_len: ∀ {l:List GStmt} {d:GDb} {x:List GPart},partsL d l=some x→x.length=l.length
 | [],d,x,h=>by cases h;rfl
 |s::r,d,x,h=>by
  rw[partsL] at h
  split at h
  ·cases h
  cases hp:partsL (dbExec d s).1 r with
  |none=>rw[hp] at h;cases h
  |some y=>
   rw[hp] at h
   cases h
   simp[partsL_len hp]
def prevC (base bef:Int) (l:List GRec):Nat→Int
 |0=>bef
 |i+1=>if (l[i]?.getD dRec).fKind=3 then base+((i+1:Nat):Int) else prevC base bef l i
def batM (d:GDb) (l:List GRec) (base bef:Int) (i:Nat):GBatch:=⟨base+((i+1:Nat):Int),prevC base bef l i,(partsOf ((playTo d l i).getD dDb) (stmtsOf (l.take i) (l[i]?.getD dRec).fXid)).1⟩
def comIx (l:List GRec) (n:Nat):List Nat:=(List.range n).filter fun i=>decide ((l[i]?.getD dRec).fKind=3)
theorem comIx_succ (l:List GRec) (n:Nat):comIx l (n+1)=if (l[n]?.getD dRec).fKind=3 then comIx l n++ [n] else comIx l n:=by
 unfold comIx
 rw[List.range_succ,List.filter_append]
 by_cases k:(l[n]?.getD dRec).fKind=3<;>simp[k]
theorem comIx_len (l:List GRec) (n:Nat):(comIx l n).length≤n:=by
 have:=List.length_filter_le (fun i=>decide ((l[i]?.getD dRec).fKind=3)) (List.range n)
 simpa [comIx] using this
def batTo (d:GDb) (l:List GRec) (base bef:Int) (n:Nat):List GBatch:=(comIx l n).map (batM d l base bef)
theorem batTo_succ (d:GDb) (l:List GRec) (base bef:Int) (n:Nat):batTo d l base bef (n+1)=if (l[n]?.getD dRec).fKind=3 then batTo d l base bef n++ [batM d l base bef n] else batTo d l base bef n:=by
 unfold batTo
 rw[comIx_succ]
 split<;>simp
theorem batTo_len (d:GDb) (l:List GRec) (base bef:Int) (n:Nat):(batTo d l base bef n).length≤n:=by simp[batTo,comIx_len]
theorem stmtsOf_com {l:List GRec} {i:Nat} (h:i<l.length) (k:(l[i]?.getD dRec).fKind=3) (x:Int):stmtsOf (l.take (i+1)) x=stmtsOf (l.take i) x:=by
 rw[stmtsOf_succ h,if_neg]
 simp[recTx,k]
end Go.Proofs.YteeolohhmfjafaaGreat
namespace Go.Proofs.YteeolohhmfjafaaGreat
open Go Go.Proofs Go.Sm
attribute [local simp] ti eStr eInt eByte eVal vVal eValS vValS eRow cRow vRow eCol vCol vColS vStrS eDdl cDdl vDdl eStmt cStmt vStmt ePart vPart vPartS eBatch vBatch eTable cTable vTable vTableS cCat vCat vRowS eRows vRows vRowsS cDb vDb eRec vRec vRecS eTail cTail vTail vBatchS vStmtS
set_option linter.unusedVariables false
set_option linter.unusedSimpArgs false
set_option maxRecDepth 8000
theorem partOf_eq (d:GDb) (s:GStmt):partOf d s=if s.fKind=5 then ⟨s,[],[]⟩ else ⟨s,(namesP d s.fTable).1,(namesP d s.fTable).2⟩:=by
 unfold partOf
 split<;>rfl
theorem partsOfI_ok (d:GDb) (l:List GStmt) (hd:okDb d) (hk: ∀t∈d.fCat.fTables,t.fKeys.length≤1048576) (hl:l.length≤1048576) (ho: ∀s∈l,okStmt s∧bdStmt s):
  VC Tryz.prog 19 [vDb d,vStmtS l] [(false,mPartS (partsOf d l).1),(false,[(.s,.sc (.bool (partsOf d l).2))])]:=by
 have hE:partsOf d l=if dbOk d=false then ([],false) else ((partsL d l).getD [],(partsL d l).isSome):=rfl
 refine vc_of_ew good hm [0,1,2,4,5,14,6,16,17,18,19,8,9,27,39,10,11,47] Tryz.func19 rfl (by kernel_rfl) (by kernel_rfl) rfl ?_
 simp[Tryz.f19,mPartS]
 refine .of (dbOkI_ok d hd hk) ?_
 simp
 refine ⟨fun h=>by rw[hE,if_pos h];simp,fun h=> ?_⟩
 rw[if_neg (by simp[h])] at hE
 refine ew_loop (fun E=> ∃ (i:Nat) (D:GDb) (X:List GPart),i≤l.length∧X.length=i∧dbOk D=true∧partsL d l=(partsL D (l.drop i)).map (X++ ·)∧E= {nt:=55,sl:= [(2,.p (.bx 2 0)),(6,.v false [.r [15]]),(16,vStmtS l),(17,int .i64 l.length),(18,int .i64 i)],bx:= [(2,[.s (.ls [Lf.sc (Value.string ⟨#[]⟩),Lf.ls [Lf.sc (Value.string ⟨#[]⟩),Lf.sc (Value.int IntKind.i64 0),Lf.sc (Value.bool false),Lf.sc (Value.bool false),Lf.sc (Value.int IntKind.i64 0),Lf.sc (Value.int IntKind.i64 0),Lf.sc (Value.string ⟨#[]⟩)] [],Lf.ls [Lf.sc (Value.string ⟨#[]⟩)] []] (D.fCat.fTables.map eTable)),.s (.ls [Lf.ls [Lf.ls [Lf.sc (Value.int IntKind.i64 0),Lf.sc (Value.int IntKind.i64 0),Lf.sc (Value.string ⟨#[]⟩)] []] []] (D.fData.map eRows))])],rt:=(mPartS X).map fun y=>(15,y)}) (fun E=>l.length- (E.num 18).toNat) _ (Gh.kb _ [2,6,16,17,18] [2] [15]) ⟨0,d,[],by omega,rfl,h, ?_,by simp[mPartS]⟩ ?_
 ·rw[List.drop_zero]
  cases partsL d l<;>simp
 rintro E1 ⟨i,D,X,hi,hXl,hD,hx,rfl⟩
 simp[mPartS]
 refine ⟨fun hil=> ?_,fun hil=> ?_⟩
 ·have hs:=ho _ (getD_mem dStmt hil)
  rw[partsL_at D hil] at hx
  have hco:=catOk_ok (dbOk_cat hD)
  generalize hsg:l[i]?.getD dStmt=s at*
  have hpe:=partOf_eq D s
  refine ⟨hil,.of (copyStmt_ok s hs.2) ?_⟩
  have hst:=stmtOkI_ok s hs.1 hs.2.2.2.1 hs.2.2.2.2
  by_cases k5:s.fKind=5
  ·rw[if_pos k5] at hpe
   have hst':=hst
   unfold vStmt at hst'
   simp only[k5] at hst'
   simp[mStmt,k5]
   refine .of hst' ?_
   simp
   refine ⟨fun h1=>by rw[hE,hx,if_pos (.inl h1)];simp,fun h1=> ?_⟩
   have hex:=exec_ok D s hD h1
   unfold vStmt at hex
   simp only[k5] at hex
   refine .of hex ?_
   simp[fDb]
   refine ⟨fun h2=>by rw[hE,hx,if_pos (.inr h2)];simp,fun h2=> ?_⟩
   rw[if_neg (by simp[h1,h2]),hpe] at hx
   refine ⟨by omega,.of _ ((Gh.kb _ [2,6,16,17,18] [2] [52]).trans (Gh.rn _ 52 15)) ⟨i+1,by omega,(dbExec D s).1,X++ [partOf D s],by simp[hXl],dbExec_ok hD h2, ?_,by have:=wrapS (n:=i) (by omega);push_cast at this;simp[this,mPartS,ePart,hpe,k5]⟩ ?_⟩
   ·rw[hx,Option.map_map,hpe]
    congr 1
    funext x
    simp
   ·have:=wrapS (n:=i) (by omega)
    push_cast at this
    simp[this]
    omega
  ·simp[mStmt,k5]
   refine .of (namesOf_ok D s.fTable hco.1.1.1 (fun t ht=>(hco.2.2 t ht).2)) ?_
   simp[mStrS]
   refine .of hst ?_
   simp
   refine ⟨fun h1=>by rw[hE,hx,if_pos (.inl h1)];simp,fun h1=> ?_⟩
   have hex:=exec_ok D s hD h1
   refine .of hex ?_
   simp[fDb]
   refine ⟨fun h2=>by rw[hE,hx,if_pos (.inr h2)];simp,fun h2=> ?_⟩
   rw[if_neg (by simp[h1,h2]),hpe] at hx
   refine ⟨by omega,.of _ ((Gh.kb _ [2,6,16,17,18] [2] [52]).trans (Gh.rn _ 52 15)) ⟨i+1,by omega,(dbExec D s).1,X++ [partOf D s],by simp[hXl],dbExec_ok hD h2, ?_,by have:=wrapS (n:=i) (by omega);push_cast at this;simp[this,mPartS,ePart,hpe,k5]⟩ ?_⟩
   ·rw[hx,Option.map_map,hpe]
    congr 1
    funext x
    simp[k5]
   ·have:=wrapS (n:=i) (by omega)
    push_cast at this
    simp[this]
    omega
 ·have:i=l.length:=by omega
  subst this
  rw[List.drop_length,partsL] at hx
  rw[hE,hx]
  simp
end Go.Proofs.YteeolohhmfjafaaGreat
namespace Go.Proofs.YteeolohhmfjafaaGreat
open Go Go.Proofs Go.Sm
attribute [local simp] ti eStr eInt eByte eVal vVal eValS vValS eRow cRow vRow eCol vCol vColS vStrS eDdl cDdl vDdl eStmt cStmt vStmt ePart vPart vPartS eBatch vBatch eTable cTable vTable vTableS cCat vCat vRowS eRows vRows vRowsS cDb vDb eRec vRec vRecS eTail cTail vTail vBatchS vStmtS
set_option linter.unusedVariables false
set_option linter.unusedSimpArgs false
set_option maxRecDepth 8000
theorem specExec_eq (D:GDb) (s:GStmt) (hD:dbOk D=true):specExec D s=if stmtOk s=false then (dDb,1) else dbExec D s:=by simp[specExec,hD]
theorem partsS_at (D:GDb) {l:List GStmt} {i:Nat} (hD:dbOk D=true) (h:i<l.length):partsL D (l.drop i)=if (specExec D (l[i]?.getD dStmt)).2≠0 then none else (partsL (specExec D (l[i]?.getD dStmt)).1 (l.drop (i+1))).map (partOf D (l[i]?.getD dStmt):: ·):=by
 rw[partsL_at D h,specExec_eq D _ hD]
 by_cases k:stmtOk (l[i]?.getD dStmt)=false<;>simp[k]
theorem specExec_dbOk {D:GDb} {s:GStmt} (hD:dbOk D=true) (h:(specExec D s).2=0):dbOk (specExec D s).1=true:=by
 rw[specExec_eq D s hD] at h⊢
 split at h
 ·cases h
 ·rename_i k
  rw[if_neg k]
  exact dbExec_ok hD h
theorem partsOfS_ok (d:GDb) (l:List GStmt) (hd:okDb d) (hk: ∀t∈d.fCat.fTables,t.fKeys.length≤1048576) (hl:l.length≤1048576) (ho: ∀s∈l,okStmt s∧bdStmt s∧s.fTable.size≤1048576):
  VC Tryz.prog 16 [vDb d,vStmtS l] [(false,mPartS (partsOf d l).1),(false,[(.s,.sc (.bool (partsOf d l).2))])]:=by
 have hE:partsOf d l=if dbOk d=false then ([],false) else ((partsL d l).getD [],(partsL d l).isSome):=rfl
 refine vc_of_ew good hm [0,1,2,4,5,6,15,16,17,18,19,8,9,27,10,11,44] Tryz.func16 rfl (by kernel_rfl) (by kernel_rfl) rfl ?_
 simp[Tryz.f16,mPartS]
 refine .of (dbOkS_ok d hd hk) ?_
 simp
 refine ⟨fun h=>by rw[hE,if_pos h];simp,fun h=> ?_⟩
 rw[if_neg (by simp[h])] at hE
 refine ew_loop (fun E=> ∃ (i:Nat) (D:GDb) (X:List GPart),i≤l.length∧X.length=i∧dbOk D=true∧partsL d l=(partsL D (l.drop i)).map (X++ ·)∧E= {nt:=52,sl:= [(2,.p (.bx 2 0)),(6,.v false [.r [12]]),(16,vStmtS l),(17,int .i64 l.length),(18,int .i64 i)],bx:= [(2,[.s (.ls [Lf.sc (Value.string ⟨#[]⟩),Lf.ls [Lf.sc (Value.string ⟨#[]⟩),Lf.sc (Value.int IntKind.i64 0),Lf.sc (Value.bool false),Lf.sc (Value.bool false),Lf.sc (Value.int IntKind.i64 0),Lf.sc (Value.int IntKind.i64 0),Lf.sc (Value.string ⟨#[]⟩)] [],Lf.ls [Lf.sc (Value.string ⟨#[]⟩)] []] (D.fCat.fTables.map eTable)),.s (.ls [Lf.ls [Lf.ls [Lf.sc (Value.int IntKind.i64 0),Lf.sc (Value.int IntKind.i64 0),Lf.sc (Value.string ⟨#[]⟩)] []] []] (D.fData.map eRows))])],rt:=(mPartS X).map fun y=>(12,y)}) (fun E=>l.length- (E.num 18).toNat) _ (Gh.kb _ [2,6,16,17,18] [2] [12]) ⟨0,d,[],by omega,rfl,h, ?_,by simp[mPartS]⟩ ?_
 ·rw[List.drop_zero]
  cases partsL d l<;>simp
 rintro E1 ⟨i,D,X,hi,hXl,hD,hx,rfl⟩
 simp[mPartS]
 refine ⟨fun hil=> ?_,fun hil=> ?_⟩
 ·obtain ⟨hso,hsb,hsz⟩:=ho _ (getD_mem dStmt hil)
  rw[partsS_at D hD hil] at hx
  have hdo:=dbOk_ok hD
  have hdw:=db_r0 hD
  have hds:=db_w hD
  have hnm:=S_NamesOf_ok D (l[i]?.getD dStmt).fTable hdo hdw.1 (by omega) hso.2.1 hsz
  have hns:namesOf D (l[i]?.getD dStmt).fTable=namesP D (l[i]?.getD dStmt).fTable:=by simp[namesOf,hD]
  rw[hns] at hnm
  generalize hsg:l[i]?.getD dStmt=s at*
  have hpe:=partOf_eq D s
  refine ⟨hil,.of (l07Stmt_ok s hsb) ?_⟩
  have hex:=execS_ok D s hdo (dbOk_key hD) hso
  by_cases k5:s.fKind=5
  ·rw[if_pos k5] at hpe
   unfold vStmt at hex
   simp only[k5] at hex
   simp[mStmt,k5]
   refine .of hex ?_
   simp[fDb]
   refine ⟨fun h2=>by rw[hE,hx,if_pos h2];simp,fun h2=> ?_⟩
   rw[if_neg (by simp[h2]),hpe] at hx
   refine ⟨by omega,.of _ ((Gh.kb _ [2,6,16,17,18] [2] [49]).trans (Gh.rn _ 49 12)) ⟨i+1,by omega,(specExec D s).1,X++ [partOf D s],by simp[hXl],specExec_dbOk hD h2, ?_,by have:=wrapS (n:=i) (by omega);push_cast at this;simp[this,mPartS,ePart,hpe,k5]⟩ ?_⟩
   ·rw[hx,Option.map_map,hpe]
    congr 1
    funext x
    simp
   ·have:=wrapS (n:=i) (by omega)
    push_cast at this
    simp[this]
    omega
  ·simp[mStmt,k5]
   refine .of hnm ?_
   simp[mStrS]
   refine .of hex ?_
   simp[fDb]
   refine ⟨fun h2=>by rw[hE,hx,if_pos h2];simp,fun h2=> ?_⟩
   rw[if_neg (by simp[h2]),hpe] at hx
   refine ⟨by omega,.of _ ((Gh.kb _ [2,6,16,17,18] [2] [49]).trans (Gh.rn _ 49 12)) ⟨i+1,by omega,(specExec D s).1,X++ [partOf D s],by simp[hXl],specExec_dbOk hD h2, ?_,by have:=wrapS (n:=i) (by omega);push_cast at this;simp[this,mPartS,ePart,hpe,k5]⟩ ?_⟩
   ·rw[hx,Option.map_map,hpe]
    congr 1
    funext x
    simp[k5]
   ·have:=wrapS (n:=i) (by omega)
    push_cast at this
    simp[this]
    omega
 ·have:i=l.length:=by omega
  subst this
  rw[List.drop_length,partsL] at hx
  rw[hE,hx]
  simp
end Go.Proofs.YteeolohhmfjafaaGreat
namespace Go.Proofs.YteeolohhmfjafaaGreat
open Go Go.Proofs Go.Sm
attribute [local simp] ti eStr eInt eByte eVal vVal eValS vValS eRow cRow vRow eCol vCol vColS vStrS eDdl cDdl vDdl eStmt cStmt vStmt ePart vPart vPartS eBatch vBatch eTable cTable vTable vTableS cCat vCat vRowS eRows vRows vRowsS cDb vDb eRec vRec vRecS eTail cTail vTail vBatchS vStmtS
set_option linter.unusedVariables false
set_option linter.unusedSimpArgs false
set_option maxRecDepth 8000
theorem wCols_names (T:GTable):(wStrS (colNames T.fCols)).sum≤(wTable T).sum:=by
 have: ∀l:List GCol,((colNames l).flatMap wStr).sum≤(l.flatMap wCol).sum:=by
  intro l
  induction l with
  |nil=>simp[colNames]
  |cons c r ih=>
   simp only[colNames,List.map_cons,List.flatMap_cons,List.sum_append,wStr,wCol,List.sum_cons,List.sum_nil] at ih⊢
   omega
 have h:=this T.fCols
 have hl:(colNames T.fCols).length=T.fCols.length:=by simp[colNames]
 simp only[wTable,wColS,wStrS,List.sum_cons,List.sum_append,List.append_nil,hl]
 omega
theorem wKeys_names (T:GTable):(wStrS T.fKeys).sum≤(wTable T).sum:=by
 simp only[wTable,wColS,wStrS,List.sum_cons,List.sum_append,List.append_nil]
 omega
theorem names_w {D:GDb} (hD:dbOk D=true) (s:ByteArray):(wStrS (namesP D s).1).sum≤400∧(wStrS (namesP D s).2).sum≤400:=by
 unfold namesP
 split
 ·have h:(wTable (theTab D s)).sum≤400:=getD_all (p:=fun t=>(wTable t).sum≤400) (fun t ht=>table_w ((catOk_ok (dbOk_cat hD)).2.2 t ht).1) (by simp[wTable,wColS,wStrS,dTable];exact Nat.zero_le _) _
  exact ⟨Nat.le_trans (wCols_names _) h,Nat.le_trans (wKeys_names _) h⟩
 ·simp[wStrS]
theorem part_w {D:GDb} (hD:dbOk D=true) (s:GStmt):(wPart (partOf D s)).sum≤(wStmt s).sum+800:=by
 have h:=names_w hD s.fTable
 unfold partOf
 by_cases k:s.fKind=5
 ·simp[k,wPart,wStrS]
 ·simp only[k,if_false,wPart,List.sum_append,List.append_nil]
  omega
theorem partsL_w: ∀ {l:List GStmt} {d:GDb} {x:List GPart},dbOk d=true→partsL d l=some x→(x.flatMap wPart).sum≤(l.flatMap wStmt).sum+l.length*800∧ ∀p∈x,∃s∈l,(wPart p).sum≤(wStmt s).sum+800∧(∀n∈wPart p,n∈wStmt s∨n≤800)
 | [],d,x,hd,h=>by cases h;simp
 |s::r,d,x,hd,h=>by
  rw[partsL] at h
  split at h
  ·cases h
  rename_i hc
  cases hp:partsL (dbExec d s).1 r with
  |none=>rw[hp] at h;cases h
  |some y=>
   rw[hp] at h
   cases h
   have hok:dbOk (dbExec d s).1=true:=dbExec_ok hd (by
    by_cases k:(dbExec d s).2=0
    ·exact k
    ·exact absurd (.inr k) hc)
   have ih:=partsL_w hok hp
   have hw:=part_w hd s
   refine ⟨?_,fun p hpm=> ?_⟩
   ·simp only[List.flatMap_cons,List.sum_append,List.length_cons,Nat.add_mul]
    have:=ih.1
    omega
   ·rcases List.mem_cons.1 hpm with rfl|hpm
    ·refine ⟨s,by simp,hw,fun n hn=> ?_⟩
     have hnm:=names_w hd s.fTable
     unfold partOf at hn
     by_cases k:s.fKind=5
     ·simp only[k,if_true,wPart,List.mem_append,wStrS,List.length_nil,List.flatMap_nil,List.mem_cons,List.not_mem_nil,or_false] at hn
      rcases hn with hn|rfl|rfl
      ·exact .inl hn
      ·exact .inr (by omega)
      ·exact .inr (by omega)
     ·simp only[k,if_false,wPart,List.mem_append,List.append_nil] at hn
      rcases hn with hn|hn|hn
      ·exact .inl hn
      ·have:=memS hn;exact .inr (by omega)
      ·have:=memS hn;exact .inr (by omega)
    ·obtain ⟨s',hs',h1⟩:=ih.2 p hpm
     exact ⟨s',List.mem_cons_of_mem _ hs',h1⟩
theorem partsOf_w (d:GDb) {l:List GStmt} (hs: ∀n∈wStmtS l,n≤1048576) (hz:(wStmtS l).sum≤1048576):(∀n∈wPartS (partsOf d l).1,n≤1048576)∧(wPartS (partsOf d l).1).sum≤1099511627776:=by
 unfold partsOf
 split
 ·simp[wPartS]
 rename_i hd
 have hd:dbOk d=true:=by simpa using hd
 cases h:partsL d l with
 |none=>simp[wPartS]
 |some x=>
  have h1:=partsL_w hd h
  have h2:=partsL_len h
  simp only[wStmtS,List.sum_cons] at hz
  refine ⟨fun n hn=> ?_, ?_⟩
  ·simp only[wPartS,Option.getD_some,List.mem_cons,List.mem_flatMap] at hn
   rcases hn with rfl|⟨p,hp,hn⟩
   ·omega
   ·obtain ⟨s,hsm,_,h3⟩:=h1.2 p hp
    rcases h3 n hn with h4|h4
    ·exact hs n (by simp only[wStmtS,List.mem_cons,List.mem_flatMap];exact .inr ⟨s,hsm,h4⟩)
    ·omega
  ·simp only[wPartS,Option.getD_some,List.sum_cons]
   have:=h1.1
   omega
end Go.Proofs.YteeolohhmfjafaaGreat
namespace Go.Proofs.YteeolohhmfjafaaGreat
open Go Go.Proofs Go.Sm
attribute [local simp] ti eStr eInt eByte eVal vVal eValS vValS eRow cRow vRow eCol vCol vColS vStrS eDdl cDdl vDdl eStmt cStmt vStmt ePart vPart vPartS eBatch vBatch eTable cTable vTable vTableS cCat vCat vRowS eRows vRows vRowsS cDb vDb eRec vRec vRecS eTail cTail vTail vBatchS vStmtS
set_option linter.unusedVariables false
set_option linter.unusedSimpArgs false
set_option maxRecDepth 8000
def rtBat (X:List GBatch):BE:=match mBatchS X with
 | [(m,l)]=> .rt m l
 |_=> .bx []
def batOf (l:List GRec) (base bef:Int) (i:Nat) (D:GDb):GBatch:=⟨base+((i+1:Nat):Int),bef,(partsOf D (stmtsOf (l.take (i+1)) (l[i]?.getD dRec).fXid)).1⟩
def msBat (l:List GRec) (base bef:Int) (X:List GBatch):List BE:= [.bx [.s (.ls [Lf.sc (Value.int IntKind.i64 0),Lf.sc (Value.int IntKind.i64 0),Lf.sc (Value.int IntKind.i64 0),Lf.sc (Value.string ⟨#[]⟩),Lf.ls [Lf.sc (Value.int IntKind.i64 0),Lf.sc (Value.int IntKind.i64 0),Lf.sc (Value.string ⟨#[]⟩)] [],Lf.ls [Lf.sc (Value.int IntKind.i64 0),Lf.sc (Value.int IntKind.i64 0),Lf.sc (Value.string ⟨#[]⟩)] [],Lf.sc (Value.int IntKind.i64 0),Lf.sc (Value.string ⟨#[]⟩),Lf.ls [Lf.sc (Value.string ⟨#[]⟩),Lf.sc (Value.int IntKind.i64 0),Lf.sc (Value.bool false),Lf.sc (Value.bool false),Lf.sc (Value.int IntKind.i64 0),Lf.sc (Value.int IntKind.i64 0),Lf.sc (Value.string ⟨#[]⟩)] [],Lf.ls [Lf.sc (Value.string ⟨#[]⟩)] [],Lf.sc (Value.string ⟨#[]⟩),Lf.sc (Value.string ⟨#[]⟩)] (l.map eRec))],.bx [.r [902]],rtBat X,.bx [.s (.sc (.int .i64 base))],.bx [.s (.sc (.int .i64 bef))]]
def bsBat (l:List GRec) (base bef:Int) (X:List GBatch):List (Nat×ML):= [(0,[(.s,.ls [Lf.sc (Value.int IntKind.i64 0),Lf.sc (Value.int IntKind.i64 0),Lf.sc (Value.int IntKind.i64 0),Lf.sc (Value.string ⟨#[]⟩),Lf.ls [Lf.sc (Value.int IntKind.i64 0),Lf.sc (Value.int IntKind.i64 0),Lf.sc (Value.string ⟨#[]⟩)] [],Lf.ls [Lf.sc (Value.int IntKind.i64 0),Lf.sc (Value.int IntKind.i64 0),Lf.sc (Value.string ⟨#[]⟩)] [],Lf.sc (Value.int IntKind.i64 0),Lf.sc (Value.string ⟨#[]⟩),Lf.ls [Lf.sc (Value.string ⟨#[]⟩),Lf.sc (Value.int IntKind.i64 0),Lf.sc (Value.bool false),Lf.sc (Value.bool false),Lf.sc (Value.int IntKind.i64 0),Lf.sc (Value.int IntKind.i64 0),Lf.sc (Value.string ⟨#[]⟩)] [],Lf.ls [Lf.sc (Value.string ⟨#[]⟩)] [],Lf.sc (Value.string ⟨#[]⟩),Lf.sc (Value.string ⟨#[]⟩)] (l.map eRec))]),(1,mBatchS X),(3,[(.s,.sc (.int .i64 base))]),(4,[(.s,.sc (.int .i64 bef))])]
def capBat:List PV:= [.bx 900 0,.bx 901 0,.bx 903 0,.bx 904 0]
theorem batHook_ok (l:List GRec) (X:List GBatch) (base bef:Int) (i:Nat) (D:GDb) (hi:i<l.length) (hl:l.length≤1048576) (hD:dbOk D=true) (ho: ∀r∈l,okRec r) (hb: ∀r∈l,bdRec r) (hX:X.length≤1048576) (hw:IntKind.i64.wrap (base+(↑i+1))=base+(↑i+1)):
  VB Tryz.prog 215 ([int .i64 ((i+1:Nat):Int),vDb D]++capBat.map SV.p) (msBat l base bef X) (fun rs bs=>rs= []∧bs=bsBat l base (base+((i+1:Nat):Int)) (X++ [batOf l base bef i D])):=by
 refine vb_of_ew good hm [0,1,2,3,4,5,7,8,5000,5001,5003,5004] Tryz.func215 rfl (by kernel_rfl) (by kernel_rfl) (fun pv=> ?_)
 simp[Tryz.f215,capBat,msBat,rtBat,mBatchS]
 have hwi:IntKind.i64.wrap (i:Int)=i:=wrapN (by omega)
 have hm:(l.take (i+1)).map eRec=(l.map eRec).take (i+1):=List.map_take ..
 have hso:=stmtsOfI_ok (l.take (i+1)) (l[i]?.getD dRec).fXid (by simp;omega) (fun r hr=>hb r (List.mem_of_mem_take hr))
 unfold vRecS at hso
 rw[hm] at hso
 simp[hwi]
 refine ⟨by omega,hi,.of (hso.frz (by simp[FullRs,FullML,mStmtS])) ?_⟩
 simp[mStmtS]
 have hst:=partsOfI_ok D (stmtsOf (l.take (i+1)) (l[i]?.getD dRec).fXid) (dbOk_ok hD) (dbOk_key hD) (by have:=stmtsOf_len (l.take (i+1)) (l[i]?.getD dRec).fXid;rw[List.length_take] at this;omega) (fun s hs=>⟨stmtsOf_okS (fun r hr=>ho r (List.mem_of_mem_take hr)) _ s hs,by
     obtain ⟨r',hr',rfl⟩:=List.mem_map.1 hs
     exact hb r' (List.mem_of_mem_take (List.mem_filter.1 hr').1)⟩)
 refine .of hst ?_
 simp[mPartS]
 exact ⟨by omega,.of _ (Gh.refl _) [] _ ⟨rfl,rfl⟩ (by simp[bsBat,mBatchS,batOf,eBatch,hw])⟩
end Go.Proofs.YteeolohhmfjafaaGreat
namespace Go.Proofs.YteeolohhmfjafaaGreat
open Go Go.Proofs Go.Sm
attribute [local simp] ti eStr eInt eByte eVal vVal eValS vValS eRow cRow vRow eCol vCol vColS vStrS eDdl cDdl vDdl eStmt cStmt vStmt ePart vPart vPartS eBatch vBatch eTable cTable vTable vTableS cCat vCat vRowS eRows vRows vRowsS cDb vDb eRec vRec vRecS eTail cTail vTail vBatchS vStmtS
set_option linter.unusedVariables false
set_option linter.unusedSimpArgs false
set_option maxRecDepth 8000
def stopN (d:GDb) (l:List GRec):Nat→Nat
 |0=>0
 |n+1=>if (playTo d l (n+1)).isSome then n+1 else stopN d l n
theorem stopN_at {d D:GDb} {l:List GRec} {i:Nat} (h:playTo d l i=some D) (hn:playTo d l (i+1)=none): ∀n,i≤n→stopN d l n=i
 |0,h0=>by cases Nat.le_zero.1 h0;rfl
 |n+1,h0=>by
  rw[stopN]
  rcases Nat.lt_or_ge n i with hlt|hge
  ·have:i=n+1:=by omega
   subst this
   simp[h]
  ·rw[playTo_none hn (n+1) (by omega),if_neg (by simp),stopN_at h hn n hge]
theorem stopN_all {d D:GDb} {l:List GRec} {n:Nat} (h:playTo d l n=some D):stopN d l n=n:=by
 cases n with
 |zero=>rfl
 |succ n=>simp[stopN,h]
theorem batOf_eq {d D:GDb} {l:List GRec} {i:Nat} (base bef:Int) (h:i<l.length) (k:(l[i]?.getD dRec).fKind=3) (hx:playTo d l i=some D):batOf l base (prevC base bef l i) i D=batM d l base bef i:=by
 unfold batOf batM
 rw[stmtsOf_com h k,hx]
 rfl
theorem walkB_ok (d:GDb) (l:List GRec) (base bef:Int) (hd:dbOk d=true) (hl:l.length≤1048576) (ho: ∀r∈l,okRec r) (hb: ∀r∈l,bdRec r) (hw: ∀i:Nat,i<l.length→IntKind.i64.wrap (base+(↑i+1))=base+(↑i+1)):
  VB Tryz.prog 214 [vDb d,vRecS l,.fn 215 capBat] (msBat l base bef []) (fun rs bs=>rs= [(true,fDb ((play d l).getD dDb)),(false,[(.s,.sc (.bool (play d l).isSome))])]∧bs=bsBat l base (prevC base bef l (stopN d l l.length)) (batTo d l base bef (stopN d l l.length))):=by
 refine vb_of_ew good hm [0,1,2,3,6,7,8,9,17,18,19,20,11,10,26,30,34,50,54,12,13,68,78,5000,5001,5003,5004] Tryz.func214 rfl (by kernel_rfl) (by kernel_rfl) (fun pv=> ?_)
 simp[Tryz.f214,fDb,msBat,rtBat,mBatchS,capBat]
 refine ew_loop (fun E=> ∃ (i:Nat) (D:GDb),i≤l.length∧dbOk D=true∧playTo d l i=some D∧E= {nt:=84,sl:= [(1,vRecS l),(2,.fn 215 capBat),(3,.p (.bx 3 0)),(6,.p (.bx 6 0)),(8,.v false [.r [15]]),(9,.v false [.r [16]]),(17,vRecS l),(18,int .i64 l.length),(19,int .i64 i),(5000,.pin 900 [0] (pv 900)),(5001,.pin 901 [0] (pv 901)),(5003,.pin 903 [0] (pv 903)),(5004,.pin 904 [0] (pv 904))],bx:= [(900,[.s (.ls [Lf.sc (Value.int IntKind.i64 0),Lf.sc (Value.int IntKind.i64 0),Lf.sc (Value.int IntKind.i64 0),Lf.sc (Value.string ⟨#[]⟩),Lf.ls [Lf.sc (Value.int IntKind.i64 0),Lf.sc (Value.int IntKind.i64 0),Lf.sc (Value.string ⟨#[]⟩)] [],Lf.ls [Lf.sc (Value.int IntKind.i64 0),Lf.sc (Value.int IntKind.i64 0),Lf.sc (Value.string ⟨#[]⟩)] [],Lf.sc (Value.int IntKind.i64 0),Lf.sc (Value.string ⟨#[]⟩),Lf.ls [Lf.sc (Value.string ⟨#[]⟩),Lf.sc (Value.int IntKind.i64 0),Lf.sc (Value.bool false),Lf.sc (Value.bool false),Lf.sc (Value.int IntKind.i64 0),Lf.sc (Value.int IntKind.i64 0),Lf.sc (Value.string ⟨#[]⟩)] [],Lf.ls [Lf.sc (Value.string ⟨#[]⟩)] [],Lf.sc (Value.string ⟨#[]⟩),Lf.sc (Value.string ⟨#[]⟩)] (l.map eRec))]),(901,[.r [902]]),(903,[.s (.sc (.int .i64 base))]),(904,[.s (.sc (.int .i64 (prevC base bef l i)))]),(3,[.s (.ls [Lf.sc (Value.string ⟨#[]⟩),Lf.ls [Lf.sc (Value.string ⟨#[]⟩),Lf.sc (Value.int IntKind.i64 0),Lf.sc (Value.bool false),Lf.sc (Value.bool false),Lf.sc (Value.int IntKind.i64 0),Lf.sc (Value.int IntKind.i64 0),Lf.sc (Value.string ⟨#[]⟩)] [],Lf.ls [Lf.sc (Value.string ⟨#[]⟩)] []] (D.fCat.fTables.map eTable)),.s (.ls [Lf.ls [Lf.ls [Lf.sc (Value.int IntKind.i64 0),Lf.sc (Value.int IntKind.i64 0),Lf.sc (Value.string ⟨#[]⟩)] []] []] (D.fData.map eRows))]),(6,[.n [Lf.sc (Value.string ⟨#[]⟩),Lf.ls [Lf.sc (Value.string ⟨#[]⟩),Lf.sc (Value.int IntKind.i64 0),Lf.sc (Value.bool false),Lf.sc (Value.bool false),Lf.sc (Value.int IntKind.i64 0),Lf.sc (Value.int IntKind.i64 0),Lf.sc (Value.string ⟨#[]⟩)] [],Lf.ls [Lf.sc (Value.string ⟨#[]⟩)] []],.n [Lf.ls [Lf.ls [Lf.sc (Value.int IntKind.i64 0),Lf.sc (Value.int IntKind.i64 0),Lf.sc (Value.string ⟨#[]⟩)] []] []]])],rt:=(mBatchS (batTo d l base bef i)).map (fun y=>(902,y))++ [(15,.o 3 (fun _=> [Md.s]),.ls [Lf.sc (Value.int IntKind.i64 0)] ((openL (l.take i)).map eInt)),(16,.o 3 (fun _=> [Md.s]),.ls [Lf.sc (Value.int IntKind.i64 0)] ((begs (l.take i)).map eInt))]}) (fun E=>l.length- (E.num 19).toNat) _ (Gh.kb _ [1,2,3,6,8,9,17,18,19,5000,5001,5003,5004] [900,901,903,904,3,6] [902,15,16]) ⟨0,d,by omega,hd,rfl,by simp[openL,begs,capBat,mBatchS,batTo,comIx,prevC]⟩ ?_
 rintro E1 ⟨i,D,hi,hD,hx,rfl⟩
 simp[capBat,mBatchS]
 have hst:=play_step hx
 have hno:=fun (h:i<l.length)=>play_no h hx
 have hos:=fun (h:i<l.length)=>openL_succ h
 have hbs:=fun (h:i<l.length)=>begs_succ h
 have hpc:prevC base bef l (i+1)=if (l[i]?.getD dRec).fKind=3 then base+((i+1:Nat):Int) else prevC base bef l i:=rfl
 have hbt:=batTo_succ d l base bef i
 have hbo:=fun (h:i<l.length) (k:(l[i]?.getD dRec).fKind=3)=>batOf_eq base bef h k hx
 have hbl1:=batTo_len d l base bef i
 generalize hr:l[i]?.getD dRec=r at hst hno hos hbs hpc hbt hbo
 have htl:(l.take i).length≤1048576:=by simp;omega
 have hol:=openL_len (l.take i)
 have hbl:=begs_len (l.take i)
 refine ⟨fun hil=> ?_,fun hil=> ?_⟩
 ·have hrm:r∈l:=by rw[←hr];exact getD_mem dRec hil
  have hor:=ho r hrm
  have hbr:=hb r hrm
  refine ⟨hil,.of (recOkI_ok r hor hbr.2.2.1 hbr.2.2.2) ?_⟩
  simp
  have hps:playStep (l.take i) D r=if recBad (l.take i) r=true then none else if r.fKind=3 then (if (execAll D (stmtsOf (l.take i) r.fXid)).2.1≠0 then none else some (execAll D (stmtsOf (l.take i) r.fXid)).1) else some D:=rfl
  rw[List.length_take] at hol hbl
  have hbc:VC Tryz.prog 325 [vInts (begs (l.take i)),int .i64 r.fXid] [(false,[(.s,.sc (.bool (hasI (begs (l.take i)) r.fXid)))])]:=containsInt_ok (begs (l.take i)) r.fXid (by unfold okM;omega)
  have hoc:VC Tryz.prog 325 [vInts (openL (l.take i)),int .i64 r.fXid] [(false,[(.s,.sc (.bool (hasI (openL (l.take i)) r.fXid)))])]:=containsInt_ok (openL (l.take i)) r.fXid (by unfold okM;omega)
  rw[begs_has] at hbc
  have hfail:recBad (l.take i) r=true→play d l=none:=fun hbd=>hno hil (by rw[hps,if_pos hbd])
  have hstop:playStep (l.take i) D r=none→stopN d l l.length=i:=fun h=>stopN_at hx (hst.trans h) _ hi
  have hfst:recBad (l.take i) r=true→stopN d l l.length=i:=fun hbd=>stopN_at hx (hst.trans (by rw[hps,if_pos hbd])) _ hi
  refine ⟨fun a=> ?_,fun a=>⟨fun k1=> .of hbc ?_,fun k1=> .of hoc ?_⟩⟩
  ·have hpl:=hfail (by simp[recBad,a])
   have hfs:=hfst (by simp[recBad,a])
   rw[hpl,hfs]
   simp[dDb,dCat]
   refine .of _ (Gh.refl _) _ _ ⟨rfl,rfl⟩ ?_
   simp[bsBat,mBatchS]
  ·simp
   refine ⟨fun hu=> ?_,fun hu=>⟨by omega,by omega,.of _ ((Gh.kb _ [1,2,3,6,8,9,17,18,19,5000,5001,5003,5004] [900,901,903,904,3,6] [902,45,40]).trans ((Gh.rn _ 45 15).trans (Gh.rn _ 40 16))) ⟨i+1,by omega,D,hD, ?_, ?_⟩ ?_⟩⟩
   ·rw[hfail (by simp[recBad,k1,hu]),hfst (by simp[recBad,k1,hu])]
    simp[dDb,dCat]
    refine .of _ (Gh.refl _) _ _ ⟨rfl,rfl⟩ ?_
    simp[bsBat,mBatchS]
   ·rw[hst,hps,if_neg (by simp[recBad,a,k1,hu]),if_neg (by omega)]
   ·have hno2:hasI (openL (l.take i)) r.fXid=false:=by
     cases hq:hasI (openL (l.take i)) r.fXid with
     |false=>rfl
     |true=>
      obtain ⟨y,hy,e⟩:=List.any_eq_true.1 hq
      rw[beq_iff_eq] at e
      rw[e,openL_sub hy] at hu
      cases hu
    rw[hos hil,hbs hil,if_pos k1,hpc,hbt]
    simp[wrapS (show i<9223372036854775807 by omega),openStep,k1,hno2,capBat,mBatchS]
   ·simp[wrapS (show i<9223372036854775807 by omega)];omega
  ·simp
   have hm:(l.take i).map eRec=(l.map eRec).take i:=List.map_take ..
   have hso:=stmtsOfI_ok (l.take i) r.fXid htl (fun r hr=>hb r (List.mem_of_mem_take hr))
   unfold vRecS at hso
   rw[hm] at hso
   refine ⟨fun hu=> ?_,fun hu=>⟨fun k3=>⟨by omega,.of (hso.frz (by simp[FullRs,FullML,mStmtS])) ?_⟩,fun k3=> ?_⟩⟩
   ·rw[hfail (by simp[recBad,k1,hu]),hfst (by simp[recBad,k1,hu])]
    simp[dDb,dCat]
    refine .of _ (Gh.refl _) _ _ ⟨rfl,rfl⟩ ?_
    simp[bsBat,mBatchS]
   ·have hex:=execAllI_ok D (stmtsOf (l.take i) r.fXid) (dbOk_ok hD) (dbOk_key hD) (fun s hs=>⟨stmtsOf_okS (fun r hr=>ho r (List.mem_of_mem_take hr)) _ s hs,by
     obtain ⟨r',hr',rfl⟩:=List.mem_map.1 hs
     exact hb r' (List.mem_of_mem_take (List.mem_filter.1 hr').1)⟩) (by have:=stmtsOf_len (l.take i) r.fXid;unfold okM;omega)
    simp[mStmtS]
    refine .of hex ?_
    simp[fDb]
    rw[if_neg (by simp[recBad,a,k1,hu]),if_pos k3] at hps
    refine ⟨fun h=> ?_,fun h=> ?_⟩
    ·rw[hno hil (by rw[hps,if_pos h]),hstop (by rw[hps,if_pos h])]
     simp[dDb,dCat]
     refine .of _ (Gh.refl _) _ _ ⟨rfl,rfl⟩ ?_
     simp[bsBat,mBatchS]
    ·rw[if_neg (by simp[h])] at hps
     rw[hps] at hst
     refine .box [900,901,902,903,904] (batHook_ok l (batTo d l base bef i) base (prevC base bef l i) i D hil hl hD ho hb (by omega) (hw i hil)) ?_
     have hwi:IntKind.i64.wrap ((i:Int)+1)=((i:Int)+1):=by rw[wrapS (by omega)];push_cast;rfl
     rw[hbo hil k3]
     simp[k3,md,lf,List.range',capBat,msBat,rtBat,mBatchS,hwi,bsBat]
     refine .use (delFuncInt_ok (openL (l.take i)) _ (eRec r) (fun y=>y==r.fXid) (by omega) (fun x _=>walk1_ok r x)) ?_
     simp[mInts]
     refine ⟨k3,.of _ ((Gh.kb _ [1,2,3,6,8,9,17,18,19,5000,5001,5003,5004] [900,901,903,904,3,6] [1074,81,16]).trans ((Gh.rn _ 1074 902).trans (Gh.rn _ 81 15))) ⟨i+1,by omega,_,playStep_ok hD hps,hst, ?_⟩ ?_⟩
     ·rw[hos hil,hbs hil,if_neg k1,hpc,hbt,if_pos k3,if_pos k3]
      simp[wrapS (show i<9223372036854775807 by omega),openStep,k1,k3,md,lf,List.range',capBat,mBatchS]
     ·simp[wrapS (show i<9223372036854775807 by omega)];omega
   ·rw[if_neg (by simp[recBad,a,k1,hu]),if_neg k3] at hps
    rw[hps] at hst
    refine ⟨fun k2=> ?_,fun k2=> ?_⟩
    ·have k4:r.fKind=4:=by
      have:within r.fKind 1 4=true:=by
       have:=a
       simp only[recOk,Bool.and_eq_true] at this
       exact this.1
      simp only[within,Bool.and_eq_true,decide_eq_true_eq] at this
      omega
     refine .use (delFuncInt_ok (openL (l.take i)) _ (eRec r) (fun y=>y==r.fXid) (by omega) (fun x _=>walk1_ok r x)) ?_
     simp[mInts]
     refine .of _ ((Gh.kb _ [1,2,3,6,8,9,17,18,19,5000,5001,5003,5004] [900,901,903,904,3,6] [902,81,16]).trans (Gh.rn _ 81 15)) ⟨i+1,by omega,D,hD,hst, ?_⟩ ?_
     ·rw[hos hil,hbs hil,if_neg k1]
      rw[hpc,hbt]
      simp[wrapS (show i<9223372036854775807 by omega),openStep,k1,k4,capBat,mBatchS]
     ·simp[wrapS (show i<9223372036854775807 by omega)];omega
    ·refine .of _ (Gh.kb _ [1,2,3,6,8,9,17,18,19,5000,5001,5003,5004] [900,901,903,904,3,6] [902,15,16]) ⟨i+1,by omega,D,hD,hst, ?_⟩ ?_
     ·rw[hos hil,hbs hil,if_neg k1]
      rw[hpc,hbt,if_neg k3,if_neg k3]
      simp[wrapS (show i<9223372036854775807 by omega),openStep,k2,capBat,mBatchS]
     ·simp[wrapS (show i<9223372036854775807 by omega)];omega
 ·have:i=l.length:=by omega
  subst this
  have hp:play d l=some D:=hx
  rw[hp,stopN_all hx]
  simp
  refine .of _ (Gh.refl _) _ _ ⟨rfl,rfl⟩ ?_
  simp[bsBat,mBatchS]
end Go.Proofs.YteeolohhmfjafaaGreat
namespace Go.Proofs.YteeolohhmfjafaaGreat
open Go Go.Proofs Go.Sm
attribute [local simp] ti eStr eInt eByte eVal vVal eValS vValS eRow cRow vRow eCol vCol vColS vStrS eDdl cDdl vDdl eStmt cStmt vStmt ePart vPart vPartS eBatch vBatch eTable cTable vTable vTableS cCat vCat vRowS eRows vRows vRowsS cDb vDb eRec vRec vRecS eTail cTail vTail vBatchS vStmtS
set_option linter.unusedVariables false
set_option linter.unusedSimpArgs false
set_option maxRecDepth 8000
theorem fullB0 {e:Nat} {cols:Nat→List Md} {z:List Lf}:Full (.o e cols) (.ls z []):= .o (fun i r h=>by simp at h)
theorem batches_ok (d:GDb) (l:List GRec) (base bef:Int) (hd:dbOk d=true) (hl:l.length≤1048576) (ho: ∀r∈l,okRec r) (hb: ∀r∈l,bdRec r) (hw: ∀i:Nat,i<l.length→IntKind.i64.wrap (base+(↑i+1))=base+(↑i+1)):
  VC Tryz.prog 113 [vDb d,vRecS l,int .i64 base,int .i64 bef] [(false,mBatchS (batTo d l base bef (stopN d l l.length))),(false,[(.s,.sc (.bool (play d l).isSome))])]:=by
 refine vc_of_ew good hm [0,1,2,3,4,5,6,7,8,9,10,12] Tryz.func113 rfl (by kernel_rfl) (by kernel_rfl) rfl ?_
 simp[Tryz.f113,mBatchS]
 refine ⟨fullB0, ?_⟩
 refine .box [5,10,13,6,7] (walkB_ok d l base bef hd hl ho hb hw) ?_
 simp[capBat,msBat,rtBat,mBatchS,bsBat,fDb]
end Go.Proofs.YteeolohhmfjafaaGreat
namespace Go.Proofs.YteeolohhmfjafaaGreat
open Go Go.Proofs Go.Sm
attribute [local simp] ti eStr eInt eByte eVal vVal eValS vValS eRow cRow vRow eCol vCol vColS vStrS eDdl cDdl vDdl eStmt cStmt vStmt ePart vPart vPartS eBatch vBatch eTable cTable vTable vTableS cCat vCat vRowS eRows vRows vRowsS cDb vDb eRec vRec vRecS eTail cTail vTail vBatchS vStmtS
set_option linter.unusedVariables false
set_option linter.unusedSimpArgs false
set_option maxRecDepth 8000
theorem VR.wk {tag:Nat→Tag} {hv:Hv} {w:World} {p:List Nat} {e:Nat} {cols cols':Nat→List Md} {l:Lf} {v:Value} (h:VR tag hv w p (.o e cols) l v) (hc: ∀i j,md cols' i j=md cols i j∨md cols' i j= .x):VR tag hv w p (.o e cols') l v:=by
 cases h with
 |own0 hh=>exact .own0 hh
 |own cur hn hcc hm ht hh hb hs hl hr=>
  refine .own cur hn hcc hm ht hh hb hs hl (fun i j hi hj=> ?_)
  rcases hc i j with e|e
  ·rw[e];exact hr i j hi hj
  ·rw[e];exact .dead (VR.one (hr i j hi hj))
theorem Gh.wk (E:Env) (r:Nat) {e:Nat} {cols:Nat→List Md} (cols':Nat→List Md) {l:Lf} (h:lkp E.rt r=some (.o e cols,l)) (hc: ∀i j,md cols' i j=md cols i j∨md cols' i j= .x):Gh E {E with rt:=putL E.rt r (.o e cols',l)}:=fun w0 tag0 tag hv a w hs=>
 ⟨tag,hv,hs.nt,hs.df,hs.sl,hs.bx,fun t x ht=>by
  rw[lkp_putL] at ht
  split at ht
  ·rename_i e'
   cases ht
   rw[←e']
   exact VR.wk (hs.rt r _ h) hc
  ·exact hs.rt t x ht,hs.fr,hs.hi⟩
def modeP:Md:=match mPartS [] with
 | [(m,_)]=>m
 |_=> .x
def dCols (i:Nat):Nat→List Md:=fun k=>if k<i then [.s,.s,.x] else [.s,.s,modeP]
theorem dCols_wk (i k j:Nat):md (dCols (i+1)) k j=md (dCols i) k j∨md (dCols (i+1)) k j= .x:=by
 by_cases h:k=i
 ·subst h
  rcases j with _|_|_|j<;>simp[md,dCols]
 ·left
  simp only[md,dCols]
  congr 1
  by_cases h1:k<i
  ·rw[if_pos h1,if_pos (by omega)]
  ·rw[if_neg h1,if_neg (by omega)]
theorem dCols_cut (i:Nat) (f:Nat→List Md) (hf:f=fun k=>if k=i then [.s,.s,.x] else dCols i k):f=dCols (i+1):=by
 subst hf
 funext k
 by_cases h:k=i
 ·subst h;simp[dCols]
 ·by_cases h1:k<i
  ·simp[dCols,h,h1,show k<i+1 by omega]
  ·simp[dCols,h,h1,show¬k<i+1 by omega]
def mBatD (X:List GBatch) (i:Nat):ML:=(mBatchS X).map fun y=>((match y.1 with
 | .o e _=> .o e (dCols i)
 |m=>m),y.2)
def keptB (ok:Bool) (fr:Int) (X:List GBatch) (i:Nat):List GBatch:=(X.take i).filter fun b=>ok&&decide (fr<b.fLsn)
theorem keptB_succ (ok:Bool) (fr:Int) {X:List GBatch} {i:Nat} (h:i<X.length):keptB ok fr X (i+1)=if ok=true∧fr< (X[i]?.getD dBatch).fLsn then keptB ok fr X i++ [X[i]?.getD dBatch] else keptB ok fr X i:=by
 unfold keptB
 rw[take_row dBatch h,List.filter_append]
 by_cases k:ok=true∧fr< (X[i]?.getD dBatch).fLsn
 ·rw[if_pos k];simp[k.1,k.2]
 ·rw[if_neg k]
  have:(ok&&decide (fr< (X[i]?.getD dBatch).fLsn))=false:=by simpa using k
  simp[this]
end Go.Proofs.YteeolohhmfjafaaGreat
namespace Go.Proofs.YteeolohhmfjafaaGreat
open Go Go.Proofs Go.Sm
attribute [local simp] ti eStr eInt eByte eVal vVal eValS vValS eRow cRow vRow eCol vCol vColS vStrS eDdl cDdl vDdl eStmt cStmt vStmt ePart vPart vPartS eBatch vBatch eTable cTable vTable vTableS cCat vCat vRowS eRows vRows vRowsS cDb vDb eRec vRec vRecS eTail cTail vTail vBatchS vStmtS
set_option linter.unusedVariables false
set_option linter.unusedSimpArgs false
set_option maxRecDepth 8000
theorem VX.vc {P:Program} {f:FuncId} {xs:List SV} {rs:List (Bool×ML)} (h:VX P f xs [] rs):VC P f xs rs:=
 ⟨h.1,fun w tag hv vs h1 h2 h3=>h.2 w tag hv vs (fun b=>(h1 b).elim .inl fun x=> .inr (.inl x)) h2 h3 (fun i x hx=>by simp at hx)⟩
end Go.Proofs.YteeolohhmfjafaaGreat
namespace Go.Proofs.YteeolohhmfjafaaGreat
open Go Go.Proofs Go.Sm
attribute [local simp] ti eStr eInt eByte eVal vVal eValS vValS eRow cRow vRow eCol vCol vColS vStrS eDdl cDdl vDdl eStmt cStmt vStmt ePart vPart vPartS eBatch vBatch eTable cTable vTable vTableS cCat vCat vRowS eRows vRows vRowsS cDb vDb eRec vRec vRecS eTail cTail vTail vBatchS vStmtS
set_option linter.unusedVariables false
set_option linter.unusedSimpArgs false
set_option maxRecDepth 8000
end Go.Proofs.YteeolohhmfjafaaGreat
namespace Go.Proofs.YteeolohhmfjafaaGreat
open Go Go.Proofs Go.Sm
attribute [local simp] ti eStr eInt eByte eVal vVal eValS vValS eRow cRow vRow eCol vCol vColS vStrS eDdl cDdl vDdl eStmt cStmt vStmt ePart vPart vPartS eBatch vBatch eTable cTable vTable vTableS cCat vCat vRowS eRows vRows vRowsS cDb vDb eRec vRec vRecS eTail cTail vTail vBatchS vStmtS
set_option linter.unusedVariables false
set_option linter.unusedSimpArgs false
set_option maxRecDepth 8000
end Go.Proofs.YteeolohhmfjafaaGreat
namespace Go.Proofs.YteeolohhmfjafaaGreat
open Go Go.Proofs Go.Sm
attribute [local simp] ti eStr eInt eByte eVal vVal eValS vValS eRow cRow vRow eCol vCol vColS vStrS eDdl cDdl vDdl eStmt cStmt vStmt ePart vPart vPartS eBatch vBatch eTable cTable vTable vTableS cCat vCat vRowS eRows vRows vRowsS cDb vDb eRec vRec vRecS eTail cTail vTail vBatchS vStmtS
set_option linter.unusedVariables false
set_option linter.unusedSimpArgs false
set_option maxRecDepth 8000
theorem stmtsOf_w (l:List GRec) (x:Int):((stmtsOf l x).flatMap wStmt).sum≤(l.flatMap wRec).sum:=by
 unfold stmtsOf
 induction l with
 |nil=>simp
 |cons r l ih=>
  have hw:(wStmt r.fStmt).sum≤(wRec r).sum:=by simp[wRec]
  by_cases k:recTx x r=true
  ·simp only[List.filter_cons,k,if_true,List.map_cons,List.flatMap_cons,List.sum_append]
   omega
  ·simp only[List.filter_cons,k,List.flatMap_cons,List.sum_append]
   have:(false:Bool)=true↔False:=by simp
   simp only[if_false,Bool.false_eq_true] at ih⊢
   omega
theorem flat_take (l:List GRec) (n:Nat):((l.take n).flatMap wRec).sum≤(l.flatMap wRec).sum:=by
 have:l.flatMap wRec=(l.take n).flatMap wRec++(l.drop n).flatMap wRec:=by rw[←List.flatMap_append,List.take_append_drop]
 rw[this,List.sum_append]
 omega
theorem parts_w (d:GDb) (l:List GStmt):(wPartS (partsOf d l).1).sum≤(l.flatMap wStmt).sum+l.length*801:=by
 unfold partsOf
 split
 ·simp[wPartS]
 rename_i hd
 have hd:dbOk d=true:=by simpa using hd
 cases h:partsL d l with
 |none=>simp[wPartS]
 |some x=>
  have h1:=(partsL_w hd h).1
  have h2:=partsL_len h
  simp only[wPartS,Option.getD_some,List.sum_cons]
  omega
end Go.Proofs.YteeolohhmfjafaaGreat
