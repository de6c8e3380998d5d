import Derived.Test.YtcgalnoekjnjoaaGreatG6
import Derived.Test.YtcgalnoekjnjoaaGreatG5
import Derived.Test.YtcgalnoekjnjoaaGreatG4
import Derived.Shelf.Spec.SlicesInsertGrow
import Derived.Shelf.RegionOpenPlain
import Derived.Lib.Overlaps
import Derived.WalkKit
import Derived.Deep.LoopGhost
import Derived.Deep.RegionLaw
import Derived.Lib.Walk
import Derived.Sort.WalkB12
import Derived.Lib.SliceRun
set_option maxHeartbeats 8000000
set_option maxRecDepth 8000
namespace Go.Proofs.YtcgalnoekjnjoaaGreat
open Go Go.Proofs Go.Sm
attribute [local simp] ti eStr eInt eByte eVal cVal vVal eValS vValS eRow cRow vRow eCol vCol vColS eStrS vStrS cDdl vDdl vStmt ePart vPart eTable cTable vTable vTableS cCat vCat vRowS eRows vRows vRowsS eDb cDb vDb eSnap vSnap
set_option linter.unusedVariables false
set_option linter.unusedSimpArgs false
set_option maxRecDepth 8000
theorem em_size {s:ByteArray} (h:em s=true):s.size=0:=by
 unfold em at h
 rw[List.isEmpty_iff,Lib.toList_data] at h
 have:=congrArg List.length h
 simpa using this
theorem wordOk_size {s:ByteArray} (h:wordOk s=true):s.size≤8:=by
 simp only[wordOk,within,Bool.and_eq_true,decide_eq_true_eq] at h
 omega
theorem valOk_ok {v:GVal} (h:valOk v=true):okVal v∧v.fS.size≤30:=by
 simp only[valOk,within,Bool.and_eq_true,Bool.or_eq_true,decide_eq_true_eq] at h
 have hs:v.fS.size≤30:=by
  rcases h with ((⟨_,_,h⟩|⟨_,_,h⟩)|⟨_,_,h⟩)|⟨_,_,h⟩
  ·have:=em_size h;omega
  ·have:=em_size h;omega
  ·have:=em_size h;omega
  ·omega
 refine ⟨⟨?_, ?_, ?_,trivial⟩,hs⟩
 ·unfold okI;omega
 ·unfold okI;omega
 ·unfold okM;omega
theorem nullV_ok {v:GVal} (h:nullV v=true):valOk v=true:=by
 simp only[nullV,Bool.and_eq_true,decide_eq_true_eq] at h
 simp[valOk,h.1,h.2.1,h.2.2]
theorem colOk_ok {c:GCol} (h:colOk c=true):okCol c:=by
 simp only[colOk,within,Bool.and_eq_true,decide_eq_true_eq] at h
 obtain ⟨⟨h1,h2⟩,h3⟩:=h
 have hw:=wordOk_size h1
 have hv:valOk c.fDef=true:=by
  split at h3
  ·simp only[Bool.and_eq_true] at h3
   exact h3.1
  ·exact nullV_ok h3
 exact ⟨by unfold okM;omega,by unfold okI;omega,(valOk_ok hv).1,trivial⟩
theorem tableOk_ok {t:GTable} (h:tableOk t=true):okTable t∧bdTable t:=by
 have h0:=(tableOk_iff t).1 h
 obtain ⟨h1,h2,h3,h4,h5,h6,h7,h8⟩:=h0
 have hkl:=h7.length_le
 simp only[cnm,List.length_map] at hkl
 have hw:=wordOk_size h1
 refine ⟨⟨by unfold okM;omega,⟨by unfold okM;omega,fun c hc=>colOk_ok (h5 c hc)⟩,⟨by unfold okM;omega,fun k hk=> ?_⟩,trivial⟩,by omega,by omega⟩
 obtain ⟨c,hc,rfl⟩:=List.mem_map.1 (h7.subset hk)
 exact (colOk_ok (h5 c hc)).1
theorem rowFit_ok {t:GTable} {r:GRow} (ht:tableOk t=true) (h:rowFit t r=true):okRow r∧r.fVals.length≤8:=by
 have h1:=((rowFit_iff t r).1 h).1
 have h2:=((tableOk_iff t).1 ht).2.2.1
 exact ⟨⟨⟨by unfold okM;omega,fun v hv=>(valOk_ok (rowFit_vals h v hv)).1⟩,trivial⟩,by omega⟩
theorem rowsOk_ok {t:GTable} {l:List GRow} (h:rowsOk t l=true):okRowS l∧l.length≤60∧ ∀r∈l,r.fVals.length≤8:=by
 rw[rowsOk_iff] at h
 obtain ⟨h1,h2,h3,_⟩:=h
 exact ⟨⟨by unfold okM;omega,fun r hr=>(rowFit_ok h1 (h3 r hr)).1⟩,h2,fun r hr=>(rowFit_ok h1 (h3 r hr)).2⟩
theorem catOk_ok {c:GCat} (h:catOk c=true):okCat c∧c.fTables.length≤6∧ ∀t∈c.fTables,tableOk t=true∧bdTable t:=by
 rw[catOk_iff] at h
 exact ⟨⟨⟨by unfold okM;omega,fun t ht=>(tableOk_ok (h.1 t ht)).1⟩,trivial⟩,h.2.1,fun t ht=>⟨h.1 t ht,(tableOk_ok (h.1 t ht)).2⟩⟩
theorem dbOk_rows {d:GDb} (h:dbOk d=true): ∀r∈d.fData,∃t∈d.fCat.fTables,rowsOk t r.fRows=true:=by
 rw[dbOk_iff] at h
 intro r hr
 obtain ⟨i,hi,rfl⟩:=List.getElem_of_mem hr
 have:=h.2.2 i (by omega)
 rw[List.getElem?_eq_getElem hi] at this
 exact ⟨_,getD_mem dTable (by omega),this⟩
theorem dbOk_cat {d:GDb} (h:dbOk d=true):catOk d.fCat=true:=((dbOk_iff d).1 h).1
theorem dbOk_len {d:GDb} (h:dbOk d=true):d.fData.length=d.fCat.fTables.length:=((dbOk_iff d).1 h).2.1
theorem dbOk_ok {d:GDb} (h:dbOk d=true):okDb d:=by
 have h1:=(catOk_ok (dbOk_cat h))
 have h2:=dbOk_len h
 refine ⟨h1.1,⟨by unfold okM;omega,fun r hr=> ?_⟩,trivial⟩
 obtain ⟨t,_,h3⟩:=dbOk_rows h r hr
 exact ⟨(rowsOk_ok h3).1,trivial⟩
theorem dbOk_tab {d:GDb} (h:dbOk d=true): ∀t∈d.fCat.fTables,tableOk t=true:=fun t ht=>((catOk_ok (dbOk_cat h)).2.2 t ht).1
theorem ddlOk_ok {d:GDdl} (h:ddlOk d=true):okDdl d∧d.fCols.length≤8∧d.fKeys.length≤8:=by
 have hw:=wordOk_size (ddlOk_wd h)
 have hk:=ddlOk_kind h
 have h0:=h
 simp only[ddlOk,addOk,plain,Bool.and_eq_true,Bool.or_eq_true,decide_eq_true_eq,List.isEmpty_iff] at h0
 have hnm:d.fName.size≤8:=by
  rcases h0.2 with (((⟨_,_,a,_⟩|⟨_,_,a,_⟩)|⟨_,_,_,a,_⟩)|⟨_,_,a,_⟩)|⟨_,_,a,_⟩
  ·have:=em_size a;omega
  ·have:=em_size a;omega
  ·have:=em_size a;omega
  ·exact wordOk_size a
  ·exact wordOk_size a
 have hto:d.fTo.size≤8:=by
  rcases h0.2 with (((⟨_,_,_,a⟩|⟨_,_,_,a⟩)|⟨_,_,_,_,a⟩)|⟨_,_,_,a⟩)|⟨_,_,_,a⟩
  ·have:=em_size a;omega
  ·have:=em_size a;omega
  ·have:=em_size a;omega
  ·have:=em_size a;omega
  ·exact wordOk_size a
 have hck:okColS d.fCols∧okStrS d.fKeys∧d.fCols.length≤8∧d.fKeys.length≤8:=by
  by_cases k1:d.fKind=1
  ·have h1:=ddlOk_1 h k1
   have h2:=(tableOk_ok h1).1
   have h3:=(tableOk_iff _).1 h1
   have h4:=h3.2.2.2.2.2.2.1.length_le
   simp only[cnm,List.length_map] at h4
   exact ⟨h2.2.1,h2.2.2.1,h3.2.2.1,Nat.le_trans h4 h3.2.2.1⟩
  ·by_cases k3:d.fKind=3
   ·obtain ⟨h1,h2,_⟩:=ddlOk_3 h k3
    have h3:d.fKeys= []:=by grind
    rw[h3]
    refine ⟨⟨by unfold okM;omega,fun c hc=> ?_⟩,⟨by simp[okM],by simp⟩,by omega,by simp⟩
    obtain ⟨i,hi,rfl⟩:=List.getElem_of_mem hc
    have:i=0:=by omega
    subst this
    have:=colOk_ok h2
    unfold col0 at this
    rwa [List.getElem?_eq_getElem hi] at this
   ·have h3:d.fCols= []∧d.fKeys= []:=by grind
    rw[h3.1,h3.2]
    exact ⟨⟨by simp[okM],by simp⟩,⟨by simp[okM],by simp⟩,by simp,by simp⟩
 exact ⟨⟨by unfold okI;omega,by unfold okM;omega,hck.1,hck.2.1,by unfold okM;omega,by unfold okM;omega,trivial⟩,hck.2.2.1,hck.2.2.2⟩
theorem noDdl_ok {d:GDdl} (h:noDdl d=true):okDdl d∧d.fCols.length≤8∧d.fKeys.length≤8:=by
 simp only[noDdl,Bool.and_eq_true,decide_eq_true_eq,List.isEmpty_iff] at h
 obtain ⟨h1,h2,h3,h4,h5,h6⟩:=h
 rw[h3,h4]
 exact ⟨⟨by unfold okI;omega,by have:=em_size h2;unfold okM;omega,⟨by simp[h3,okM],by simp[h3]⟩,⟨by simp[h4,okM],by simp[h4]⟩,by have:=em_size h5;unfold okM;omega,by have:=em_size h6;unfold okM;omega,trivial⟩,by simp,by simp⟩
theorem valsOk_ok {l:List GVal} (h:valsOk l=true):okValS l∧l.length≤8:=by
 simp only[valsOk,within,Bool.and_eq_true,decide_eq_true_eq,Bool.not_eq_true',List.any_eq_false] at h
 refine ⟨⟨by unfold okM;omega,fun v hv=>(valOk_ok (by simpa using h.2 v hv)).1⟩,by omega⟩
theorem nilVals_ok {l:List GVal} (h:l= []):okValS l∧l.length≤8:=by
 subst h
 exact ⟨⟨by simp[okM],by simp⟩,by simp⟩
theorem stmtOk_ok {s:GStmt} (h:stmtOk s=true):okStmt s∧s.fTable.size≤8∧s.fKey.length≤8∧s.fRow.fVals.length≤8∧s.fDdl.fCols.length≤8∧s.fDdl.fKeys.length≤8:=by
 simp only[stmtOk,Bool.and_eq_true,Bool.or_eq_true,decide_eq_true_eq,List.isEmpty_iff] at h
 obtain ⟨h0,h⟩:=h
 have hw:=wordOk_size h0
 have hk:okI s.fKind:=by unfold okI;omega
 have fin:(okValS s.fKey∧s.fKey.length≤8)→(okValS s.fRow.fVals∧s.fRow.fVals.length≤8)→(okDdl s.fDdl∧s.fDdl.fCols.length≤8∧s.fDdl.fKeys.length≤8)→okStmt s∧s.fTable.size≤8∧s.fKey.length≤8∧s.fRow.fVals.length≤8∧s.fDdl.fCols.length≤8∧s.fDdl.fKeys.length≤8:=fun a b c=>
  ⟨⟨hk,by unfold okM;omega,a.1,⟨b.1,trivial⟩,c.1,trivial⟩,hw,a.2,b.2,c.2.1,c.2.2⟩
 rcases h with (((⟨k,⟨a,b⟩,c⟩|⟨k,⟨a,b⟩,c⟩)|⟨k,⟨a,b⟩,c⟩)|⟨k,⟨a,b⟩,c⟩)|⟨k,⟨⟨a,b⟩,c⟩,e⟩
 ·exact fin (nilVals_ok a) (valsOk_ok b) (noDdl_ok c)
 ·exact fin (valsOk_ok a) (valsOk_ok b) (noDdl_ok c)
 ·exact fin (valsOk_ok a) (nilVals_ok b) (noDdl_ok c)
 ·exact fin (nilVals_ok a) (nilVals_ok b) (noDdl_ok c)
 ·exact fin (nilVals_ok a) (nilVals_ok b) (ddlOk_ok c)
end Go.Proofs.YtcgalnoekjnjoaaGreat
namespace Go.Proofs.YtcgalnoekjnjoaaGreat
open Go Go.Proofs Go.Sm
attribute [local simp] ti eStr eInt eByte eVal cVal vVal eValS vValS eRow cRow vRow eCol vCol vColS eStrS vStrS cDdl vDdl vStmt ePart vPart eTable cTable vTable vTableS cCat vCat vRowS eRows vRows vRowsS eDb cDb vDb eSnap vSnap
set_option linter.unusedVariables false
set_option linter.unusedSimpArgs false
set_option maxRecDepth 8000
@[simp 10000] theorem OwML_c (m:Md) (l:Lf) (r:ML):OwML ((m,l)::r)=(Ow m l∧OwML r):=by simp[OwML]
@[simp 10000] theorem OwML_n:OwML []=True:=by simp[OwML]
@[simp 10000] theorem OwRs_c (q:Bool×ML) (r:List (Bool×ML)):OwRs (q::r)=(OwML q.2∧OwRs r):=by simp[OwRs]
@[simp 10000] theorem OwRs_n:OwRs []=True:=by simp[OwRs]
theorem memS {l:List Nat} {n:Nat} (h:n∈l):n≤l.sum:=by
 induction l with
 |nil=>cases h
 |cons x r ih=>
  rcases List.mem_cons.1 h with rfl|h
  ·simp
  ·have:=ih h;simp;omega
theorem sumF {α:Type} {w:α→List Nat} {l:List α} {B k:Nat} (hk:l.length≤k) (h: ∀v∈l,(w v).sum≤B):(l.flatMap w).sum≤k*B:=by
 refine Nat.le_trans ?_ (Nat.mul_le_mul_right B hk)
 clear hk
 induction l with
 |nil=>simp
 |cons x r ih=>
  simp only[List.flatMap_cons,List.sum_append,List.length_cons,Nat.add_mul]
  have h1:=h x (by simp)
  have h2:=ih fun v hv=>h v (by simp[hv])
  omega
theorem val_w {v:GVal} (h:valOk v=true):(wVal v).sum≤30:=by
 simp only[wVal,List.sum_cons,List.sum_nil]
 simp only[valOk,Bool.or_eq_true,Bool.and_eq_true,decide_eq_true_eq] at h
 rcases h with ((⟨_,_,h⟩|⟨_,_,h⟩)|⟨_,_,h⟩)|⟨_,_,h⟩
 ·rw[em_size h];omega
 ·rw[em_size h];omega
 ·rw[em_size h];omega
 ·omega
theorem null_w {v:GVal} (h:nullV v=true):(wVal v).sum≤30:=by
 simp only[wVal,List.sum_cons,List.sum_nil]
 simp only[nullV,Bool.and_eq_true,decide_eq_true_eq] at h
 rw[em_size h.2.2];omega
theorem word_w {s:ByteArray} (h:wordOk s=true):s.size≤8:=by
 simp only[wordOk,within,Bool.and_eq_true,decide_eq_true_eq] at h
 omega
theorem col_w {c:GCol} (h:colOk c=true):(wCol c).sum≤38:=by
 simp only[colOk,Bool.and_eq_true] at h
 have h1:=word_w h.1.1
 have h2:(wVal c.fDef).sum≤30:=by
  have:=h.2
  split at this
  ·simp only[Bool.and_eq_true] at this
   exact val_w this.1
  ·exact null_w this
 simp only[wCol,List.sum_cons,List.sum_append,List.sum_nil]
 omega
theorem table_w {t:GTable} (h:tableOk t=true):(wTable t).sum≤400:=by
 obtain ⟨h1,h2,h3,h4,h5,h6,h7,h8⟩:=(tableOk_iff t).1 h
 have hkl:=h7.length_le
 simp only[cnm,List.length_map] at hkl
 have a1:=sumF (w:=wCol) h3 fun c hc=>col_w (h5 c hc)
 have a2:=sumF (w:=wStr) (k:=8) (B:=8) (l:=t.fKeys) (by omega) fun s hs=>by
  obtain ⟨c,hc,rfl⟩:=List.mem_map.1 (h7.mem hs)
  have:=h5 c hc
  simp only[colOk,Bool.and_eq_true] at this
  simpa [wStr] using word_w this.1.1
 have:=word_w h1
 simp only[wTable,wColS,wStrS,List.sum_cons,List.sum_append,List.sum_nil]
 omega
theorem row_w {t:GTable} (ht:tableOk t=true) {r:GRow} (h:rowFit t r=true):(wRow r).sum≤248:=by
 have hl:=(rowFit_ok ht h).2
 simp only[rowFit,rowTo,Bool.and_eq_true,List.all_eq_true,List.mem_range] at h
 have a:=sumF (w:=wVal) hl fun v hv=>by
  obtain ⟨i,hi,rfl⟩:=List.getElem_of_mem hv
  have:=h.2 i hi
  simp only[rowAt,stands,Bool.and_eq_true,List.getElem?_eq_getElem hi,Option.getD_some] at this
  exact val_w this.1
 simp only[wRow,wValS,List.sum_cons,List.sum_append,List.sum_nil]
 omega
theorem rows_w {t:GTable} {x:GRows} (h:rowsOk t x.fRows=true):(wRows x).sum≤15000:=by
 obtain ⟨h1,h2,h3,_⟩:=(rowsOk_iff _ _).1 h
 have a:=sumF (w:=wRow) h2 fun r hr=>row_w h1 (h3 r hr)
 simp only[wRows,wRowS,List.sum_cons,List.sum_append,List.sum_nil]
 omega
theorem db_w {d:GDb} (h:dbOk d=true):(wDb d).sum≤100000:=by
 have h1:=catOk_ok (dbOk_cat h)
 have h2:=dbOk_len h
 have a1:=sumF (w:=wTable) h1.2.1 fun t ht=>table_w (h1.2.2 t ht).1
 have a2:=sumF (w:=wRows) (k:=6) (B:=15000) (l:=d.fData) (by omega) fun x hx=>by
  obtain ⟨t,_,ht⟩:=dbOk_rows h x hx
  exact rows_w ht
 simp only[wDb,wCat,wTableS,wRowsS,List.sum_cons,List.sum_append,List.sum_nil]
 omega
theorem of_sum {l:List Nat} (h:l.sum≤1048576):(∀n∈l,n≤1048576)∧l.sum≤1099511627776:=⟨fun n hn=>by have:=memS hn;omega,by omega⟩
theorem db_r0 {d:GDb} (h:dbOk d=true):(∀n∈wDb d,n≤1048576)∧(wDb d).sum≤1099511627776:=of_sum (by have:=db_w h;omega)
end Go.Proofs.YtcgalnoekjnjoaaGreat
namespace Go.Proofs.YtcgalnoekjnjoaaGreat
open Go Go.Proofs Go.Sm Go.RowKit Go.Lib
set_option linter.unusedVariables false
set_option linter.unusedSimpArgs false
set_option maxRecDepth 100000 in
theorem insA_Row (b n c vb vc:Nat) (vs:List Value) (w:World) (hroom:n+1≤c) (hc63:c≤9223372036854775807)
  (hvl:vs.length=1) (hsp: ∀j,j<1→(w.cell? ⟨b,n+j,none⟩).isSome=true) (hfz: ∀j,j<1→w.frozen? ⟨b,n+j,none⟩=false)
  (hvs: ∀j v,vs[j]? =some v→w.cell? ⟨vb,j,none⟩=some v) (h1v: ∀v∈vs,v.oneCell'=true):
  Calls Tryz.prog 344 #[.slice (some ⟨b,0,none⟩) n c,.int .i64 n,.slice (some ⟨vb,0,none⟩) 1 vc] w fun e w'=>
   e= .returned (.slice (some ⟨b,0,none⟩) (n+1) c)∧w'=w.setCells b (n) vs:=by
 have tS:Tryz.prog.underlying 169=some (.slice 75):=by kernel_rfl
 have t3:Tryz.prog.underlying 3=some (.int .i64):=by kernel_rfl
 have t4:Tryz.prog.underlying 4=some .bool:=by kernel_rfl
 have uS:=run_underlying tS;have u3:=run_underlying t3;have u4:=run_underlying t4
 have hsrc:Src Tryz.prog 1 169 (.slice (some ⟨vb,0,none⟩) 1 vc) 1 vs w:=Src.ofSlice w tS ⟨vb,0,none⟩ 1 vc vs (by omega) (fun j u hj=>by rw[Addr.add_lit,Nat.zero_add];exact hvs j u hj) h1v
 obtain ⟨i0,hi0,hz0,hzs,hzb⟩:=info_parts (show (Tryz.prog.info? 75).map (fun i=>(i.zero,i.size,i.bytes))=some (some (.agg #[.slice none 0 0]:Value),1,24) by kernel_rfl)
 have zE: ∀w,(Go.sizeOf 75).run Tryz.prog w= .ok 1 w:=fun w=>by simp[Go.sizeOf,typeInfo,hi0,hzs]
 have hrun: ∀ty,(Builtin.append_ #[169,169] ty #[.slice (some ⟨b,0,none⟩) n c,.slice (some ⟨vb,0,none⟩) 1 vc]).run Tryz.prog w=_:=fun ty=>
  run_append_room_src w 169 169 ty 75 i0 tS hi0 b 0 n c _ 1 vs (by rw[hzs];exact hsrc) hroom (by simp only[hvl,hzs,Nat.zero_add,Nat.mul_one];exact hsp) (by simp only[hvl,hzs,Nat.zero_add,Nat.mul_one];exact hfz)
 rw[hzs,Nat.zero_add] at hrun
 try rw[Nat.mul_one] at hrun
 go_enter Tryz.func344,Tryz.ntmps344
 go_wp2_with (at_builtin;refine Lib.wpList_append_run _ rfl _ _ _ _ rfl _ _ rfl rfl _ _ (hrun _) ?_)
 go_ret
 exact ⟨rfl,rfl⟩
set_option maxRecDepth 100000 in
theorem insB_Row (base:Option Addr) (n c vb vc:Nat) (cs vs:List Value) (w:World) (hnc:n≤c) (hroom:c<n+1) (hbig:(n+1)*24≤140737488355328)
  (hcl:cs.length=n) (hvl:vs.length=1) (hnil:base=none→n=0)
  (hcs: ∀a,base=some a→ ∀j v,cs[j]? =some v→w.cell? (a.add j)=some v)
  (hvs: ∀j v,vs[j]? =some v→w.cell? ⟨vb,j,none⟩=some v) (h1v: ∀v∈vs,v.oneCell'=true):
  Calls Tryz.prog 344 #[.slice base n c,.int .i64 n,.slice (some ⟨vb,0,none⟩) 1 vc] w fun e w'=>
   e= .returned (.slice (some ⟨w.heap.size,0,none⟩) (n+1) (grownCap w (n+1) c 75))∧
   w'=w.drew.alloc (.cells ((cs++vs).toArray++Builtin.zeroCells (.agg #[.slice none 0 0]:Value).cells (grownCap w (n+1) c 75- (n+1))) 75):=by
 have tS:Tryz.prog.underlying 169=some (.slice 75):=by kernel_rfl
 have t3:Tryz.prog.underlying 3=some (.int .i64):=by kernel_rfl
 have t4:Tryz.prog.underlying 4=some .bool:=by kernel_rfl
 have uS:=run_underlying tS;have u3:=run_underlying t3;have u4:=run_underlying t4
 obtain ⟨i0,hi0,hz0,hzs,hzb⟩:=info_parts (show (Tryz.prog.info? 75).map (fun i=>(i.zero,i.size,i.bytes))=some (some (.agg #[.slice none 0 0]:Value),1,24) by kernel_rfl)
 have zE: ∀w,(Go.sizeOf 75).run Tryz.prog w= .ok 1 w:=fun w=>by simp[Go.sizeOf,typeInfo,hi0,hzs]
 have hsrc:Src Tryz.prog i0.size 169 (.slice (some ⟨vb,0,none⟩) 1 vc) 1 vs w:=by
  rw[hzs]
  exact Src.ofSlice w tS ⟨vb,0,none⟩ 1 vc vs (by omega) (fun j u hj=>by rw[Addr.add_lit,Nat.zero_add];exact hvs j u hj) h1v
 have hold:(Builtin.firstCells i0.size n (.slice base n c)).run Tryz.prog w.drew= .ok cs.toArray w.drew:=by
  rw[hzs]
  cases base with
  |none=>
   have h0:=hnil rfl
   subst h0
   try rw[Nat.zero_mul] at hcl
   rw[List.length_eq_zero_iff.1 hcl]
   exact run_firstCells_none w.drew 1 0 0 c
  |some a=>exact run_firstCells_some w.drew 1 n a n c cs (by omega) (fun j v hj=>hcs a rfl j v hj)
 have hrun: ∀ty,(Builtin.append_ #[169,169] ty #[.slice base n c,.slice (some ⟨vb,0,none⟩) 1 vc]).run Tryz.prog w=_:=fun ty=>
  run_append_grow_src w 169 169 ty 75 i0 _ tS hi0 hz0 base n c cs hold _ 1 vs hsrc hroom (by omega) (by rw[hzb];exact growslice_fits hroom hbig)
 clear hi0 hz0 hzs hzb
 go_enter Tryz.func344,Tryz.ntmps344
 cases base with
 |none=>
  have h0:=hnil rfl
  subst h0
  go_wp2_with (at_builtin;refine Lib.wpList_append_run _ rfl _ _ _ _ rfl _ _ rfl rfl _ _ (hrun _) ?_)
  go_ret
  exact ⟨rfl,rfl⟩
 |some a=>
  obtain ⟨ab,ao,asp⟩:=a
  go_wp2_with (at_builtin;refine Lib.wpList_append_run _ rfl _ _ _ _ rfl _ _ rfl rfl _ _ (hrun _) ?_)
  all_goals (go_ret;exact ⟨rfl,rfl⟩)
set_option maxRecDepth 100000 in
theorem insC_Row (b n c i vb vc:Nat) (cs vs:List Value) (w:World) (hi:i<n) (hroom:n+1≤c) (hc63:c≤9223372036854775807) (hvb:vb≠b)
  (hcl:cs.length=n) (hvl:vs.length=1)
  (hcs: ∀j v,cs[j]? =some v→w.cell? ⟨b,j,none⟩=some v) (hsp: ∀j,j< (n+1)→(w.cell? ⟨b,j,none⟩).isSome=true) (hfz: ∀j,j< (n+1)→w.frozen? ⟨b,j,none⟩=false)
  (hvs: ∀j v,vs[j]? =some v→w.cell? ⟨vb,j,none⟩=some v) (h1c: ∀v∈cs,v.oneCell'=true) (h1v: ∀v∈vs,v.oneCell'=true)
  (tA tB:TypeId) (kA kB:Nat) (hsa:w.shape? vb=some (tA,kA)) (hsb:w.shape? b=some (tB,kB)) (hkB:kB≠0) (hfa:w.frozen? ⟨vb,0,none⟩=false) (hfe:w.frozen? ⟨vb,kA,none⟩=false):
  Calls Tryz.prog 344 #[.slice (some ⟨b,0,none⟩) n c,.int .i64 i,.slice (some ⟨vb,0,none⟩) 1 vc] w fun e w'=>
   e= .returned (.slice (some ⟨b,0,none⟩) (n+1) c)∧w'=(w.drew.setCells b ((i+1)) (cs.drop (i))).setCells b (i) vs:=by
 have tS:Tryz.prog.underlying 169=some (.slice 75):=by kernel_rfl
 have t3:Tryz.prog.underlying 3=some (.int .i64):=by kernel_rfl
 have t4:Tryz.prog.underlying 4=some .bool:=by kernel_rfl
 have uS:=run_underlying tS;have u3:=run_underlying t3;have u4:=run_underlying t4
 obtain ⟨i0,hi0,hz0,hzs,hzb⟩:=info_parts (show (Tryz.prog.info? 75).map (fun i=>(i.zero,i.size,i.bytes))=some (some (.agg #[.slice none 0 0]:Value),1,24) by kernel_rfl)
 have zE: ∀w,(Go.sizeOf 75).run Tryz.prog w= .ok 1 w:=fun w=>by simp[Go.sizeOf,typeInfo,hi0,hzs]
 have hsz:(Tryz.prog.info? 75).map (·.size)=some 1:=by rw[hi0];simp[hzs]
 have hz2: ¬((i:Int)=(n:Int)):=by omega
 have hov: ∀lb cb,(callFunc 370 #[.slice (some ⟨vb,0,none⟩) 1 vc,.slice (some ⟨b,(i+1),none⟩) lb cb]).run Tryz.prog w= .ok (.value (.bool false)) w:=fun lb cb=>by
  rw[run_callFunc_extern Tryz.func370 (by kernel_rfl) (by kernel_rfl) (by kernel_rfl) (e:=Extern.SlicesOverlaps.overlaps #[169,169] #[4]) (by kernel_rfl),
   Lib.run_overlaps_apart w 169 4 75 tS 1 zE ⟨vb,0,none⟩ ⟨b,(i+1),none⟩ 1 vc lb cb hvb tA tB kA kB hsa hsb hkB hfa hfe]
  rfl
 have hdl:(cs.drop (i)).length=(n-i):=by rw[List.length_drop,hcl];try rw[Nat.sub_mul]
 have mixed:=hm
 have hw1:IntKind.i64.wrap ((i:Int)+1)=(i:Int)+1:=by rw[IntKind.wrap_i64];omega
 have hb1:(0:Int)≤(i:Int)+1:=by omega
 have hin:i≤n:=by omega
 have htn:((i:Int)+1).toNat=i+1:=by omega
 have hb2: ¬(c=i+1):=by omega
 have hb3:(i:Int)≤(n:Int)+1:=by omega
 have hb4: ¬(c=i):=by omega
 have hcp1: ∀ty dc sc,(Builtin.copy_ #[169,169] ty #[.slice (some ⟨b,(i+1),none⟩) (n-i) dc,.slice (some ⟨b,i,none⟩) (n+1-i) sc]).run Tryz.prog w.drew= .ok (goInt ((n-i:Nat):Int)) (w.drew.setCells b ((i+1)) (cs.drop (i))):=fun ty dc sc=>
  run_copy_rows w.drew _ _ ty 75 1 b ((i+1)) (n-i) dc ⟨b,i,none⟩ (n+1-i) sc (n-i) (cs.drop (i)) tS hsz (by simp only[Nat.min_def];split<;>omega) (by omega)
   (fun j v hj=>by rw[Addr.add_lit];exact hcs (i+j) v (by rwa [List.getElem?_drop] at hj))
   (fun j hj=>hsp _ (by omega)) (fun j hj=>hfz _ (by omega)) (fun v hv=>h1c v (List.mem_of_mem_drop hv))
 obtain ⟨W1,hW1⟩: ∃W1,W1=w.drew.setCells b ((i+1)) (cs.drop (i)):=⟨_,rfl⟩
 have hsp1: ∀k,k< (n+1)→(W1.cell? ⟨b,k,none⟩).isSome=true:=fun k hk=>by
  rw[hW1]
  exact isSome_setCells b (cs.drop (i)) ((i+1)) w.drew (fun j hj=>hsp _ (by rw[hdl] at hj;omega)) k (hsp k hk)
 have hcp2: ∀ (W:World),(∀x,W.cell? x=W1.cell? x)→(∀x,W.frozen? x=W1.frozen? x)→ ∀ty dc,(Builtin.copy_ #[169,169] ty #[.slice (some ⟨b,i,none⟩) (n+1-i) dc,.slice (some ⟨vb,0,none⟩) 1 vc]).run Tryz.prog W= .ok (goInt 1) (W.setCells b (i) vs):=fun W hWc hWf ty dc=>
  run_copy_rows W _ _ ty 75 1 b (i) (n+1-i) dc ⟨vb,0,none⟩ 1 vc 1 vs tS hsz (by simp only[Nat.min_def];split<;>omega) (by rw[hvl])
   (fun j v hj=>by
    rw[Addr.add_lit,Nat.zero_add,hWc,hW1,World.cell?_setCells_out b _ _ _ _ (fun h _=>absurd h hvb)]
    exact hvs j v hj)
   (fun j hj=>by rw[hWc];exact hsp1 _ (by omega)) (fun j hj=>by rw[hWf,hW1,World.frozen?_setCells];exact hfz _ (by omega)) h1v
 rw[←hW1] at hcp1
 clear hi0 hz0 hzs hzb
 go_enter Tryz.func344,Tryz.ntmps344
 go_wp2_with (simp only[hov])
 go_region_law_o (refine step_copy_runI rfl _ _ 169 169 rfl _ _ (by simp[Act.eval,Act.put]) (by simp[Act.eval,Act.put]) (hcp1 _ _ _) ?_)
 go_wp2_with (at_builtin;refine wpList_copy_runI _ rfl _ _ 169 169 rfl _ _ rfl rfl (hcp2 _ (fun _=>rfl) (fun _=>rfl) _ _) ?_)
 go_ret
 first|exact ⟨rfl,rfl⟩|exact ⟨rfl,by rw[hW1]⟩
set_option maxRecDepth 100000 in
theorem insD_Row (b n c i vb vc:Nat) (cs vs:List Value) (w:World) (hi:i<n) (hnc:n≤c) (hroom:c<n+1) (hbig:(n+1)*24≤140737488355328)
  (hcl:cs.length=n) (hvl:vs.length=1)
  (hcs: ∀j v,cs[j]? =some v→w.cell? ⟨b,j,none⟩=some v)
  (hvs: ∀j v,vs[j]? =some v→w.cell? ⟨vb,j,none⟩=some v) (h1c: ∀v∈cs,v.oneCell'=true) (h1v: ∀v∈vs,v.oneCell'=true):
  Calls Tryz.prog 344 #[.slice (some ⟨b,0,none⟩) n c,.int .i64 i,.slice (some ⟨vb,0,none⟩) 1 vc] w fun e w'=>
   e= .returned (.slice (some ⟨w.heap.size,0,none⟩) (n+1) (grownCap w (n+1) c 75))∧
   w'=(((w.alloc (.cells ((cs.take (i)).toArray++Builtin.zeroCells (.agg #[.slice none 0 0]:Value).cells (n+1-i)++Builtin.zeroCells (.agg #[.slice none 0 0]:Value).cells (grownCap w (n+1) c 75- (n+1))) 75)).drew.setCells w.heap.size (i) vs).drew).setCells w.heap.size ((i+1)) (cs.drop (i)):=by
 have tS:Tryz.prog.underlying 169=some (.slice 75):=by kernel_rfl
 have t3:Tryz.prog.underlying 3=some (.int .i64):=by kernel_rfl
 have t4:Tryz.prog.underlying 4=some .bool:=by kernel_rfl
 have uS:=run_underlying tS;have u3:=run_underlying t3;have u4:=run_underlying t4
 obtain ⟨i0,hi0,hz0,hzs,hzb⟩:=info_parts (show (Tryz.prog.info? 75).map (fun i=>(i.zero,i.size,i.bytes))=some (some (.agg #[.slice none 0 0]:Value),1,24) by kernel_rfl)
 have zE: ∀w,(Go.sizeOf 75).run Tryz.prog w= .ok 1 w:=fun w=>by simp[Go.sizeOf,typeInfo,hi0,hzs]
 have hsz:(Tryz.prog.info? 75).map (·.size)=some 1:=by rw[hi0];simp[hzs]
 have mixed:=hm
 have hz2: ¬((i:Int)=(n:Int)):=by omega
 have hz3:(c:Int)< (n:Int)+1:=by omega
 have hbw:b<w.heap.size:=block_lt_of_cell (hcs 0 _ (List.getElem?_eq_getElem (by omega)))
 have hvw:vb<w.heap.size:=block_lt_of_cell (hvs 0 _ (List.getElem?_eq_getElem (by omega)))
 have hkk:(n:Int)+1- (i:Int)=((n+1-i:Nat):Int):=by omega
 have hik:i+(n+1-i)=n+1:=by omega
 have hold:(Builtin.firstCells i0.size i (.slice (some ⟨b,0,none⟩) i c)).run Tryz.prog w.drew= .ok (cs.take (i)).toArray w.drew:=by
  rw[hzs]
  exact run_firstCells_some w.drew 1 i ⟨b,0,none⟩ i c (cs.take (i)) (by rw[List.length_take];omega) (fun j v hj=>by
   rw[Addr.add_lit,Nat.zero_add]
   rw[List.getElem?_take] at hj
   split at hj
   ·exact hcs j v hj
   ·cases hj)
 have hrz: ∀ty,(Builtin.append_ #[169,3] ty #[.slice (some ⟨b,0,none⟩) i c,.int .i64 ((n:Int)+1- (i:Int))]).run Tryz.prog w=
   .ok (.slice (some ⟨w.heap.size,0,none⟩) (n+1) (grownCap w (n+1) c 75)) (w.drew.alloc (.cells ((cs.take (i)).toArray++Builtin.zeroCells (.agg #[.slice none 0 0]:Value).cells (n+1-i)++Builtin.zeroCells (.agg #[.slice none 0 0]:Value).cells (grownCap w (n+1) c 75- (n+1))) 75)):=fun ty=>by
  have h:=Lib.run_append_grow_zeros w 169 3 ty 75 i0 _ .i64 .i64 tS t3 hi0 hz0 (some ⟨b,0,none⟩) i c (cs.take (i)) hold (n+1-i) (by omega) (by omega) (by omega) (by omega) (by rw[hzb];omega) (by rw[hzb,hik];exact growslice_fits hroom hbig)
  rw[hik] at h
  rw[hkk]
  exact h
 obtain ⟨G,hG⟩: ∃G,G=grownCap w (n+1) c 75:=⟨_,rfl⟩
 obtain ⟨ROW,hROW⟩: ∃ROW:Array Value,ROW=(cs.take (i)).toArray++Builtin.zeroCells (.agg #[.slice none 0 0]:Value).cells (n+1-i)++Builtin.zeroCells (.agg #[.slice none 0 0]:Value).cells (G- (n+1)):=⟨_,rfl⟩
 rw[←hG] at hrz⊢
 rw[←hROW] at hrz⊢
 have hRl:(n+1)≤ROW.size:=by
  rw[hROW]
  simp only[Array.size_append,List.size_toArray,List.length_take,hcl,size_zeroCells,(show (.agg #[.slice none 0 0]:Value).cells.size=1 by kernel_rfl)]
  omega
 obtain ⟨W1,hW1⟩: ∃W1,W1=w.drew.alloc (.cells ROW 75):=⟨_,rfl⟩
 rw[←hW1] at hrz
 have hN: ∀j,j< (n+1)→(W1.cell? ⟨w.heap.size,j,none⟩).isSome=true:=fun j hj=>by
  rw[hW1,World.cell?_alloc_at (w:=w.drew) ROW _ w.heap.size j rfl,Array.getElem?_eq_getElem (by omega)];rfl
 have hNf: ∀j,W1.frozen? ⟨w.heap.size,j,none⟩=false:=fun j=>by rw[hW1];exact World.frozen?_alloc_at (w:=w.drew) ROW _ w.heap.size j rfl
 have hOb: ∀j v,w.cell? ⟨b,j,none⟩=some v→W1.cell? ⟨b,j,none⟩=some v:=fun j v h=>by rw[hW1,World.cell?_alloc_past (w:=w.drew) _ b j hbw];exact h
 have hOv: ∀j v,w.cell? ⟨vb,j,none⟩=some v→W1.cell? ⟨vb,j,none⟩=some v:=fun j v h=>by rw[hW1,World.cell?_alloc_past (w:=w.drew) _ vb j hvw];exact h
 have hcpA: ∀ (W:World),(∀x,W.cell? x=W1.cell? x)→(∀x,W.frozen? x=W1.frozen? x)→ ∀ty dc,(Builtin.copy_ #[169,169] ty #[.slice (some ⟨w.heap.size,i,none⟩) (n+1-i) dc,.slice (some ⟨vb,0,none⟩) 1 vc]).run Tryz.prog W= .ok (goInt 1) (W.setCells w.heap.size (i) vs):=fun W hWc hWf ty dc=>
  run_copy_rows W _ _ ty 75 1 w.heap.size (i) (n+1-i) dc ⟨vb,0,none⟩ 1 vc 1 vs tS hsz (by simp only[Nat.min_def];split<;>omega) (by rw[hvl])
   (fun j v hj=>by rw[Addr.add_lit,Nat.zero_add,hWc];exact hOv _ v (hvs j v hj))
   (fun j hj=>by rw[hWc];exact hN _ (by omega)) (fun j hj=>by rw[hWf];exact hNf _) h1v
 have hGn:n+1≤G:=by rw[hG];exact grownCap_ge w _ _ _
 have hG63:G≤9223372036854775807:=by
  have:=grownCap_le_maxLen w (n+1) c 75 (by unfold maxLen;omega)
  rw[←hG] at this
  unfold maxLen at this
  omega
 have hGi: ¬(G=i):=by omega
 have hGim: ¬(G=i+1):=by omega
 have hci: ¬(c=i):=by omega
 have hbN:b≠w.heap.size:=by omega
 have hdl:(cs.drop (i)).length=(n-i):=by rw[List.length_drop,hcl];try rw[Nat.sub_mul]
 have hcpB: ∀ (W:World),(∀x,W.cell? x=(W1.setCells w.heap.size (i) vs).cell? x)→(∀x,W.frozen? x=(W1.setCells w.heap.size (i) vs).frozen? x)→ ∀ty dc sc,(Builtin.copy_ #[169,169] ty #[.slice (some ⟨w.heap.size,(i+1),none⟩) (n-i) dc,.slice (some ⟨b,i,none⟩) (n-i) sc]).run Tryz.prog W= .ok (goInt ((n-i:Nat):Int)) (W.setCells w.heap.size ((i+1)) (cs.drop (i))):=fun W hWc hWf ty dc sc=>
  run_copy_rows W _ _ ty 75 1 w.heap.size ((i+1)) (n-i) dc ⟨b,i,none⟩ (n-i) sc (n-i) (cs.drop (i)) tS hsz (by simp only[Nat.min_def];split<;>omega) (by omega)
   (fun j v hj=>by
    rw[Addr.add_lit,hWc,World.cell?_setCells_out _ _ _ _ _ (fun h _=>absurd h hbN)]
    exact hOb _ v (hcs (i+j) v (by rwa [List.getElem?_drop] at hj)))
   (fun j hj=>by rw[hWc];exact isSome_setCells w.heap.size vs (i) W1 (fun t ht=>hN _ (by omega)) _ (hN _ (by omega)))
   (fun j hj=>by rw[hWf,World.frozen?_setCells];exact hNf _) (fun v hv=>h1c v (List.mem_of_mem_drop hv))
 subst hW1
 have hE1: ∀x,((w.alloc (.cells ROW 75)).drew).cell? x=(w.drew.alloc (.cells ROW 75)).cell? x:=fun x=>rfl
 have hE2: ∀x,((w.alloc (.cells ROW 75)).drew).frozen? x=(w.drew.alloc (.cells ROW 75)).frozen? x:=fun x=>rfl
 have hF1: ∀x,(((w.alloc (.cells ROW 75)).drew.setCells w.heap.size (i) vs).drew).cell? x=((w.drew.alloc (.cells ROW 75)).setCells w.heap.size (i) vs).cell? x:=fun x=>rfl
 have hF2: ∀x,(((w.alloc (.cells ROW 75)).drew.setCells w.heap.size (i) vs).drew).frozen? x=((w.drew.alloc (.cells ROW 75)).setCells w.heap.size (i) vs).frozen? x:=fun x=>rfl
 have hw1:IntKind.i64.wrap ((i:Int)+1)=(i:Int)+1:=by rw[IntKind.wrap_i64];omega
 have hb1:(0:Int)≤(i:Int)+1:=by omega
 have hin:i≤n:=by omega
 have htn:((i:Int)+1).toNat=i+1:=by omega
 have hb3:(i:Int)≤(n:Int):=by omega
 clear hkk hik hold hROW hG hRl hi0 hz0 hzs hzb
 go_enter Tryz.func344,Tryz.ntmps344
 go_wp2_with (first
  |(at_builtin;refine Lib.wpList_append_run _ rfl _ _ _ _ rfl _ _ rfl rfl _ _ (hrz _) ?_)
  |(at_builtin;refine wpList_copy_runI _ rfl _ _ 169 169 rfl _ _ rfl rfl (hcpA _ hE1 hE2 _ _) ?_)
  |(at_builtin;refine wpList_copy_runI _ rfl _ _ 169 169 rfl _ _ rfl rfl (hcpB _ (fun _=>rfl) (fun _=>rfl) _ _ _) ?_))
 go_region_law_o (refine step_copy_runI rfl _ _ 169 169 rfl (.slice (some ⟨w.heap.size,(i+1),none⟩) (n-i) (G- (i+1))) (.slice (some ⟨b,i,none⟩) (n-i) (c-i)) (by simp[Act.eval,Act.put]) (by simp[Act.eval,Act.put]) (hcpB _ hF1 hF2 3 (G- (i+1)) (c-i)) ?_)
 go_wp2
 go_ret
 exact ⟨rfl,rfl⟩
theorem rawIns_Row:RawIns Tryz.prog 344 75 1 24:=
 rawIns_of (.agg #[.slice none 0 0]:Value) (by decide) (by decide) (by kernel_rfl) (fun b n c vb vc vs w=>by simpa only[Nat.mul_one] using insA_Row b n c vb vc vs w) (fun base n c vb vc cs vs w=>by simpa only[Nat.mul_one] using insB_Row base n c vb vc cs vs w) (fun b n c i vb vc cs vs w=>by simpa only[Nat.mul_one] using insC_Row b n c i vb vc cs vs w) (fun b n c i vb vc cs vs w=>by simpa only[Nat.mul_one] using insD_Row b n c i vb vc cs vs w)
end Go.Proofs.YtcgalnoekjnjoaaGreat
namespace Go.Proofs.YtcgalnoekjnjoaaGreat
open Go Go.Proofs Go.Sm Go.RowKit Go.Lib
set_option linter.unusedVariables false
set_option linter.unusedSimpArgs false
end Go.Proofs.YtcgalnoekjnjoaaGreat
namespace Go.Proofs.YtcgalnoekjnjoaaGreat
open Go Go.Proofs Go.Sm
attribute [local simp] ti eStr eInt eByte eVal cVal vVal eValS vValS eRow cRow vRow eCol vCol vColS eStrS vStrS cDdl vDdl vStmt ePart vPart eTable cTable vTable vTableS cCat vCat vRowS eRows vRows vRowsS eDb cDb vDb eSnap vSnap
set_option linter.unusedVariables false
set_option linter.unusedSimpArgs false
set_option maxRecDepth 8000
theorem equalVal_ok (a b:List GVal) (ha:okM a.length):VC Tryz.prog 321 [vValS a,vValS b] [(false,[(.s,.sc (.bool (eqRows veq dVal a b)))])]:=by
 unfold okM at ha
 refine vc_of_ew good hm [0,1,4,10,12,13,14,5,24] Tryz.func321 rfl (by kernel_rfl) (by kernel_rfl) rfl ?_
 simp[Tryz.f321]
 refine ⟨fun h=>by simp[eqRows,h],fun hl=> ?_⟩
 refine ew_loop (fun E=> ∃i:Nat,i≤a.length∧eqTo veq dVal a b i=true∧E= {nt:=26,sl:= [(0,vValS a),(1,vValS b),(12,int .i64 a.length),(13,int .i64 i)],bx:= [],rt:= []}) (fun E=>a.length- (E.num 13).toNat) _ (Gh.kb _ [0,1,12,13] [] []) ⟨0,by omega,by simp[eqTo],by simp⟩ ?_
 rintro E1 ⟨i,hi,hall,rfl⟩
 simp
 have hat:veq (a[i]?.getD dVal) (b[i]?.getD dVal)=((a[i]?.getD dVal).fTy==(b[i]?.getD dVal).fTy&& ((a[i]?.getD dVal).fN==(b[i]?.getD dVal).fN&& (a[i]?.getD dVal).fS.toList==(b[i]?.getD dVal).fS.toList)):=rfl
 refine ⟨fun h=>⟨h,by omega, ?_⟩,fun h=> ?_⟩
 ·refine ⟨fun hb=> ?_,fun h1 h2 h3=> .of _ (Gh.kb _ [0,1,12,13] [] []) ⟨i+1,by omega,by rw[eqTo_succ,hall,hat];simp[h1,h2,h3], ?_⟩ ?_⟩
  ·have:=eqTo_no (eq:=veq) (d:=dVal) (a:=a) (b:=b) h (by rw[hat];grind)
   simp[eqRows,this]
  ·simp[wrapS (show i<9223372036854775807 by omega)]
  ·simp[wrapS (show i<9223372036854775807 by omega)];omega
 ·have:i=a.length:=by omega
  subst this
  simp[eqRows,hall,hl]
theorem rowAt1_ok (t:GTable) (key:List GVal) (r:GRow) (ht:okTable t) (hk:t.fKeys.length≤1048576) (hin:keysIn t r):VC Tryz.prog 320 [vRow r,.p (.ps (eTable t)),.p (.ps (eValS key))] [(false,[(.s,.sc (.bool (eqRows veq dVal (keyOf t r) key)))])]:=by
 refine vc_of_ew good hm [0,1,2,3,4] Tryz.func320 rfl (by kernel_rfl) (by kernel_rfl) rfl ?_
 simp[Tryz.f320,eValS]
 refine .of (keyI_ok t r ht hk hin) ?_
 simp[mValS]
 refine .of (equalVal_ok (keyOf t r) key (by rw[keyOf_len];unfold okM;omega)) ?_
 simp
theorem rowAt_ok (t:GTable) (l:List GRow) (key:List GVal) (ht:okTable t) (hk:t.fKeys.length≤1048576) (hl:okM l.length) (hin: ∀r∈l,keysIn t r):VC Tryz.prog 245 [vTable t,vRowS l,vValS key] [(false,[(.s,.sc (.int .i64 (keyAt t l key)))])]:=by
 refine vc_of_ew good hm [0,1,2,3,5,6] Tryz.func245 rfl (by kernel_rfl) (by kernel_rfl) rfl ?_
 simp[Tryz.f245]
 refine .of (idxRow2_ok l _ _ _ (fun r=>eqRows veq dVal (keyOf t r) key) hl (fun x hx=>rowAt1_ok t key x ht hk (hin x hx))) ?_
 simp[keyAt]
theorem take_row {α:Type} {l:List α} {i:Nat} (d:α) (h:i<l.length):l.take (i+1)=l.take i++ [l[i]?.getD d]:=by
 rw[List.take_succ_eq_append_getElem h,List.getElem?_eq_getElem h]
 rfl
theorem take_rowM {α β:Type} {f:α→β} {l:List α} {i:Nat} (d:α) (h:i<l.length):(l.map f).take (i+1)=(l.map f).take i++ [f (l[i]?.getD d)]:=by
 rw[←List.map_take,take_row d h,List.map_append,List.map_take]
 rfl
theorem copyRows_ok (l:List GRow) (hl:l.length≤1048576) (hb: ∀r∈l,r.fVals.length≤1048576):VC Tryz.prog 252 [vRowS l] [(false,mRowS l)]:=by
 refine vc_of_ew good hm [0,2,3,6,7,8,9,5] Tryz.func252 rfl (by kernel_rfl) (by kernel_rfl) rfl ?_
 simp[Tryz.f252,mRowS]
 refine ew_loop (fun E=> ∃i:Nat,i≤l.length∧E= {nt:=21,sl:= [(3,.v false [.r [990]]),(6,vRowS l),(7,int .i64 l.length),(8,int .i64 i)],bx:= [],rt:=(mRowS (l.take i)).map fun y=>(990,y)}) (fun E=>l.length- (E.num 8).toNat) _ ((Gh.nlS _ 3 0 990 75 (fun _=> [.o 166 (fun _=> [.s,.s,.s])]) [.ls [.sc (.int .i64 0),.sc (.int .i64 0),.sc (.string ⟨#[]⟩)] []]).trans (Gh.kb _ [3,6,7,8] [] [990])) ⟨0,by omega,by simp[mRowS]⟩ ?_
 rintro E1 ⟨i,hi,rfl⟩
 simp[mRowS]
 refine ⟨fun h=>⟨h,.of (copyVals_ok _ (hb _ (getD_mem dRow h))) ?_⟩,fun h=> ?_⟩
 ·simp[mValS]
  refine ⟨by omega,.of _ ((Gh.kb _ [3,6,7,8] [] [18]).trans (Gh.rn _ 18 990)) ⟨i+1,by omega, ?_⟩ ?_⟩
  ·rw[take_rowM dRow h]
   simp[wrapS (show i<9223372036854775807 by omega),mRowS]
  ·simp[wrapS (show i<9223372036854775807 by omega)];omega
 ·have:i=l.length:=by omega
  subst this
  rw[←List.map_take,List.take_length]
theorem colsI_const (i:Nat) (c:List Md):colsI i (fun _=>c) (fun _=>c)=fun _=>c:=by
 funext k
 simp[colsI]
theorem rowFit_len {t:GTable} {r:GRow} (h:rowFit t r=true):r.fVals.length=t.fCols.length:=((rowFit_iff t r).1 h).1
theorem tableOk_len {t:GTable} (h:tableOk t=true):t.fCols.length≤8∧t.fKeys.length≤8:=by
 rw[tableOk_iff] at h
 have:=h.2.2.2.2.2.2.1.length_le
 simp only[cnm,List.length_map] at this
 omega
theorem rowsOk_inv {t:GTable} {l:List GRow} (h:rowsOk t l=true):tableOk t=true∧l.length≤60∧(∀x∈l,rowFit t x=true)∧(∀x∈l,keysIn t x)∧(∀x∈l,x.fVals.length≤1048576):=by
 have h0:=h
 rw[rowsOk_iff] at h
 exact ⟨h.1,h.2.1,h.2.2.1,fun x hx=>tableOk_keys h.1 (h.2.2.1 x hx),fun x hx=>by have:=(rowsOk_ok h0).2.2 x hx;omega⟩
theorem placed_ok (t:GTable) (l:List GRow) (r:GRow) (ht:okTable t) (hto:tableOk t=true) (hl:l.length≤60) (hf: ∀x∈l,rowFit t x=true) (hr:rowFit t r=true):VC Tryz.prog 294 [vTable t,vRowS l,vRow r] [(false,mRowS (insW (fun x=>rowLt t x r) r l))]:=by
 have htl:=tableOk_len hto
 have hk:t.fKeys.length≤1048576:=by omega
 have hrl:=rowFit_len hr
 refine vc_of_ew good hm [0,1,2,3,5,6,7,23] Tryz.func294 rfl (by kernel_rfl) (by kernel_rfl) rfl ?_
 simp[Tryz.f294,mRowS]
 refine ew_loop (fun E=> ∃i:Nat,i≤(l.takeWhile (fun x=>rowLt t x r)).length∧E= {nt:=35,sl:= [(1,vRowS l),(3,.p (.bx 3 0)),(5,.p (.bx 5 0)),(7,int .i64 i)],bx:= [(3,cTable t),(5,cRow r)],rt:= []}) (fun E=>l.length- (E.num 7).toNat) _ (Gh.kb _ [1,3,5,7] [3,5] []) ⟨0,by omega,by simp⟩ ?_
 rintro E1 ⟨i,hi,rfl⟩
 have htw:=takeW_len (fun x=>rowLt t x r) l
 have hat:=takeW_at (fun x=>rowLt t x r) dRow hi
 simp
 have hd8:t.fKeys.length=(keyOf t r).length:=(keyOf_len t r).symm
 have hb8: ∀x,okM (keyOf t x).length:=fun x=>by rw[keyOf_len];unfold okM;omega
 refine .of (fun g=>⟨g,keyI_ok t _ ht hk (tableOk_keys hto (hf _ (getD_mem dRow g)))⟩) ?_
 simp[mValS]
 refine .of (fun g=>⟨g,keyI_ok t r ht hk (tableOk_keys hto hr)⟩) ?_
 simp[mValS]
 refine .of (fun g=>⟨by grind,keyLessI_ok (keyOf t _) (keyOf t r) (hb8 _) (hb8 _)⟩) ?_
 simp
 refine ⟨fun h1 h2=> .of _ (Gh.kb _ [1,3,5,7] [3,5] []) ⟨i+1,hat.2 ⟨h1,h2⟩, ?_⟩ ?_,fun h2=> ?_⟩
 ·simp[wrapS (show i<9223372036854775807 by omega)]
 ·simp[wrapS (show i<9223372036854775807 by omega)];omega
 ·have hiq:i=(l.takeWhile (fun x=>rowLt t x r)).length:=by
   rcases Nat.lt_or_ge i (l.takeWhile (fun x=>rowLt t x r)).length with hlt|hge
   ·obtain ⟨g1,g2⟩:=hat.1 hlt
    have:=h2 g1
    rw[show keyLess (keyOf t (l[i]?.getD dRow)) (keyOf t r)=true from g2] at this
    cases this
   ·omega
  refine .of (copyRows_ok l (by omega) (fun x hx=>by have:=rowFit_len (hf x hx);omega)) ?_
  simp[mRowS]
  refine .of (copyVals_ok _ (by omega)) ?_
  simp[mValS]
  refine ⟨of_eq_true (full_RowS [r]),.use (vx_ins (i:=i) (rows:=l.map eRow) (row:=eRow r) (z:= [.ls [.sc (.int .i64 0),.sc (.int .i64 0),.sc (.string ⟨#[]⟩)] []]) (cols:=fun _=> [.o 166 (fun _=> [.s,.s,.s])]) (cols':=fun _=> [.o 166 (fun _=> [.s,.s,.s])]) ⟨_,_,Tryz.func344,rfl,by kernel_rfl⟩ rawIns_Row (by decide) (by decide) rfl (by simp;omega) (by simp;omega)) ?_⟩
  simp[colsI_const]
  rw[insW_at,←hiq]
  simp
theorem rowPutI_ok (t:GTable) (l:List GRow) (r:GRow) (ht:okTable t) (hk:t.fKeys.length≤1048576) (hl:okRowS l) (hr:okRow r):VC Tryz.prog 210 [vTable t,vRowS l,vRow r] [(false,mRowS (rowPut t l r).1),(false,[(.s,.sc (.int .i64 (rowPut t l r).2))])]:=by
 refine vc_of_ew good hm [0,1,2,3,5,6,7,8,13,18,26] Tryz.func210 rfl (by kernel_rfl) (by kernel_rfl) rfl ?_
 simp[Tryz.f210,mRowS]
 refine .of (rowsOkI_ok t l ht hl hk) ?_
 simp
 refine ⟨fun h=>by simp[rowPut,h],fun h1=> .of (rowOkI_ok t r ht hr.1.1) ?_⟩
 obtain ⟨h2,h3,h4,h5,h6⟩:=rowsOk_inv h1
 simp
 refine ⟨fun h=>by simp[rowPut,h1,h],fun h7=> .of (keyI_ok t r ht hk (tableOk_keys h2 h7)) ?_⟩
 simp[mValS]
 refine .of (rowAt_ok t l (keyOf t r) ht hk (by unfold okM;omega) h5) ?_
 simp
 have hat:rowPut t l r=if 0≤keyAt t l (keyOf t r) then ([],3) else if l.length=60 then ([],4) else (insW (fun x=>rowLt t x r) r l,0):=by simp[rowPut,h1,h7]
 refine ⟨fun h=>by simp[hat,h],fun h8=>⟨fun h=>by rw[hat,if_neg (by omega),if_pos (by omega)];simp,fun h=> .of (placed_ok t l r ht h2 h3 h4 h7) ?_⟩⟩
 rw[hat,if_neg (by omega),if_neg (by omega)]
 simp[mRowS]
end Go.Proofs.YtcgalnoekjnjoaaGreat
namespace Go.Proofs.YtcgalnoekjnjoaaGreat
open Go Go.Proofs Go.Sm
attribute [local simp] ti eStr eInt eByte eVal cVal vVal eValS vValS eRow cRow vRow eCol vCol vColS eStrS vStrS cDdl vDdl vStmt ePart vPart eTable cTable vTable vTableS cCat vCat vRowS eRows vRows vRowsS eDb cDb vDb eSnap vSnap
set_option linter.unusedVariables false
set_option linter.unusedSimpArgs false
set_option maxRecDepth 8000
def mapSt (t:GTable) (l:List GRow) (cols keys:List ByteArray) (s:GStmt):GStmt×Int:=
 if drift cols keys t≠0 then (dStmt,drift cols keys t) else
 if s.fKind=1 then (if (mapRow cols t s.fRow.fVals []).2≠0 then (dStmt,(mapRow cols t s.fRow.fVals []).2) else (⟨1,s.fTable,[],(mapRow cols t s.fRow.fVals []).1,dDdl⟩,0)) else
 if s.fKind=4 then (⟨4,s.fTable,[],⟨[]⟩,dDdl⟩,0) else
 if (mapKey keys t s.fKey).2≠0 then (dStmt,(mapKey keys t s.fKey).2) else
 if s.fKind=3 then (⟨3,s.fTable,(mapKey keys t s.fKey).1,⟨[]⟩,dDdl⟩,0) else
 if (mapRow cols t s.fRow.fVals []).2≠0 then (dStmt,(mapRow cols t s.fRow.fVals []).2) else
 (⟨2,s.fTable,(mapKey keys t s.fKey).1,(mapRow cols t s.fRow.fVals (if 0≤keyAt t l (mapKey keys t s.fKey).1 then (l[(keyAt t l (mapKey keys t s.fKey).1).toNat]?.getD dRow).fVals else [])).1,dDdl⟩,0)
def mapStP (d:GDb) (p:GPart):GStmt×Int:=
 if p.fStmt.fKind=5 then (p.fStmt,0) else if tabAt d.fCat.fTables p.fStmt.fTable<0 then (dStmt,10) else mapSt (tabOf d.fCat p.fStmt.fTable) (dataOf d (dbIx d p.fStmt.fTable)) p.fCols p.fKeys p.fStmt
def mapStmt (d:GDb) (p:GPart):GStmt×Int:=if dbOk d=false∨stmtOk p.fStmt=false then (dStmt,1) else mapStP d p
theorem drift_0 {cols keys:List ByteArray} {t:GTable} (h:drift cols keys t=0):tableOk t=true∧once cols=true∧unk t cols=false∧ ∀c∈t.fCols,lackAt cols c=false:=by
 unfold drift at h
 split at h
 ·cases h
 rename_i h1
 split at h
 ·cases h
 rename_i h2
 split at h
 ·cases h
 split at h
 ·cases h
 rename_i h3
 simp only[Bool.not_eq_true',Bool.not_eq_false,Bool.and_eq_true,Bool.not_eq_true,List.any_eq_false] at h1 h2 h3
 exact ⟨h1.1.1.1,h1.1.1.2,h2,h3⟩
theorem rowBy_at (cols:List ByteArray) (t:GTable) (vals other:List GVal) {n i:Nat} (h:i<n):(rowBy cols t vals other n)[i]?.getD dVal=byName cols t vals other i:=by
 simp[rowBy,h]
theorem fit_other {cols keys:List ByteArray} {t:GTable} (h:drift cols keys t=0) (vals:List GVal) {other:List GVal} (ho:rowFit t ⟨other⟩=true):rowFit t ⟨rowBy cols t vals other t.fCols.length⟩=rowFit t ⟨rowBy cols t vals [] t.fCols.length⟩:=by
 obtain ⟨h1,h2,h3,h4⟩:=drift_0 h
 have h1':=(tableOk_iff t).1 h1
 obtain ⟨o1,o2⟩:=(rowFit_iff t _).1 ho
 simp only at o1 o2
 rw[Bool.eq_iff_iff,rowFit_iff,rowFit_iff]
 simp only[rowBy_len,true_and]
 refine forall_congr' fun i=>forall_congr' fun hi=> ?_
 rw[rowBy_at _ _ _ _ hi,rowBy_at _ _ _ _ hi]
 unfold byName
 split
 ·exact Iff.rfl
 rename_i hx
 have hm:t.fCols[i]?.getD dCol∈t.fCols:=getD_mem dCol hi
 rw[if_pos (by omega),if_neg (by simp;omega)]
 have hs:=stands_def (h1'.2.2.2.2.1 _ hm) (by
  have hl:=h4 _ hm
  unfold lackAt at hl
  have hh:has cols (t.fCols[i]?.getD dCol).fName=false:=by
   rw[←idxS_has]
   simpa using hx
  rw[hh] at hl
  cases a:(t.fCols[i]?.getD dCol).fHas<;>cases b:(t.fCols[i]?.getD dCol).fNot<;>simp_all)
 rw[hs]
 exact iff_of_true (o2 i hi) rfl
theorem mapRow_other {cols keys:List ByteArray} {t:GTable} (h:drift cols keys t=0) (vals:List GVal) {other:List GVal} (ho:rowFit t ⟨other⟩=true):(mapRow cols t vals other).2=(mapRow cols t vals []).2:=by
 unfold mapRow
 rw[fit_other h vals ho]
 split
 ·rfl
 split
 ·rfl
 split<;>rfl
theorem mapRow_ok {cols:List ByteArray} {t:GTable} {vals other:List GVal} (h:(mapRow cols t vals other).2=0):tableOk t=true∧rowFit t (mapRow cols t vals other).1=true∧(mapRow cols t vals other).1=⟨rowBy cols t vals other t.fCols.length⟩:=by
 unfold mapRow at h⊢
 split at h
 ·cases h
 rename_i h1
 split at h
 ·cases h
 rename_i h2
 split at h
 ·rename_i h3
  rw[if_neg h1,if_neg h2,if_pos h3]
  simp only[Bool.not_eq_true',Bool.not_eq_false,Bool.and_eq_true] at h1
  exact ⟨h1.1.1,h3,rfl⟩
 ·cases h
theorem mapKey_ok {keys:List ByteArray} {t:GTable} {vals:List GVal} (h:(mapKey keys t vals).2=0):keyOk t (mapKey keys t vals).1=true:=by
 unfold mapKey at h⊢
 split at h
 ·cases h
 rename_i h1
 split at h
 ·cases h
 rename_i h2
 split at h
 ·rename_i h3
  rw[if_neg h1,if_neg h2,if_pos h3]
  exact h3
 ·cases h
theorem fit_valsOk {t:GTable} {r:GRow} (ht:tableOk t=true) (h:rowFit t r=true):valsOk r.fVals=true:=by
 have h1:=(tableOk_iff t).1 ht
 have h2:=(rowFit_iff t r).1 h
 have h3:=rowFit_vals h
 simp only[valsOk,within,Bool.and_eq_true,decide_eq_true_eq,Bool.not_eq_true',List.any_eq_false,Bool.not_eq_true]
 exact ⟨by omega,fun v hv=>by simp[h3 v hv]⟩
theorem key_valsOk {t:GTable} {k:List GVal} (h:keyOk t k=true):valsOk k=true:=by
 simp only[keyOk,kvTo,kvAt,Bool.and_eq_true,decide_eq_true_eq,List.all_eq_true,List.mem_range] at h
 have h1:=(tableOk_iff t).1 h.1
 have h2:=h1.2.2.2.2.2.2.1.length_le
 simp only[cnm,List.length_map] at h2
 have h3:=List.length_pos_iff.2 h1.2.2.2.1
 simp only[valsOk,within,Bool.and_eq_true,decide_eq_true_eq,Bool.not_eq_true',List.any_eq_false,Bool.not_eq_true]
 refine ⟨by omega,fun v hv=> ?_⟩
 obtain ⟨i,hi,rfl⟩:=List.getElem_of_mem hv
 have:=(h.2.2 i (by omega)).1
 rw[List.getElem?_eq_getElem hi] at this
 simpa using this
theorem noDdl_d:noDdl dDdl=true:=by simp[noDdl,dDdl,em]
theorem em_e {s:ByteArray} (h:em s=true):s=⟨#[]⟩:=by
 unfold em at h
 rw[List.isEmpty_iff,Lib.toList_data] at h
 obtain ⟨a⟩:=s
 have h:a.toList= []:=h
 rw[Array.toList_eq_nil_iff] at h
 rw[h]
theorem noDdl_eq {d:GDdl} (h:noDdl d=true):d=dDdl:=by
 simp only[noDdl,Bool.and_eq_true,decide_eq_true_eq,List.isEmpty_iff] at h
 obtain ⟨h1,h2,h3,h4,h5,h6⟩:=h
 have h2:=em_e h2
 have h5:=em_e h5
 have h6:=em_e h6
 cases d
 simp_all [dDdl]
theorem stmtOk_k {s:GStmt} (h:stmtOk s=true):wordOk s.fTable=true∧((s.fKind=1∧s.fKey= []∧valsOk s.fRow.fVals=true∧s.fDdl=dDdl)∨(s.fKind=2∧valsOk s.fKey=true∧valsOk s.fRow.fVals=true∧s.fDdl=dDdl)∨(s.fKind=3∧valsOk s.fKey=true∧s.fRow.fVals= []∧s.fDdl=dDdl)∨(s.fKind=4∧s.fKey= []∧s.fRow.fVals= []∧s.fDdl=dDdl)∨s.fKind=5):=by
 simp only[stmtOk,Bool.and_eq_true,Bool.or_eq_true,decide_eq_true_eq,List.isEmpty_iff] at h
 refine ⟨h.1, ?_⟩
 rcases h.2 with (((h|h)|h)|h)|h
 ·exact .inl ⟨h.1,h.2.1.1,h.2.1.2,noDdl_eq h.2.2⟩
 ·exact .inr (.inl ⟨h.1,h.2.1.1,h.2.1.2,noDdl_eq h.2.2⟩)
 ·exact .inr (.inr (.inl ⟨h.1,h.2.1.1,h.2.1.2,noDdl_eq h.2.2⟩))
 ·exact .inr (.inr (.inr (.inl ⟨h.1,h.2.1.1,h.2.1.2,noDdl_eq h.2.2⟩)))
 ·exact .inr (.inr (.inr (.inr h.1)))
theorem tab_data {d:GDb} (hd:dbOk d=true) {s:ByteArray} (h:0≤tabAt d.fCat.fTables s):tableOk (tabOf d.fCat s)=true∧rowsOk (tabOf d.fCat s) (dataOf d (dbIx d s))=true∧(tabAt d.fCat.fTables s).toNat<d.fCat.fTables.length∧(tabAt d.fCat.fTables s).toNat<d.fData.length:=by
 have hb:=tabAt_bd d.fCat.fTables s
 have hl:=dbOk_len hd
 have h1:(tabAt d.fCat.fTables s).toNat<d.fCat.fTables.length:=by omega
 have h2:=((dbOk_iff d).1 hd).2.2 _ h1
 refine ⟨dbOk_tab hd _ (getD_mem dTable h1), ?_,h1,by omega⟩
 unfold tabOf dataOf dbIx
 exact h2
theorem rowsOk_row {t:GTable} {l:List GRow} (h:rowsOk t l=true) {k:List GVal} (hk:0≤keyAt t l k):rowFit t (l[(keyAt t l k).toNat]?.getD dRow)=true:=by
 have hb:=keyAt_bd t l k
 exact (rowsOk_inv h).2.2.1 _ (getD_mem dRow (by omega))
theorem mapSt_ok {t:GTable} {l:List GRow} {cols keys:List ByteArray} {s:GStmt} (hr:rowsOk t l=true) (hs:stmtOk s=true) (h:(mapSt t l cols keys s).2=0):stmtOk (mapSt t l cols keys s).1=true:=by
 obtain ⟨hw,hk⟩:=stmtOk_k hs
 unfold mapSt at h⊢
 split at h
 ·exact absurd h (by assumption)
 rename_i h0
 rw[if_neg h0]
 have h0:drift cols keys t=0:=by omega
 split at h
 ·rename_i k1
  rw[if_pos k1]
  split at h
  ·exact absurd h (by assumption)
  rename_i h1
  rw[if_neg h1]
  obtain ⟨q1,q2,q3⟩:=mapRow_ok (show (mapRow cols t s.fRow.fVals []).2=0 by omega)
  simp[stmtOk,hw,fit_valsOk q1 q2,noDdl_d]
 rename_i k1
 rw[if_neg k1]
 split at h
 ·rename_i k4
  rw[if_pos k4]
  simp[stmtOk,hw,noDdl_d]
 rename_i k4
 rw[if_neg k4]
 split at h
 ·exact absurd h (by assumption)
 rename_i h2
 rw[if_neg h2]
 have hq:=key_valsOk (mapKey_ok (show (mapKey keys t s.fKey).2=0 by omega))
 split at h
 ·rename_i k3
  rw[if_pos k3]
  simp[stmtOk,hw,noDdl_d,hq]
 rename_i k3
 rw[if_neg k3]
 split at h
 ·exact absurd h (by assumption)
 rename_i h3
 rw[if_neg h3]
 have hz: ∀o:List GVal,(o= []∨rowFit t ⟨o⟩=true)→valsOk (mapRow cols t s.fRow.fVals o).1.fVals=true:=fun o ho=>by
  have:(mapRow cols t s.fRow.fVals o).2=0:=by
   rcases ho with rfl|ho
   ·omega
   ·rw[mapRow_other h0 _ ho];omega
  obtain ⟨q1,q2,q3⟩:=mapRow_ok this
  exact fit_valsOk q1 q2
 have hv:=hz (if 0≤keyAt t l (mapKey keys t s.fKey).1 then (l[(keyAt t l (mapKey keys t s.fKey).1).toNat]?.getD dRow).fVals else []) (by
  split
  ·rename_i hk
   exact .inr (rowsOk_row hr hk)
  ·exact .inl rfl)
 simp[stmtOk,hw,noDdl_d,hq,hv]
def keptAt (cols:List ByteArray) (t:GTable) (r was:List GVal) (n i:Nat):GVal:=if i<n∧has cols (t.fCols[i]?.getD dCol).fName=false then was[i]?.getD dVal else r[i]?.getD dVal
def keptTo (cols:List ByteArray) (t:GTable) (r was:List GVal) (n:Nat):List GVal:=(List.range r.length).map (keptAt cols t r was n)
theorem keptTo_len (cols:List ByteArray) (t:GTable) (r was:List GVal) (n:Nat):(keptTo cols t r was n).length=r.length:=by simp[keptTo]
theorem keptTo_zero (cols:List ByteArray) (t:GTable) (r was:List GVal):keptTo cols t r was 0=r:=by
 apply List.ext_getElem
 ·simp[keptTo]
 ·intro i h1 h2
  simp[keptTo,keptAt,h2]
theorem keptTo_succ (cols:List ByteArray) (t:GTable) (r was:List GVal) {n:Nat}:keptTo cols t r was (n+1)=if has cols (t.fCols[n]?.getD dCol).fName=false then (keptTo cols t r was n).set n (was[n]?.getD dVal) else keptTo cols t r was n:=by
 split
 ·rename_i h
  apply List.ext_getElem
  ·simp[keptTo]
  ·intro i h1 h2
   simp only[keptTo,List.getElem_map,List.getElem_range,List.getElem_set,keptAt]
   by_cases e:n=i
   ·subst e;rw[if_pos ⟨by omega,h⟩];simp
   ·simp only[e,if_false]
    by_cases e2:i<n
    ·simp[e2,show i<n+1 by omega]
    ·simp[e2,show¬i<n+1 by omega]
 ·rename_i h
  unfold keptTo
  refine List.map_congr_left fun i hi=> ?_
  unfold keptAt
  by_cases e:n=i
  ·subst e;simp[h]
  ·by_cases e2:i<n
   ·simp[e2,show i<n+1 by omega]
   ·simp[e2,show¬i<n+1 by omega]
theorem kept_row (cols:List ByteArray) (t:GTable) (vals was:List GVal) (hw:was.length=t.fCols.length) (hp:0<t.fCols.length):keptTo cols t (rowBy cols t vals [] t.fCols.length) was t.fCols.length=rowBy cols t vals was t.fCols.length:=by
 unfold keptTo
 rw[rowBy_len]
 unfold rowBy
 refine List.map_congr_left fun i hi=> ?_
 have hi:=List.mem_range.1 hi
 unfold keptAt
 have hr:=rowBy_at cols t vals [] hi
 unfold rowBy at hr
 rw[hr]
 have hx:=idxS_has cols (t.fCols[i]?.getD dCol).fName
 unfold byName
 by_cases h:0≤idxS cols (t.fCols[i]?.getD dCol).fName
 ·rw[if_neg (by rw[←hx];simp[h]),if_pos h,if_pos h]
 ·rw[if_pos ⟨hi,by rw[←hx];simp[h]⟩,if_neg h,if_pos (by omega)]
end Go.Proofs.YtcgalnoekjnjoaaGreat
namespace Go.Proofs.YtcgalnoekjnjoaaGreat
open Go Go.Proofs Go.Sm
attribute [local simp] ti eStr eInt eByte eVal cVal vVal eValS vValS eRow cRow vRow eCol vCol vColS eStrS vStrS cDdl vDdl vStmt ePart vPart eTable cTable vTable vTableS cCat vCat vRowS eRows vRows vRowsS eDb cDb vDb eSnap vSnap
set_option linter.unusedVariables false
set_option linter.unusedSimpArgs false
set_option maxRecDepth 8000
theorem sameVals_ok (a b:List GVal) (ha:okM a.length):VC Tryz.prog 232 [vValS a,vValS b] [(false,[(.s,.sc (.bool (eqRows veq dVal a b)))])]:=by
 unfold okM at ha
 refine vc_of_ew good hm [0,1,4,10,12,13,14,5,24] Tryz.func232 rfl (by kernel_rfl) (by kernel_rfl) rfl ?_
 simp[Tryz.f232]
 refine ⟨fun h=>by simp[eqRows,h],fun hl=> ?_⟩
 refine ew_loop (fun E=> ∃i:Nat,i≤a.length∧eqTo veq dVal a b i=true∧E= {nt:=26,sl:= [(0,vValS a),(1,vValS b),(12,int .i64 a.length),(13,int .i64 i)],bx:= [],rt:= []}) (fun E=>a.length- (E.num 13).toNat) _ (Gh.kb _ [0,1,12,13] [] []) ⟨0,by omega,by simp[eqTo],by simp⟩ ?_
 rintro E1 ⟨i,hi,hall,rfl⟩
 simp
 have hat:veq (a[i]?.getD dVal) (b[i]?.getD dVal)=((a[i]?.getD dVal).fTy==(b[i]?.getD dVal).fTy&& ((a[i]?.getD dVal).fN==(b[i]?.getD dVal).fN&& (a[i]?.getD dVal).fS.toList==(b[i]?.getD dVal).fS.toList)):=rfl
 refine ⟨fun h=>⟨h,by omega, ?_⟩,fun h=> ?_⟩
 ·refine ⟨fun hb=> ?_,fun h1 h2 h3=> .of _ (Gh.kb _ [0,1,12,13] [] []) ⟨i+1,by omega,by rw[eqTo_succ,hall,hat];simp[h1,h2,h3], ?_⟩ ?_⟩
  ·have:=eqTo_no (eq:=veq) (d:=dVal) (a:=a) (b:=b) h (by rw[hat];grind)
   simp[eqRows,this]
  ·simp[wrapS (show i<9223372036854775807 by omega)]
  ·simp[wrapS (show i<9223372036854775807 by omega)];omega
 ·have:i=a.length:=by omega
  subst this
  simp[eqRows,hall,hl]
theorem l03Lay_ok (t:GTable) (l:List GRow) (r:GRow) (ht:okTable t) (hk:t.fKeys.length≤1048576) (hl:l.length≤1048576) (hb: ∀x∈l,x.fVals.length≤1048576) (hbr:r.fVals.length≤1048576) (hin: ∀x∈l,keysIn t x) (hir:keysIn t r):VC Tryz.prog 200 [vTable t,vRowS l,vRow r] [(false,mRowS (insW (fun y=> !rowLt t r y) r l))]:=by
 refine vc_of_ew good hm [0,1,2,3,5,6,7,8,12,13,14,15,10,28,41] Tryz.func200 rfl (by kernel_rfl) (by kernel_rfl) rfl ?_
 simp[Tryz.f200,mRowS]
 refine ew_loop (fun E=> ∃i:Nat,i≤l.length∧E= {nt:=48,sl:= [(3,.p (.bx 3 0)),(5,.p (.bx 5 0)),(7,.v false [.r [11]]),(8,bool (anyT (fun y=>rowLt t r y) l i)),(12,vRowS l),(13,int .i64 l.length),(14,int .i64 i)],bx:= [(3,cTable t),(5,cRow r)],rt:=(mRowS (layTo (fun y=>rowLt t r y) r l i)).map fun y=>(11,y)}) (fun E=>l.length- (E.num 14).toNat) _ (Gh.kb _ [3,5,7,8,12,13,14] [3,5] [11]) ⟨0,by omega,by simp[mRowS,layTo_zero,anyT_zero]⟩ ?_
 rintro E1 ⟨i,hi,rfl⟩
 have hL:=layTo_len (fun y=>rowLt t r y) r l i
 simp[mRowS]
 have hb8: ∀x,okM (keyOf t x).length:=fun x=>by rw[keyOf_len];unfold okM;omega
 refine ⟨fun h=>⟨h,.of (fun g=>⟨g,keyS_ok t r ht hk hir⟩) ?_⟩,fun h=> ?_⟩
 ·simp[mValS]
  refine .of (fun g=>⟨g,keyS_ok t (l[i]?.getD dRow) ht hk (hin _ (getD_mem dRow h))⟩) ?_
  simp[mValS]
  refine .of (fun g=>⟨g,keyLessS_ok (keyOf t r) (keyOf t (l[i]?.getD dRow)) (hb8 _) (hb8 _)⟩) ?_
  simp
  have hs:=layTo_succ (fun y=>rowLt t r y) r dRow h
  have ha:=anyT_succ (fun y=>rowLt t r y) dRow h
  refine ⟨fun q1 q2=> .of (l03Row_ok r hbr) ?_,fun q=> .of (l03Row_ok (l[i]?.getD dRow) (hb _ (getD_mem dRow h))) ?_⟩
  ·rw[if_pos ⟨q1,q2⟩] at hs
   rw[q1,show rowLt t r (l[i]?.getD dRow)=true from q2] at ha
   simp[mRow]
   refine ⟨by omega,.of (l03Row_ok (l[i]?.getD dRow) (hb _ (getD_mem dRow h))) ?_⟩
   simp[mRow]
   refine ⟨by omega,.of _ ((Gh.kb _ [3,5,7,8,12,13,14] [3,5] [38]).trans (Gh.rn _ 38 11)) ⟨i+1,by omega, ?_⟩ ?_⟩
   ·rw[hs,ha]
    simp[wrapS (show i<9223372036854775807 by omega),mRowS]
   ·simp[wrapS (show i<9223372036854775807 by omega)];omega
  ·have hq: ¬((l.take i).any (fun y=>rowLt t r y)=false∧rowLt t r (l[i]?.getD dRow)=true):=fun ⟨q1,q2⟩=>by
    have:=q q1
    rw[show keyLess (keyOf t r) (keyOf t (l[i]?.getD dRow))=true from q2] at this
    cases this
   rw[if_neg hq] at hs
   have ha2:anyT (fun y=>rowLt t r y) l (i+1)=anyT (fun y=>rowLt t r y) l i:=by
    rw[ha]
    cases hx:anyT (fun y=>rowLt t r y) l i with
    |true=>rfl
    |false=>
     rw[Bool.false_or]
     exact q hx
   simp[mRow]
   refine ⟨by omega,.of _ ((Gh.kb _ [3,5,7,8,12,13,14] [3,5] [38]).trans (Gh.rn _ 38 11)) ⟨i+1,by omega, ?_⟩ ?_⟩
   ·rw[hs,ha2]
    simp[wrapS (show i<9223372036854775807 by omega),mRowS]
   ·simp[wrapS (show i<9223372036854775807 by omega)];omega
 ·have:i=l.length:=by omega
  subst this
  have he:=layTo_end (fun y=>rowLt t r y) r l
  refine ⟨fun q=> .of (l03Row_ok r hbr) ?_,fun q=> ?_⟩
  ·rw[anyT_all] at q
   rw[q] at he
   simp[mRow]
   refine ⟨by omega, ?_⟩
   rw[he]
   simp
  ·rw[anyT_all] at q
   rw[q,if_pos rfl] at he
   rw[he]
theorem rowAtS_ok (t:GTable) (l:List GRow) (key:List GVal) (ht:okTable t) (hk:t.fKeys.length≤1048576) (hl:okRowS l):VC Tryz.prog 127 [vTable t,vRowS l,vValS key] [(false,[(.s,.sc (.int .i64 (if rowsOk t l=true then keyAt t l key else-1)))])]:=by
 refine vc_of_ew good hm [0,1,2,3,6,12,13,14,15,16,8,7,24] Tryz.func127 rfl (by kernel_rfl) (by kernel_rfl) rfl ?_
 simp[Tryz.f127]
 refine .of (rowsOkS_ok t l ht hl hk) ?_
 simp
 refine ⟨fun h=>by simp[h],fun h1=> ?_⟩
 obtain ⟨h2,h3,h4,h5,h6⟩:=rowsOk_inv h1
 rw[if_pos h1]
 refine ew_loop (fun E=> ∃i:Nat,i≤l.length∧anyT (fun r=>eqRows veq dVal (keyOf t r) key) l i=false∧E= {nt:=27,sl:= [(2,vValS key),(3,.p (.bx 3 0)),(13,vRowS l),(14,int .i64 l.length),(15,int .i64 i)],bx:= [(3,cTable t)],rt:= []}) (fun E=>l.length- (E.num 15).toNat) _ (Gh.kb _ [2,3,13,14,15] [3] []) ⟨0,by omega,anyT_zero _ _,by simp⟩ ?_
 rintro E1 ⟨i,hi,hall,rfl⟩
 simp
 refine ⟨fun h=>⟨h,.of (keyS_ok t (l[i]?.getD dRow) ht hk (h5 _ (getD_mem dRow h))) ?_⟩,fun h=> ?_⟩
 ·simp[mValS]
  refine .of (sameVals_ok (keyOf t (l[i]?.getD dRow)) key (by rw[keyOf_len];unfold okM;omega)) ?_
  simp
  refine ⟨fun hp=>(idxF_at _ dRow h hall hp).symm,fun hp=> .of _ (Gh.kb _ [2,3,13,14,15] [3] []) ⟨i+1,by omega,by rw[anyT_succ _ dRow h,hall,hp];rfl, ?_⟩ ?_⟩
  ·simp[wrapS (show i<9223372036854775807 by omega)]
  ·simp[wrapS (show i<9223372036854775807 by omega)];omega
 ·have:i=l.length:=by omega
  subst this
  rw[anyT_all] at hall
  exact (idxF_no _ hall).symm
end Go.Proofs.YtcgalnoekjnjoaaGreat
namespace Go.Proofs.YtcgalnoekjnjoaaGreat
open Go Go.Proofs Go.Sm
attribute [local simp] ti eStr eInt eByte eVal cVal vVal eValS vValS eRow cRow vRow eCol vCol vColS eStrS vStrS cDdl vDdl vStmt ePart vPart eTable cTable vTable vTableS cCat vCat vRowS eRows vRows vRowsS eDb cDb vDb eSnap vSnap
set_option linter.unusedVariables false
set_option linter.unusedSimpArgs false
set_option maxRecDepth 8000
end Go.Proofs.YtcgalnoekjnjoaaGreat
namespace Go.Proofs.YtcgalnoekjnjoaaGreat
open Go Go.Proofs Go.Sm
attribute [local simp] ti eStr eInt eByte eVal cVal vVal eValS vValS eRow cRow vRow eCol vCol vColS eStrS vStrS cDdl vDdl vStmt ePart vPart eTable cTable vTable vTableS cCat vCat vRowS eRows vRows vRowsS eDb cDb vDb eSnap vSnap
set_option linter.unusedVariables false
set_option linter.unusedSimpArgs false
set_option maxRecDepth 8000
end Go.Proofs.YtcgalnoekjnjoaaGreat
namespace Go.Proofs.YtcgalnoekjnjoaaGreat
open Go Go.Proofs Go.Sm
attribute [local simp] ti eStr eInt eByte eVal cVal vVal eValS vValS eRow cRow vRow eCol vCol vColS eStrS vStrS cDdl vDdl vStmt ePart vPart eTable cTable vTable vTableS cCat vCat vRowS eRows vRows vRowsS eDb cDb vDb eSnap vSnap
set_option linter.unusedVariables false
set_option linter.unusedSimpArgs false
set_option maxRecDepth 8000
theorem kept_ok (t:GTable) (cols:List ByteArray) (r was:List GVal) (hc:okM cols.length) (ht:t.fCols.length≤1048576) (hr:r.length≤1048576) (hrl:t.fCols.length≤r.length) (hwl:t.fCols.length≤was.length):
  VC Tryz.prog 246 [vTable t,vStrS cols,vRow ⟨r⟩,vRow ⟨was⟩] [(true,mRow ⟨keptTo cols t r was t.fCols.length⟩)]:=by
 refine vc_of_ew good hm [0,1,2,3,4,6,7,8,9,17,18,19,20,11,10,28] Tryz.func246 rfl (by kernel_rfl) (by kernel_rfl) rfl ?_
 simp[Tryz.f246,mRow]
 refine .of (copyVals_ok r hr) ?_
 simp[mValS]
 refine ew_loop (fun E=> ∃i:Nat,i≤t.fCols.length∧E= {nt:=40,sl:= [(1,vStrS cols),(7,.p (.bx 7 0)),(8,.p (.bx 8 0)),(9,.p (.bx 9 0)),(17,vColS t.fCols),(18,int .i64 t.fCols.length),(19,int .i64 i)],bx:= [(7,cRow ⟨was⟩),(8,[.n [Lf.sc (Value.int IntKind.i64 0),Lf.sc (Value.int IntKind.i64 0),Lf.sc (Value.string ⟨#[]⟩)]]),(9,[.r [14]])],rt:=(mValS (keptTo cols t r was i)).map fun y=>(14,y)}) (fun E=>t.fCols.length- (E.num 19).toNat) _ (Gh.kb _ [1,7,8,9,17,18,19] [7,8,9] [14]) ⟨0,by omega,by simp[mValS,keptTo_zero]⟩ ?_
 rintro E1 ⟨i,hi,rfl⟩
 have hkl:=keptTo_len cols t r was i
 have hks:=keptTo_succ cols t r was (n:=i)
 simp[mValS]
 have hcs:VC Tryz.prog 314 [vStrS cols,str (t.fCols[i]?.getD dCol).fName] [(false,[(.s,.sc (.bool (has cols (t.fCols[i]?.getD dCol).fName)))])]:=containsStr_ok cols _ hc
 refine ⟨fun h=>⟨h,.of hcs ?_⟩,fun h=> ?_⟩
 ·have hi2:i<was.length:=by omega
  simp[md,lf,hkl,show i<r.length by omega,hi2]
  refine ⟨fun q=> .of _ (Gh.kb _ [1,7,8,9,17,18,19] [7,8,9] [14]) ⟨i+1,by omega, ?_⟩ ?_,fun q=> .of _ (Gh.kb _ [1,7,8,9,17,18,19] [7,8,9] [14]) ⟨i+1,by omega, ?_⟩ ?_⟩
  ·rw[hks,if_pos q]
   simp[wrapS (show i<9223372036854775807 by omega),mValS,List.map_set,eVal,hi2]
  ·simp[wrapS (show i<9223372036854775807 by omega)];omega
  ·rw[hks,if_neg (by simp[q])]
   simp[wrapS (show i<9223372036854775807 by omega),mValS]
  ·simp[wrapS (show i<9223372036854775807 by omega)];omega
 ·have:i=t.fCols.length:=by omega
  subst this
  simp
def bdStrs (l:List ByteArray):Prop:=okStrS l∧(∀n∈wStrS l,n≤1048576)∧(wStrS l).sum≤1048576
theorem vals_w {l:List GVal} (h:valsOk l=true):okValS l∧(∀n∈wValS l,n≤1048576)∧(wValS l).sum≤1048576:=by
 have h1:=valsOk_ok h
 simp only[valsOk,within,Bool.and_eq_true,decide_eq_true_eq,Bool.not_eq_true',List.any_eq_false,Bool.not_eq_true] at h
 have a:=sumF (w:=wVal) h1.2 fun v hv=>val_w (by have:=h.2 v hv;simpa using this)
 have hs:(wValS l).sum≤1048576:=by
  simp only[wValS,List.sum_cons,List.sum_append,List.sum_nil]
  omega
 exact ⟨h1.1,(of_sum hs).1,hs⟩
theorem table_b {t:GTable} (h:tableOk t=true):okTable t∧(∀n∈wTable t,n≤1048576)∧(wTable t).sum≤1048576:=by
 have:=table_w h
 have hs:(wTable t).sum≤1048576:=by omega
 exact ⟨(tableOk_ok h).1,(of_sum hs).1,hs⟩
theorem mapStI_ok (d:GDb) (p:GPart) (hd:dbOk d=true) (hs:stmtOk p.fStmt=true) (hc:bdStrs p.fCols) (hk:bdStrs p.fKeys):
  VC Tryz.prog 132 [vDb d,vPart p] [(true,mStmt (mapStP d p).1),(false,[(.s,.sc (.int .i64 (mapStP d p).2))])]:=by
 obtain ⟨hso,hs0,hs1,hs2,hs3,hs4⟩:=stmtOk_ok hs
 have hbs:bdStmt p.fStmt:=⟨by omega,by omega,by omega,by omega⟩
 have hod:=dbOk_ok hd
 have hco:=catOk_ok (dbOk_cat hd)
 have hl:=dbOk_len hd
 have hb:=tabAt_bd d.fCat.fTables p.fStmt.fTable
 obtain ⟨hw,hkd⟩:=stmtOk_k hs
 have hE:mapStP d p=if p.fStmt.fKind=5 then (p.fStmt,0) else if tabAt d.fCat.fTables p.fStmt.fTable<0 then (dStmt,10) else mapSt (tabOf d.fCat p.fStmt.fTable) (dataOf d (dbIx d p.fStmt.fTable)) p.fCols p.fKeys p.fStmt:=rfl
 refine vc_of_ew good hm [0,1,2,3,4,5,6,21,7,29,8,9,10,50,60,11,12,71,83,13,14,95,15,109] Tryz.func132 rfl (by kernel_rfl) (by kernel_rfl) rfl ?_
 simp[Tryz.f132,mStmt]
 refine .of (copyStmt_ok p.fStmt hbs) ?_
 simp[mStmt]
 refine ⟨fun k5=>by rw[hE,if_pos k5];simp,fun k5=> .of (at_ok d.fCat p.fStmt.fTable hco.1.1.1) ?_⟩
 rw[if_neg k5] at hE
 simp
 refine ⟨fun h0=>by rw[hE,if_pos h0];simp[dStmt,dRow,dDdl],fun h0=> ?_⟩
 rw[if_neg (by omega)] at hE
 obtain ⟨hto,hro,hx1,hx2⟩:=tab_data hd (s:=p.fStmt.fTable) (by omega)
 have ht0:d.fCat.fTables[(tabAt d.fCat.fTables p.fStmt.fTable).toNat]?.getD dTable=tabOf d.fCat p.fStmt.fTable:=rfl
 have hd0:(d.fData[(tabAt d.fCat.fTables p.fStmt.fTable).toNat]?.getD dRows).fRows=dataOf d (dbIx d p.fStmt.fTable):=rfl
 rw[ht0,hd0]
 generalize tabOf d.fCat p.fStmt.fTable=T at*
 generalize dataOf d (dbIx d p.fStmt.fTable)=L at*
 obtain ⟨hT1,hT2,hT3⟩:=table_b hto
 refine ⟨by omega,by omega, ?_⟩
 simp[md,lf,List.range']
 refine .of (I_Drift_ok p.fCols p.fKeys T hc.1 hc.2.1 hc.2.2 hk.1 hk.2.1 hk.2.2 hT1 hT2 hT3) ?_
 simp[md,lf,List.range']
 have hS:mapSt T L p.fCols p.fKeys p.fStmt=if drift p.fCols p.fKeys T≠0 then (dStmt,drift p.fCols p.fKeys T) else
  if p.fStmt.fKind=1 then (if (mapRow p.fCols T p.fStmt.fRow.fVals []).2≠0 then (dStmt,(mapRow p.fCols T p.fStmt.fRow.fVals []).2) else (⟨1,p.fStmt.fTable,[],(mapRow p.fCols T p.fStmt.fRow.fVals []).1,dDdl⟩,0)) else
  if p.fStmt.fKind=4 then (⟨4,p.fStmt.fTable,[],⟨[]⟩,dDdl⟩,0) else
  if (mapKey p.fKeys T p.fStmt.fKey).2≠0 then (dStmt,(mapKey p.fKeys T p.fStmt.fKey).2) else
  if p.fStmt.fKind=3 then (⟨3,p.fStmt.fTable,(mapKey p.fKeys T p.fStmt.fKey).1,⟨[]⟩,dDdl⟩,0) else
  if (mapRow p.fCols T p.fStmt.fRow.fVals []).2≠0 then (dStmt,(mapRow p.fCols T p.fStmt.fRow.fVals []).2) else
  (⟨2,p.fStmt.fTable,(mapKey p.fKeys T p.fStmt.fKey).1,(mapRow p.fCols T p.fStmt.fRow.fVals (if 0≤keyAt T L (mapKey p.fKeys T p.fStmt.fKey).1 then (L[(keyAt T L (mapKey p.fKeys T p.fStmt.fKey).1).toNat]?.getD dRow).fVals else [])).1,dDdl⟩,0):=rfl
 refine ⟨fun h1=>by rw[hE,hS,if_pos h1];simp[dStmt,dRow,dDdl],fun h1=> ?_⟩
 rw[if_neg (by simp[h1])] at hS
 have hkin: ∀r∈L,keysIn T r:=(rowsOk_inv hro).2.2.2.1
 have hLl:okM L.length:=by have:=(rowsOk_inv hro).2.1;unfold okM;omega
 have hTk:T.fKeys.length≤1048576:=(tableOk_ok hto).2.2
 rcases hkd with ⟨k,e1,e2,e3⟩|⟨k,e1,e2,e3⟩|⟨k,e1,e2,e3⟩|⟨k,e1,e2,e3⟩|k
 ·rw[if_pos k] at hS
  obtain ⟨v1,v2,v3⟩:=vals_w e2
  simp[k,e1,md,lf,List.range']
  refine .of (I_MapRow_ok p.fCols T p.fStmt.fRow.fVals hc.1 hc.2.1 hc.2.2 hT1 hT2 hT3 v1 v2 v3) ?_
  simp[mRow,md,lf,List.range']
  refine ⟨fun h2=>by rw[hE,hS,if_pos h2];simp[dStmt,dRow,dDdl],fun h2=> ?_⟩
  rw[if_neg (by simp[h2])] at hS
  refine .of (rowAt_ok T L [] hT1 hTk hLl hkin) ?_
  simp[k]
  rw[hE,hS]
  simp[dDdl,e3]
 ·rw[if_neg (by omega),if_neg (by omega)] at hS
  obtain ⟨v1,v2,v3⟩:=vals_w e1
  obtain ⟨u1,u2,u3⟩:=vals_w e2
  simp[k,md,lf,List.range']
  refine .of (I_MapKey_ok p.fKeys T p.fStmt.fKey hk.1 hk.2.1 hk.2.2 hT1 hT2 hT3 v1 v2 v3) ?_
  simp[mValS,md,lf,List.range']
  refine ⟨fun h2=>by rw[hE,hS,if_pos h2];simp[dStmt,dRow,dDdl],fun h2=> ?_⟩
  rw[if_neg (by simp[h2]),if_neg (by omega)] at hS
  have hko:=key_valsOk (mapKey_ok h2)
  generalize (mapKey p.fKeys T p.fStmt.fKey).1=key at hS hko⊢
  have hkl:=(valsOk_ok hko).2
  refine .of (I_MapRow_ok p.fCols T p.fStmt.fRow.fVals hc.1 hc.2.1 hc.2.2 hT1 hT2 hT3 u1 u2 u3) ?_
  simp[mRow,md,lf,List.range']
  refine ⟨fun h3=>by rw[hE,hS,if_pos h3];simp[dStmt,dRow,dDdl],fun h3=> ?_⟩
  rw[if_neg (by simp[h3])] at hS
  have hb2:=keyAt_bd T L key
  obtain ⟨q1,q2,q3⟩:=mapRow_ok h3
  refine .of (rowAt_ok T L key hT1 hTk hLl hkin) ?_
  simp[k,md,lf,List.range']
  refine ⟨fun ha=>⟨by omega, ?_⟩,fun ha=> ?_⟩
  ·have hwr:=rowsOk_row hro ha
   have hwl:=((rowFit_iff T _).1 hwr).1
   have htl:=tableOk_len hto
   have htp:0<T.fCols.length:=by have:=(tableOk_iff T).1 hto;omega
   have hz:=mapRow_other (other:=(L[(keyAt T L key).toNat]?.getD dRow).fVals) h1 p.fStmt.fRow.fVals hwr
   obtain ⟨z1,z2,z3⟩:=mapRow_ok (hz.trans h3)
   rw[q3]
   refine .of (kept_ok T p.fCols (rowBy p.fCols T p.fStmt.fRow.fVals [] T.fCols.length) (L[(keyAt T L key).toNat]?.getD dRow).fVals hc.1.1 (by omega) (by rw[rowBy_len];omega) (by rw[rowBy_len];omega) (by omega)) ?_
   rw[kept_row _ _ _ _ hwl htp]
   simp[mRow,md,lf,List.range']
   rw[hE,hS,if_pos ha,z3]
   simp[dDdl,e3]
  ·rw[hE,hS,if_neg (by omega)]
   simp[dDdl,e3]
 ·rw[if_neg (by omega),if_neg (by omega)] at hS
  obtain ⟨v1,v2,v3⟩:=vals_w e1
  simp[k,md,lf,List.range']
  refine .of (I_MapKey_ok p.fKeys T p.fStmt.fKey hk.1 hk.2.1 hk.2.2 hT1 hT2 hT3 v1 v2 v3) ?_
  simp[mValS,md,lf,List.range']
  refine ⟨fun h2=>by rw[hE,hS,if_pos h2];simp[dStmt,dRow,dDdl],fun h2=> ?_⟩
  rw[if_neg (by simp[h2]),if_pos k] at hS
  rw[hE,hS]
  simp[dDdl,e3,e2]
 ·rw[if_neg (by omega),if_pos k] at hS
  simp[k]
  rw[hE,hS]
  simp[dDdl,e3,e2,e1]
 ·exact absurd k k5
end Go.Proofs.YtcgalnoekjnjoaaGreat
namespace Go.Proofs.YtcgalnoekjnjoaaGreat
open Go Go.Proofs Go.Sm
attribute [local simp] ti eStr eInt eByte eVal cVal vVal eValS vValS eRow cRow vRow eCol vCol vColS eStrS vStrS cDdl vDdl vStmt ePart vPart eTable cTable vTable vTableS cCat vCat vRowS eRows vRows vRowsS eDb cDb vDb eSnap vSnap
set_option linter.unusedVariables false
set_option linter.unusedSimpArgs false
set_option maxRecDepth 8000
end Go.Proofs.YtcgalnoekjnjoaaGreat
namespace Go.Proofs.YtcgalnoekjnjoaaGreat
open Go Go.Proofs Go.Sm
attribute [local simp] ti eStr eInt eByte eVal cVal vVal eValS vValS eRow cRow vRow eCol vCol vColS eStrS vStrS cDdl vDdl vStmt ePart vPart eTable cTable vTable vTableS cCat vCat vRowS eRows vRows vRowsS eDb cDb vDb eSnap vSnap
set_option linter.unusedVariables false
set_option linter.unusedSimpArgs false
set_option maxRecDepth 8000
end Go.Proofs.YtcgalnoekjnjoaaGreat
namespace Go.Proofs.YtcgalnoekjnjoaaGreat
open Go Go.Proofs Go.Sm
attribute [local simp] ti eStr eInt eByte eVal cVal vVal eValS vValS eRow cRow vRow eCol vCol vColS eStrS vStrS cDdl vDdl vStmt ePart vPart eTable cTable vTable vTableS cCat vCat vRowS eRows vRows vRowsS eDb cDb vDb eSnap vSnap
set_option linter.unusedVariables false
set_option linter.unusedSimpArgs false
set_option maxRecDepth 8000
def chTo {α:Type} (f:α→α) (l:List α) (i:Nat):List α:=(l.take i).map f++l.drop i
theorem chTo_zero {α:Type} (f:α→α) (l:List α):chTo f l 0=l:=by simp[chTo]
theorem chTo_all {α:Type} (f:α→α) (l:List α):chTo f l l.length=l.map f:=by simp[chTo]
theorem chTo_len {α:Type} (f:α→α) (l:List α) (i:Nat):(chTo f l i).length=l.length:=by simp[chTo];omega
theorem chTo_get {α:Type} (f:α→α) (l:List α) (i:Nat):(chTo f l i)[i]? =l[i]? :=by
 unfold chTo
 rcases Nat.lt_or_ge i l.length with h|h
 ·rw[List.getElem?_append_right (by simp;omega)]
  simp
  congr 1
  omega
 ·simp[List.getElem?_eq_none,h]
theorem chTo_succ {α:Type} (f:α→α) (d:α) {l:List α} {i:Nat} (h:i<l.length):chTo f l (i+1)=(chTo f l i).set i (f (l[i]?.getD d)):=by
 unfold chTo
 rw[List.map_take,take_rowM d h,List.map_take,List.set_append_right _ _ (by simp;omega)]
 have:i- (List.take i (List.map f l)).length=0:=by simp;omega
 rw[this,List.drop_eq_getElem_cons (i:=i) h,List.getElem?_eq_getElem h]
 show _++ [_]++_=_
 rw[List.append_assoc]
 rfl
end Go.Proofs.YtcgalnoekjnjoaaGreat
namespace Go.Proofs.YtcgalnoekjnjoaaGreat
open Go Go.Proofs Go.Sm
attribute [local simp] ti eStr eInt eByte eVal cVal vVal eValS vValS eRow cRow vRow eCol vCol vColS eStrS vStrS cDdl vDdl vStmt ePart vPart eTable cTable vTable vTableS cCat vCat vRowS eRows vRows vRowsS eDb cDb vDb eSnap vSnap
set_option linter.unusedVariables false
set_option linter.unusedSimpArgs false
set_option maxRecDepth 8000
def fDb (d:GDb):ML:= [(Md.s,Lf.ls [Lf.sc (Value.string ⟨#[]⟩),Lf.ls [Lf.sc (Value.string ⟨#[]⟩),Lf.sc (Value.int IntKind.i64 0),Lf.sc (Value.bool false),Lf.sc (Value.bool false),Lf.sc (Value.int IntKind.i64 0),Lf.sc (Value.int IntKind.i64 0),Lf.sc (Value.string ⟨#[]⟩)] [],Lf.ls [Lf.sc (Value.string ⟨#[]⟩)] []] (d.fCat.fTables.map eTable)),(Md.s,Lf.ls [Lf.ls [Lf.ls [Lf.sc (Value.int IntKind.i64 0),Lf.sc (Value.int IntKind.i64 0),Lf.sc (Value.string ⟨#[]⟩)] []] []] (d.fData.map eRows))]
def fCat (c:GCat):ML:= [(Md.s,Lf.ls [Lf.sc (Value.string ⟨#[]⟩),Lf.ls [Lf.sc (Value.string ⟨#[]⟩),Lf.sc (Value.int IntKind.i64 0),Lf.sc (Value.bool false),Lf.sc (Value.bool false),Lf.sc (Value.int IntKind.i64 0),Lf.sc (Value.int IntKind.i64 0),Lf.sc (Value.string ⟨#[]⟩)] [],Lf.ls [Lf.sc (Value.string ⟨#[]⟩)] []] (c.fTables.map eTable))]
end Go.Proofs.YtcgalnoekjnjoaaGreat
