import Derived.Test.YteeolohhmfjafaaGreatG6
import Derived.Test.YteeolohhmfjafaaGreatG5
import Derived.Test.YteeolohhmfjafaaGreatG4
import Derived.Shelf.Spec.SlicesInsertGrow
import Derived.Shelf.RegionOpenPlain
import Derived.Lib.Overlaps
import Derived.WalkKit
import Derived.Deep.LoopGhost
import Derived.Deep.RegionLaw
import Derived.Lib.Walk
import Derived.Sort.WalkB12
import Derived.Lib.SliceRun
set_option maxHeartbeats 8000000
set_option maxRecDepth 8000
namespace Go.Proofs.YteeolohhmfjafaaGreat
open Go Go.Proofs Go.Sm
attribute [local simp] ti eStr eInt eByte eVal cVal vVal eValS vValS eRow cRow vRow eCol cCol vCol vColS eStrS vStrS eDdl cDdl vDdl cStmt vStmt ePart vPart vPartS eTable cTable vTable vTableS cCat vCat vRowS eRows vRows vRowsS eDb cDb vDb eFol vFol eSnap cSnap vSnap
set_option linter.unusedVariables false
set_option linter.unusedSimpArgs false
set_option maxRecDepth 8000
@[simp 10000] theorem OwML_c (m:Md) (l:Lf) (r:ML):OwML ((m,l)::r)=(Ow m l∧OwML r):=by simp[OwML]
@[simp 10000] theorem OwML_n:OwML []=True:=by simp[OwML]
@[simp 10000] theorem OwRs_c (q:Bool×ML) (r:List (Bool×ML)):OwRs (q::r)=(OwML q.2∧OwRs r):=by simp[OwRs]
@[simp 10000] theorem OwRs_n:OwRs []=True:=by simp[OwRs]
theorem memS {l:List Nat} {n:Nat} (h:n∈l):n≤l.sum:=by
 induction l with
 |nil=>cases h
 |cons x r ih=>
  rcases List.mem_cons.1 h with rfl|h
  ·simp
  ·have:=ih h;simp;omega
theorem sumF {α:Type} {w:α→List Nat} {l:List α} {B k:Nat} (hk:l.length≤k) (h: ∀v∈l,(w v).sum≤B):(l.flatMap w).sum≤k*B:=by
 refine Nat.le_trans ?_ (Nat.mul_le_mul_right B hk)
 clear hk
 induction l with
 |nil=>simp
 |cons x r ih=>
  simp only[List.flatMap_cons,List.sum_append,List.length_cons,Nat.add_mul]
  have h1:=h x (by simp)
  have h2:=ih fun v hv=>h v (by simp[hv])
  omega
theorem val_w {v:GVal} (h:valOk v=true):(wVal v).sum≤30:=by
 simp only[wVal,List.sum_cons,List.sum_nil]
 simp only[valOk,Bool.or_eq_true,Bool.and_eq_true,decide_eq_true_eq] at h
 rcases h with ((⟨_,_,h⟩|⟨_,_,h⟩)|⟨_,_,h⟩)|⟨_,_,h⟩
 ·rw[em_size h];omega
 ·rw[em_size h];omega
 ·rw[em_size h];omega
 ·omega
theorem null_w {v:GVal} (h:nullV v=true):(wVal v).sum≤30:=by
 simp only[wVal,List.sum_cons,List.sum_nil]
 simp only[nullV,Bool.and_eq_true,decide_eq_true_eq] at h
 rw[em_size h.2.2];omega
theorem word_w {s:ByteArray} (h:wordOk s=true):s.size≤8:=by
 simp only[wordOk,within,Bool.and_eq_true,decide_eq_true_eq] at h
 omega
theorem col_w {c:GCol} (h:colOk c=true):(wCol c).sum≤38:=by
 simp only[colOk,Bool.and_eq_true] at h
 have h1:=word_w h.1.1
 have h2:(wVal c.fDef).sum≤30:=by
  have:=h.2
  split at this
  ·simp only[Bool.and_eq_true] at this
   exact val_w this.1
  ·exact null_w this
 simp only[wCol,List.sum_cons,List.sum_append,List.sum_nil]
 omega
theorem table_w {t:GTable} (h:tableOk t=true):(wTable t).sum≤400:=by
 obtain ⟨h1,h2,h3,h4,h5,h6,h7,h8⟩:=(tableOk_iff t).1 h
 have hkl:=h7.length_le
 simp only[cnm,List.length_map] at hkl
 have a1:=sumF (w:=wCol) h3 fun c hc=>col_w (h5 c hc)
 have a2:=sumF (w:=wStr) (k:=8) (B:=8) (l:=t.fKeys) (by omega) fun s hs=>by
  obtain ⟨c,hc,rfl⟩:=List.mem_map.1 (h7.mem hs)
  have:=h5 c hc
  simp only[colOk,Bool.and_eq_true] at this
  simpa [wStr] using word_w this.1.1
 have:=word_w h1
 simp only[wTable,wColS,wStrS,List.sum_cons,List.sum_append,List.sum_nil]
 omega
theorem row_w {t:GTable} (ht:tableOk t=true) {r:GRow} (h:rowFit t r=true):(wRow r).sum≤248:=by
 have hl:=(rowFit_ok ht h).2
 simp only[rowFit,rowTo,Bool.and_eq_true,List.all_eq_true,List.mem_range] at h
 have a:=sumF (w:=wVal) hl fun v hv=>by
  obtain ⟨i,hi,rfl⟩:=List.getElem_of_mem hv
  have:=h.2 i hi
  simp only[rowAt,stands,Bool.and_eq_true,List.getElem?_eq_getElem hi,Option.getD_some] at this
  exact val_w this.1
 simp only[wRow,wValS,List.sum_cons,List.sum_append,List.sum_nil]
 omega
theorem rows_w {t:GTable} {x:GRows} (h:rowsOk t x.fRows=true):(wRows x).sum≤15000:=by
 obtain ⟨h1,h2,h3,_⟩:=(rowsOk_iff _ _).1 h
 have a:=sumF (w:=wRow) h2 fun r hr=>row_w h1 (h3 r hr)
 simp only[wRows,wRowS,List.sum_cons,List.sum_append,List.sum_nil]
 omega
theorem db_w {d:GDb} (h:dbOk d=true):(wDb d).sum≤100000:=by
 have h1:=catOk_ok (dbOk_cat h)
 have h2:=dbOk_len h
 have a1:=sumF (w:=wTable) h1.2.1 fun t ht=>table_w (h1.2.2 t ht).1
 have a2:=sumF (w:=wRows) (k:=6) (B:=15000) (l:=d.fData) (by omega) fun x hx=>by
  obtain ⟨t,_,ht⟩:=dbOk_rows h x hx
  exact rows_w ht
 simp only[wDb,wCat,wTableS,wRowsS,List.sum_cons,List.sum_append,List.sum_nil]
 omega
theorem of_sum {l:List Nat} (h:l.sum≤1048576):(∀n∈l,n≤1048576)∧l.sum≤1099511627776:=⟨fun n hn=>by have:=memS hn;omega,by omega⟩
theorem db_r0 {d:GDb} (h:dbOk d=true):(∀n∈wDb d,n≤1048576)∧(wDb d).sum≤1099511627776:=of_sum (by have:=db_w h;omega)
end Go.Proofs.YteeolohhmfjafaaGreat
namespace Go.Proofs.YteeolohhmfjafaaGreat
open Go Go.Proofs Go.Sm Go.RowKit Go.Lib
set_option linter.unusedVariables false
set_option linter.unusedSimpArgs false
set_option maxRecDepth 100000 in
theorem insA_Rows (b n c vb vc:Nat) (vs:List Value) (w:World) (hroom:n+1≤c) (hc63:c≤9223372036854775807)
  (hvl:vs.length=1) (hsp: ∀j,j<1→(w.cell? ⟨b,n+j,none⟩).isSome=true) (hfz: ∀j,j<1→w.frozen? ⟨b,n+j,none⟩=false)
  (hvs: ∀j v,vs[j]? =some v→w.cell? ⟨vb,j,none⟩=some v) (h1v: ∀v∈vs,v.oneCell'=true):
  Calls Tryz.prog 313 #[.slice (some ⟨b,0,none⟩) n c,.int .i64 n,.slice (some ⟨vb,0,none⟩) 1 vc] w fun e w'=>
   e= .returned (.slice (some ⟨b,0,none⟩) (n+1) c)∧w'=w.setCells b (n) vs:=by
 have tS:Tryz.prog.underlying 37=some (.slice 205):=by kernel_rfl
 have t3:Tryz.prog.underlying 3=some (.int .i64):=by kernel_rfl
 have t4:Tryz.prog.underlying 4=some .bool:=by kernel_rfl
 have uS:=run_underlying tS;have u3:=run_underlying t3;have u4:=run_underlying t4
 have hsrc:Src Tryz.prog 1 37 (.slice (some ⟨vb,0,none⟩) 1 vc) 1 vs w:=Src.ofSlice w tS ⟨vb,0,none⟩ 1 vc vs (by omega) (fun j u hj=>by rw[Addr.add_lit,Nat.zero_add];exact hvs j u hj) h1v
 obtain ⟨i0,hi0,hz0,hzs,hzb⟩:=info_parts (show (Tryz.prog.info? 205).map (fun i=>(i.zero,i.size,i.bytes))=some (some (.agg #[.slice none 0 0]:Value),1,24) by kernel_rfl)
 have zE: ∀w,(Go.sizeOf 205).run Tryz.prog w= .ok 1 w:=fun w=>by simp[Go.sizeOf,typeInfo,hi0,hzs]
 have hrun: ∀ty,(Builtin.append_ #[37,37] ty #[.slice (some ⟨b,0,none⟩) n c,.slice (some ⟨vb,0,none⟩) 1 vc]).run Tryz.prog w=_:=fun ty=>
  run_append_room_src w 37 37 ty 205 i0 tS hi0 b 0 n c _ 1 vs (by rw[hzs];exact hsrc) hroom (by simp only[hvl,hzs,Nat.zero_add,Nat.mul_one];exact hsp) (by simp only[hvl,hzs,Nat.zero_add,Nat.mul_one];exact hfz)
 rw[hzs,Nat.zero_add] at hrun
 try rw[Nat.mul_one] at hrun
 go_enter Tryz.func313,Tryz.ntmps313
 go_wp2_with (at_builtin;refine Lib.wpList_append_run _ rfl _ _ _ _ rfl _ _ rfl rfl _ _ (hrun _) ?_)
 go_ret
 exact ⟨rfl,rfl⟩
set_option maxRecDepth 100000 in
theorem insB_Rows (base:Option Addr) (n c vb vc:Nat) (cs vs:List Value) (w:World) (hnc:n≤c) (hroom:c<n+1) (hbig:(n+1)*24≤140737488355328)
  (hcl:cs.length=n) (hvl:vs.length=1) (hnil:base=none→n=0)
  (hcs: ∀a,base=some a→ ∀j v,cs[j]? =some v→w.cell? (a.add j)=some v)
  (hvs: ∀j v,vs[j]? =some v→w.cell? ⟨vb,j,none⟩=some v) (h1v: ∀v∈vs,v.oneCell'=true):
  Calls Tryz.prog 313 #[.slice base n c,.int .i64 n,.slice (some ⟨vb,0,none⟩) 1 vc] w fun e w'=>
   e= .returned (.slice (some ⟨w.heap.size,0,none⟩) (n+1) (grownCap w (n+1) c 205))∧
   w'=w.drew.alloc (.cells ((cs++vs).toArray++Builtin.zeroCells (.agg #[.slice none 0 0]:Value).cells (grownCap w (n+1) c 205- (n+1))) 205):=by
 have tS:Tryz.prog.underlying 37=some (.slice 205):=by kernel_rfl
 have t3:Tryz.prog.underlying 3=some (.int .i64):=by kernel_rfl
 have t4:Tryz.prog.underlying 4=some .bool:=by kernel_rfl
 have uS:=run_underlying tS;have u3:=run_underlying t3;have u4:=run_underlying t4
 obtain ⟨i0,hi0,hz0,hzs,hzb⟩:=info_parts (show (Tryz.prog.info? 205).map (fun i=>(i.zero,i.size,i.bytes))=some (some (.agg #[.slice none 0 0]:Value),1,24) by kernel_rfl)
 have zE: ∀w,(Go.sizeOf 205).run Tryz.prog w= .ok 1 w:=fun w=>by simp[Go.sizeOf,typeInfo,hi0,hzs]
 have hsrc:Src Tryz.prog i0.size 37 (.slice (some ⟨vb,0,none⟩) 1 vc) 1 vs w:=by
  rw[hzs]
  exact Src.ofSlice w tS ⟨vb,0,none⟩ 1 vc vs (by omega) (fun j u hj=>by rw[Addr.add_lit,Nat.zero_add];exact hvs j u hj) h1v
 have hold:(Builtin.firstCells i0.size n (.slice base n c)).run Tryz.prog w.drew= .ok cs.toArray w.drew:=by
  rw[hzs]
  cases base with
  |none=>
   have h0:=hnil rfl
   subst h0
   try rw[Nat.zero_mul] at hcl
   rw[List.length_eq_zero_iff.1 hcl]
   exact run_firstCells_none w.drew 1 0 0 c
  |some a=>exact run_firstCells_some w.drew 1 n a n c cs (by omega) (fun j v hj=>hcs a rfl j v hj)
 have hrun: ∀ty,(Builtin.append_ #[37,37] ty #[.slice base n c,.slice (some ⟨vb,0,none⟩) 1 vc]).run Tryz.prog w=_:=fun ty=>
  run_append_grow_src w 37 37 ty 205 i0 _ tS hi0 hz0 base n c cs hold _ 1 vs hsrc hroom (by omega) (by rw[hzb];exact growslice_fits hroom hbig)
 clear hi0 hz0 hzs hzb
 go_enter Tryz.func313,Tryz.ntmps313
 cases base with
 |none=>
  have h0:=hnil rfl
  subst h0
  go_wp2_with (at_builtin;refine Lib.wpList_append_run _ rfl _ _ _ _ rfl _ _ rfl rfl _ _ (hrun _) ?_)
  go_ret
  exact ⟨rfl,rfl⟩
 |some a=>
  obtain ⟨ab,ao,asp⟩:=a
  go_wp2_with (at_builtin;refine Lib.wpList_append_run _ rfl _ _ _ _ rfl _ _ rfl rfl _ _ (hrun _) ?_)
  all_goals (go_ret;exact ⟨rfl,rfl⟩)
set_option maxRecDepth 100000 in
theorem insC_Rows (b n c i vb vc:Nat) (cs vs:List Value) (w:World) (hi:i<n) (hroom:n+1≤c) (hc63:c≤9223372036854775807) (hvb:vb≠b)
  (hcl:cs.length=n) (hvl:vs.length=1)
  (hcs: ∀j v,cs[j]? =some v→w.cell? ⟨b,j,none⟩=some v) (hsp: ∀j,j< (n+1)→(w.cell? ⟨b,j,none⟩).isSome=true) (hfz: ∀j,j< (n+1)→w.frozen? ⟨b,j,none⟩=false)
  (hvs: ∀j v,vs[j]? =some v→w.cell? ⟨vb,j,none⟩=some v) (h1c: ∀v∈cs,v.oneCell'=true) (h1v: ∀v∈vs,v.oneCell'=true)
  (tA tB:TypeId) (kA kB:Nat) (hsa:w.shape? vb=some (tA,kA)) (hsb:w.shape? b=some (tB,kB)) (hkB:kB≠0) (hfa:w.frozen? ⟨vb,0,none⟩=false) (hfe:w.frozen? ⟨vb,kA,none⟩=false):
  Calls Tryz.prog 313 #[.slice (some ⟨b,0,none⟩) n c,.int .i64 i,.slice (some ⟨vb,0,none⟩) 1 vc] w fun e w'=>
   e= .returned (.slice (some ⟨b,0,none⟩) (n+1) c)∧w'=(w.drew.setCells b ((i+1)) (cs.drop (i))).setCells b (i) vs:=by
 have tS:Tryz.prog.underlying 37=some (.slice 205):=by kernel_rfl
 have t3:Tryz.prog.underlying 3=some (.int .i64):=by kernel_rfl
 have t4:Tryz.prog.underlying 4=some .bool:=by kernel_rfl
 have uS:=run_underlying tS;have u3:=run_underlying t3;have u4:=run_underlying t4
 obtain ⟨i0,hi0,hz0,hzs,hzb⟩:=info_parts (show (Tryz.prog.info? 205).map (fun i=>(i.zero,i.size,i.bytes))=some (some (.agg #[.slice none 0 0]:Value),1,24) by kernel_rfl)
 have zE: ∀w,(Go.sizeOf 205).run Tryz.prog w= .ok 1 w:=fun w=>by simp[Go.sizeOf,typeInfo,hi0,hzs]
 have hsz:(Tryz.prog.info? 205).map (·.size)=some 1:=by rw[hi0];simp[hzs]
 have hz2: ¬((i:Int)=(n:Int)):=by omega
 have hov: ∀lb cb,(callFunc 393 #[.slice (some ⟨vb,0,none⟩) 1 vc,.slice (some ⟨b,(i+1),none⟩) lb cb]).run Tryz.prog w= .ok (.value (.bool false)) w:=fun lb cb=>by
  rw[run_callFunc_extern Tryz.func393 (by kernel_rfl) (by kernel_rfl) (by kernel_rfl) (e:=Extern.SlicesOverlaps.overlaps #[37,37] #[4]) (by kernel_rfl),
   Lib.run_overlaps_apart w 37 4 205 tS 1 zE ⟨vb,0,none⟩ ⟨b,(i+1),none⟩ 1 vc lb cb hvb tA tB kA kB hsa hsb hkB hfa hfe]
  rfl
 have hdl:(cs.drop (i)).length=(n-i):=by rw[List.length_drop,hcl];try rw[Nat.sub_mul]
 have mixed:=hm
 have hw1:IntKind.i64.wrap ((i:Int)+1)=(i:Int)+1:=by rw[IntKind.wrap_i64];omega
 have hb1:(0:Int)≤(i:Int)+1:=by omega
 have hin:i≤n:=by omega
 have htn:((i:Int)+1).toNat=i+1:=by omega
 have hb2: ¬(c=i+1):=by omega
 have hb3:(i:Int)≤(n:Int)+1:=by omega
 have hb4: ¬(c=i):=by omega
 have hcp1: ∀ty dc sc,(Builtin.copy_ #[37,37] ty #[.slice (some ⟨b,(i+1),none⟩) (n-i) dc,.slice (some ⟨b,i,none⟩) (n+1-i) sc]).run Tryz.prog w.drew= .ok (goInt ((n-i:Nat):Int)) (w.drew.setCells b ((i+1)) (cs.drop (i))):=fun ty dc sc=>
  run_copy_rows w.drew _ _ ty 205 1 b ((i+1)) (n-i) dc ⟨b,i,none⟩ (n+1-i) sc (n-i) (cs.drop (i)) tS hsz (by simp only[Nat.min_def];split<;>omega) (by omega)
   (fun j v hj=>by rw[Addr.add_lit];exact hcs (i+j) v (by rwa [List.getElem?_drop] at hj))
   (fun j hj=>hsp _ (by omega)) (fun j hj=>hfz _ (by omega)) (fun v hv=>h1c v (List.mem_of_mem_drop hv))
 obtain ⟨W1,hW1⟩: ∃W1,W1=w.drew.setCells b ((i+1)) (cs.drop (i)):=⟨_,rfl⟩
 have hsp1: ∀k,k< (n+1)→(W1.cell? ⟨b,k,none⟩).isSome=true:=fun k hk=>by
  rw[hW1]
  exact isSome_setCells b (cs.drop (i)) ((i+1)) w.drew (fun j hj=>hsp _ (by rw[hdl] at hj;omega)) k (hsp k hk)
 have hcp2: ∀ (W:World),(∀x,W.cell? x=W1.cell? x)→(∀x,W.frozen? x=W1.frozen? x)→ ∀ty dc,(Builtin.copy_ #[37,37] ty #[.slice (some ⟨b,i,none⟩) (n+1-i) dc,.slice (some ⟨vb,0,none⟩) 1 vc]).run Tryz.prog W= .ok (goInt 1) (W.setCells b (i) vs):=fun W hWc hWf ty dc=>
  run_copy_rows W _ _ ty 205 1 b (i) (n+1-i) dc ⟨vb,0,none⟩ 1 vc 1 vs tS hsz (by simp only[Nat.min_def];split<;>omega) (by rw[hvl])
   (fun j v hj=>by
    rw[Addr.add_lit,Nat.zero_add,hWc,hW1,World.cell?_setCells_out b _ _ _ _ (fun h _=>absurd h hvb)]
    exact hvs j v hj)
   (fun j hj=>by rw[hWc];exact hsp1 _ (by omega)) (fun j hj=>by rw[hWf,hW1,World.frozen?_setCells];exact hfz _ (by omega)) h1v
 rw[←hW1] at hcp1
 clear hi0 hz0 hzs hzb
 go_enter Tryz.func313,Tryz.ntmps313
 go_wp2_with (simp only[hov])
 go_region_law_o (refine step_copy_runI rfl _ _ 37 37 rfl _ _ (by simp[Act.eval,Act.put]) (by simp[Act.eval,Act.put]) (hcp1 _ _ _) ?_)
 go_wp2_with (at_builtin;refine wpList_copy_runI _ rfl _ _ 37 37 rfl _ _ rfl rfl (hcp2 _ (fun _=>rfl) (fun _=>rfl) _ _) ?_)
 go_ret
 first|exact ⟨rfl,rfl⟩|exact ⟨rfl,by rw[hW1]⟩
set_option maxRecDepth 100000 in
theorem insD_Rows (b n c i vb vc:Nat) (cs vs:List Value) (w:World) (hi:i<n) (hnc:n≤c) (hroom:c<n+1) (hbig:(n+1)*24≤140737488355328)
  (hcl:cs.length=n) (hvl:vs.length=1)
  (hcs: ∀j v,cs[j]? =some v→w.cell? ⟨b,j,none⟩=some v)
  (hvs: ∀j v,vs[j]? =some v→w.cell? ⟨vb,j,none⟩=some v) (h1c: ∀v∈cs,v.oneCell'=true) (h1v: ∀v∈vs,v.oneCell'=true):
  Calls Tryz.prog 313 #[.slice (some ⟨b,0,none⟩) n c,.int .i64 i,.slice (some ⟨vb,0,none⟩) 1 vc] w fun e w'=>
   e= .returned (.slice (some ⟨w.heap.size,0,none⟩) (n+1) (grownCap w (n+1) c 205))∧
   w'=(((w.alloc (.cells ((cs.take (i)).toArray++Builtin.zeroCells (.agg #[.slice none 0 0]:Value).cells (n+1-i)++Builtin.zeroCells (.agg #[.slice none 0 0]:Value).cells (grownCap w (n+1) c 205- (n+1))) 205)).drew.setCells w.heap.size (i) vs).drew).setCells w.heap.size ((i+1)) (cs.drop (i)):=by
 have tS:Tryz.prog.underlying 37=some (.slice 205):=by kernel_rfl
 have t3:Tryz.prog.underlying 3=some (.int .i64):=by kernel_rfl
 have t4:Tryz.prog.underlying 4=some .bool:=by kernel_rfl
 have uS:=run_underlying tS;have u3:=run_underlying t3;have u4:=run_underlying t4
 obtain ⟨i0,hi0,hz0,hzs,hzb⟩:=info_parts (show (Tryz.prog.info? 205).map (fun i=>(i.zero,i.size,i.bytes))=some (some (.agg #[.slice none 0 0]:Value),1,24) by kernel_rfl)
 have zE: ∀w,(Go.sizeOf 205).run Tryz.prog w= .ok 1 w:=fun w=>by simp[Go.sizeOf,typeInfo,hi0,hzs]
 have hsz:(Tryz.prog.info? 205).map (·.size)=some 1:=by rw[hi0];simp[hzs]
 have mixed:=hm
 have hz2: ¬((i:Int)=(n:Int)):=by omega
 have hz3:(c:Int)< (n:Int)+1:=by omega
 have hbw:b<w.heap.size:=block_lt_of_cell (hcs 0 _ (List.getElem?_eq_getElem (by omega)))
 have hvw:vb<w.heap.size:=block_lt_of_cell (hvs 0 _ (List.getElem?_eq_getElem (by omega)))
 have hkk:(n:Int)+1- (i:Int)=((n+1-i:Nat):Int):=by omega
 have hik:i+(n+1-i)=n+1:=by omega
 have hold:(Builtin.firstCells i0.size i (.slice (some ⟨b,0,none⟩) i c)).run Tryz.prog w.drew= .ok (cs.take (i)).toArray w.drew:=by
  rw[hzs]
  exact run_firstCells_some w.drew 1 i ⟨b,0,none⟩ i c (cs.take (i)) (by rw[List.length_take];omega) (fun j v hj=>by
   rw[Addr.add_lit,Nat.zero_add]
   rw[List.getElem?_take] at hj
   split at hj
   ·exact hcs j v hj
   ·cases hj)
 have hrz: ∀ty,(Builtin.append_ #[37,3] ty #[.slice (some ⟨b,0,none⟩) i c,.int .i64 ((n:Int)+1- (i:Int))]).run Tryz.prog w=
   .ok (.slice (some ⟨w.heap.size,0,none⟩) (n+1) (grownCap w (n+1) c 205)) (w.drew.alloc (.cells ((cs.take (i)).toArray++Builtin.zeroCells (.agg #[.slice none 0 0]:Value).cells (n+1-i)++Builtin.zeroCells (.agg #[.slice none 0 0]:Value).cells (grownCap w (n+1) c 205- (n+1))) 205)):=fun ty=>by
  have h:=Lib.run_append_grow_zeros w 37 3 ty 205 i0 _ .i64 .i64 tS t3 hi0 hz0 (some ⟨b,0,none⟩) i c (cs.take (i)) hold (n+1-i) (by omega) (by omega) (by omega) (by omega) (by rw[hzb];omega) (by rw[hzb,hik];exact growslice_fits hroom hbig)
  rw[hik] at h
  rw[hkk]
  exact h
 obtain ⟨G,hG⟩: ∃G,G=grownCap w (n+1) c 205:=⟨_,rfl⟩
 obtain ⟨ROW,hROW⟩: ∃ROW:Array Value,ROW=(cs.take (i)).toArray++Builtin.zeroCells (.agg #[.slice none 0 0]:Value).cells (n+1-i)++Builtin.zeroCells (.agg #[.slice none 0 0]:Value).cells (G- (n+1)):=⟨_,rfl⟩
 rw[←hG] at hrz⊢
 rw[←hROW] at hrz⊢
 have hRl:(n+1)≤ROW.size:=by
  rw[hROW]
  simp only[Array.size_append,List.size_toArray,List.length_take,hcl,size_zeroCells,(show (.agg #[.slice none 0 0]:Value).cells.size=1 by kernel_rfl)]
  omega
 obtain ⟨W1,hW1⟩: ∃W1,W1=w.drew.alloc (.cells ROW 205):=⟨_,rfl⟩
 rw[←hW1] at hrz
 have hN: ∀j,j< (n+1)→(W1.cell? ⟨w.heap.size,j,none⟩).isSome=true:=fun j hj=>by
  rw[hW1,World.cell?_alloc_at (w:=w.drew) ROW _ w.heap.size j rfl,Array.getElem?_eq_getElem (by omega)];rfl
 have hNf: ∀j,W1.frozen? ⟨w.heap.size,j,none⟩=false:=fun j=>by rw[hW1];exact World.frozen?_alloc_at (w:=w.drew) ROW _ w.heap.size j rfl
 have hOb: ∀j v,w.cell? ⟨b,j,none⟩=some v→W1.cell? ⟨b,j,none⟩=some v:=fun j v h=>by rw[hW1,World.cell?_alloc_past (w:=w.drew) _ b j hbw];exact h
 have hOv: ∀j v,w.cell? ⟨vb,j,none⟩=some v→W1.cell? ⟨vb,j,none⟩=some v:=fun j v h=>by rw[hW1,World.cell?_alloc_past (w:=w.drew) _ vb j hvw];exact h
 have hcpA: ∀ (W:World),(∀x,W.cell? x=W1.cell? x)→(∀x,W.frozen? x=W1.frozen? x)→ ∀ty dc,(Builtin.copy_ #[37,37] ty #[.slice (some ⟨w.heap.size,i,none⟩) (n+1-i) dc,.slice (some ⟨vb,0,none⟩) 1 vc]).run Tryz.prog W= .ok (goInt 1) (W.setCells w.heap.size (i) vs):=fun W hWc hWf ty dc=>
  run_copy_rows W _ _ ty 205 1 w.heap.size (i) (n+1-i) dc ⟨vb,0,none⟩ 1 vc 1 vs tS hsz (by simp only[Nat.min_def];split<;>omega) (by rw[hvl])
   (fun j v hj=>by rw[Addr.add_lit,Nat.zero_add,hWc];exact hOv _ v (hvs j v hj))
   (fun j hj=>by rw[hWc];exact hN _ (by omega)) (fun j hj=>by rw[hWf];exact hNf _) h1v
 have hGn:n+1≤G:=by rw[hG];exact grownCap_ge w _ _ _
 have hG63:G≤9223372036854775807:=by
  have:=grownCap_le_maxLen w (n+1) c 205 (by unfold maxLen;omega)
  rw[←hG] at this
  unfold maxLen at this
  omega
 have hGi: ¬(G=i):=by omega
 have hGim: ¬(G=i+1):=by omega
 have hci: ¬(c=i):=by omega
 have hbN:b≠w.heap.size:=by omega
 have hdl:(cs.drop (i)).length=(n-i):=by rw[List.length_drop,hcl];try rw[Nat.sub_mul]
 have hcpB: ∀ (W:World),(∀x,W.cell? x=(W1.setCells w.heap.size (i) vs).cell? x)→(∀x,W.frozen? x=(W1.setCells w.heap.size (i) vs).frozen? x)→ ∀ty dc sc,(Builtin.copy_ #[37,37] ty #[.slice (some ⟨w.heap.size,(i+1),none⟩) (n-i) dc,.slice (some ⟨b,i,none⟩) (n-i) sc]).run Tryz.prog W= .ok (goInt ((n-i:Nat):Int)) (W.setCells w.heap.size ((i+1)) (cs.drop (i))):=fun W hWc hWf ty dc sc=>
  run_copy_rows W _ _ ty 205 1 w.heap.size ((i+1)) (n-i) dc ⟨b,i,none⟩ (n-i) sc (n-i) (cs.drop (i)) tS hsz (by simp only[Nat.min_def];split<;>omega) (by omega)
   (fun j v hj=>by
    rw[Addr.add_lit,hWc,World.cell?_setCells_out _ _ _ _ _ (fun h _=>absurd h hbN)]
    exact hOb _ v (hcs (i+j) v (by rwa [List.getElem?_drop] at hj)))
   (fun j hj=>by rw[hWc];exact isSome_setCells w.heap.size vs (i) W1 (fun t ht=>hN _ (by omega)) _ (hN _ (by omega)))
   (fun j hj=>by rw[hWf,World.frozen?_setCells];exact hNf _) (fun v hv=>h1c v (List.mem_of_mem_drop hv))
 subst hW1
 have hE1: ∀x,((w.alloc (.cells ROW 205)).drew).cell? x=(w.drew.alloc (.cells ROW 205)).cell? x:=fun x=>rfl
 have hE2: ∀x,((w.alloc (.cells ROW 205)).drew).frozen? x=(w.drew.alloc (.cells ROW 205)).frozen? x:=fun x=>rfl
 have hF1: ∀x,(((w.alloc (.cells ROW 205)).drew.setCells w.heap.size (i) vs).drew).cell? x=((w.drew.alloc (.cells ROW 205)).setCells w.heap.size (i) vs).cell? x:=fun x=>rfl
 have hF2: ∀x,(((w.alloc (.cells ROW 205)).drew.setCells w.heap.size (i) vs).drew).frozen? x=((w.drew.alloc (.cells ROW 205)).setCells w.heap.size (i) vs).frozen? x:=fun x=>rfl
 have hw1:IntKind.i64.wrap ((i:Int)+1)=(i:Int)+1:=by rw[IntKind.wrap_i64];omega
 have hb1:(0:Int)≤(i:Int)+1:=by omega
 have hin:i≤n:=by omega
 have htn:((i:Int)+1).toNat=i+1:=by omega
 have hb3:(i:Int)≤(n:Int):=by omega
 clear hkk hik hold hROW hG hRl hi0 hz0 hzs hzb
 go_enter Tryz.func313,Tryz.ntmps313
 go_wp2_with (first
  |(at_builtin;refine Lib.wpList_append_run _ rfl _ _ _ _ rfl _ _ rfl rfl _ _ (hrz _) ?_)
  |(at_builtin;refine wpList_copy_runI _ rfl _ _ 37 37 rfl _ _ rfl rfl (hcpA _ hE1 hE2 _ _) ?_)
  |(at_builtin;refine wpList_copy_runI _ rfl _ _ 37 37 rfl _ _ rfl rfl (hcpB _ (fun _=>rfl) (fun _=>rfl) _ _ _) ?_))
 go_region_law_o (refine step_copy_runI rfl _ _ 37 37 rfl (.slice (some ⟨w.heap.size,(i+1),none⟩) (n-i) (G- (i+1))) (.slice (some ⟨b,i,none⟩) (n-i) (c-i)) (by simp[Act.eval,Act.put]) (by simp[Act.eval,Act.put]) (hcpB _ hF1 hF2 3 (G- (i+1)) (c-i)) ?_)
 go_wp2
 go_ret
 exact ⟨rfl,rfl⟩
theorem rawIns_Rows:RawIns Tryz.prog 313 205 1 24:=
 rawIns_of (.agg #[.slice none 0 0]:Value) (by decide) (by decide) (by kernel_rfl) (fun b n c vb vc vs w=>by simpa only[Nat.mul_one] using insA_Rows b n c vb vc vs w) (fun base n c vb vc cs vs w=>by simpa only[Nat.mul_one] using insB_Rows base n c vb vc cs vs w) (fun b n c i vb vc cs vs w=>by simpa only[Nat.mul_one] using insC_Rows b n c i vb vc cs vs w) (fun b n c i vb vc cs vs w=>by simpa only[Nat.mul_one] using insD_Rows b n c i vb vc cs vs w)
set_option maxRecDepth 100000 in
theorem insA_Table (b n c vb vc:Nat) (vs:List Value) (w:World) (hroom:n+1≤c) (hc63:c≤9223372036854775807)
  (hvl:vs.length=3) (hsp: ∀j,j<3→(w.cell? ⟨b,n*3+j,none⟩).isSome=true) (hfz: ∀j,j<3→w.frozen? ⟨b,n*3+j,none⟩=false)
  (hvs: ∀j v,vs[j]? =some v→w.cell? ⟨vb,j,none⟩=some v) (h1v: ∀v∈vs,v.oneCell'=true):
  Calls Tryz.prog 389 #[.slice (some ⟨b,0,none⟩) n c,.int .i64 n,.slice (some ⟨vb,0,none⟩) 1 vc] w fun e w'=>
   e= .returned (.slice (some ⟨b,0,none⟩) (n+1) c)∧w'=w.setCells b (n*3) vs:=by
 have tS:Tryz.prog.underlying 34=some (.slice 201):=by kernel_rfl
 have t3:Tryz.prog.underlying 3=some (.int .i64):=by kernel_rfl
 have t4:Tryz.prog.underlying 4=some .bool:=by kernel_rfl
 have uS:=run_underlying tS;have u3:=run_underlying t3;have u4:=run_underlying t4
 have hsrc:Src Tryz.prog 3 34 (.slice (some ⟨vb,0,none⟩) 1 vc) 1 vs w:=Src.ofSlice w tS ⟨vb,0,none⟩ 1 vc vs (by omega) (fun j u hj=>by rw[Addr.add_lit,Nat.zero_add];exact hvs j u hj) h1v
 obtain ⟨i0,hi0,hz0,hzs,hzb⟩:=info_parts (show (Tryz.prog.info? 201).map (fun i=>(i.zero,i.size,i.bytes))=some (some (.agg #[.string ⟨#[]⟩,.slice none 0 0,.slice none 0 0]:Value),3,64) by kernel_rfl)
 have zE: ∀w,(Go.sizeOf 201).run Tryz.prog w= .ok 3 w:=fun w=>by simp[Go.sizeOf,typeInfo,hi0,hzs]
 have hrun: ∀ty,(Builtin.append_ #[34,34] ty #[.slice (some ⟨b,0,none⟩) n c,.slice (some ⟨vb,0,none⟩) 1 vc]).run Tryz.prog w=_:=fun ty=>
  run_append_room_src w 34 34 ty 201 i0 tS hi0 b 0 n c _ 1 vs (by rw[hzs];exact hsrc) hroom (by simp only[hvl,hzs,Nat.zero_add,Nat.mul_one];exact hsp) (by simp only[hvl,hzs,Nat.zero_add,Nat.mul_one];exact hfz)
 rw[hzs,Nat.zero_add] at hrun
 try rw[Nat.mul_one] at hrun
 go_enter Tryz.func389,Tryz.ntmps389
 go_wp2_with (at_builtin;refine Lib.wpList_append_run _ rfl _ _ _ _ rfl _ _ rfl rfl _ _ (hrun _) ?_)
 go_ret
 exact ⟨rfl,rfl⟩
set_option maxRecDepth 100000 in
theorem insB_Table (base:Option Addr) (n c vb vc:Nat) (cs vs:List Value) (w:World) (hnc:n≤c) (hroom:c<n+1) (hbig:(n+1)*64≤140737488355328)
  (hcl:cs.length=n*3) (hvl:vs.length=3) (hnil:base=none→n=0)
  (hcs: ∀a,base=some a→ ∀j v,cs[j]? =some v→w.cell? (a.add j)=some v)
  (hvs: ∀j v,vs[j]? =some v→w.cell? ⟨vb,j,none⟩=some v) (h1v: ∀v∈vs,v.oneCell'=true):
  Calls Tryz.prog 389 #[.slice base n c,.int .i64 n,.slice (some ⟨vb,0,none⟩) 1 vc] w fun e w'=>
   e= .returned (.slice (some ⟨w.heap.size,0,none⟩) (n+1) (grownCap w (n+1) c 201))∧
   w'=w.drew.alloc (.cells ((cs++vs).toArray++Builtin.zeroCells (.agg #[.string ⟨#[]⟩,.slice none 0 0,.slice none 0 0]:Value).cells (grownCap w (n+1) c 201- (n+1))) 201):=by
 have tS:Tryz.prog.underlying 34=some (.slice 201):=by kernel_rfl
 have t3:Tryz.prog.underlying 3=some (.int .i64):=by kernel_rfl
 have t4:Tryz.prog.underlying 4=some .bool:=by kernel_rfl
 have uS:=run_underlying tS;have u3:=run_underlying t3;have u4:=run_underlying t4
 obtain ⟨i0,hi0,hz0,hzs,hzb⟩:=info_parts (show (Tryz.prog.info? 201).map (fun i=>(i.zero,i.size,i.bytes))=some (some (.agg #[.string ⟨#[]⟩,.slice none 0 0,.slice none 0 0]:Value),3,64) by kernel_rfl)
 have zE: ∀w,(Go.sizeOf 201).run Tryz.prog w= .ok 3 w:=fun w=>by simp[Go.sizeOf,typeInfo,hi0,hzs]
 have hsrc:Src Tryz.prog i0.size 34 (.slice (some ⟨vb,0,none⟩) 1 vc) 1 vs w:=by
  rw[hzs]
  exact Src.ofSlice w tS ⟨vb,0,none⟩ 1 vc vs (by omega) (fun j u hj=>by rw[Addr.add_lit,Nat.zero_add];exact hvs j u hj) h1v
 have hold:(Builtin.firstCells i0.size n (.slice base n c)).run Tryz.prog w.drew= .ok cs.toArray w.drew:=by
  rw[hzs]
  cases base with
  |none=>
   have h0:=hnil rfl
   subst h0
   try rw[Nat.zero_mul] at hcl
   rw[List.length_eq_zero_iff.1 hcl]
   exact run_firstCells_none w.drew 3 0 0 c
  |some a=>exact run_firstCells_some w.drew 3 n a n c cs (by omega) (fun j v hj=>hcs a rfl j v hj)
 have hrun: ∀ty,(Builtin.append_ #[34,34] ty #[.slice base n c,.slice (some ⟨vb,0,none⟩) 1 vc]).run Tryz.prog w=_:=fun ty=>
  run_append_grow_src w 34 34 ty 201 i0 _ tS hi0 hz0 base n c cs hold _ 1 vs hsrc hroom (by omega) (by rw[hzb];exact growslice_fits hroom hbig)
 clear hi0 hz0 hzs hzb
 go_enter Tryz.func389,Tryz.ntmps389
 cases base with
 |none=>
  have h0:=hnil rfl
  subst h0
  go_wp2_with (at_builtin;refine Lib.wpList_append_run _ rfl _ _ _ _ rfl _ _ rfl rfl _ _ (hrun _) ?_)
  go_ret
  exact ⟨rfl,rfl⟩
 |some a=>
  obtain ⟨ab,ao,asp⟩:=a
  go_wp2_with (at_builtin;refine Lib.wpList_append_run _ rfl _ _ _ _ rfl _ _ rfl rfl _ _ (hrun _) ?_)
  all_goals (go_ret;exact ⟨rfl,rfl⟩)
set_option maxRecDepth 100000 in
theorem insC_Table (b n c i vb vc:Nat) (cs vs:List Value) (w:World) (hi:i<n) (hroom:n+1≤c) (hc63:c≤9223372036854775807) (hvb:vb≠b)
  (hcl:cs.length=n*3) (hvl:vs.length=3)
  (hcs: ∀j v,cs[j]? =some v→w.cell? ⟨b,j,none⟩=some v) (hsp: ∀j,j< (n+1)*3→(w.cell? ⟨b,j,none⟩).isSome=true) (hfz: ∀j,j< (n+1)*3→w.frozen? ⟨b,j,none⟩=false)
  (hvs: ∀j v,vs[j]? =some v→w.cell? ⟨vb,j,none⟩=some v) (h1c: ∀v∈cs,v.oneCell'=true) (h1v: ∀v∈vs,v.oneCell'=true)
  (tA tB:TypeId) (kA kB:Nat) (hsa:w.shape? vb=some (tA,kA)) (hsb:w.shape? b=some (tB,kB)) (hkB:kB≠0) (hfa:w.frozen? ⟨vb,0,none⟩=false) (hfe:w.frozen? ⟨vb,kA,none⟩=false):
  Calls Tryz.prog 389 #[.slice (some ⟨b,0,none⟩) n c,.int .i64 i,.slice (some ⟨vb,0,none⟩) 1 vc] w fun e w'=>
   e= .returned (.slice (some ⟨b,0,none⟩) (n+1) c)∧w'=(w.drew.setCells b ((i+1)*3) (cs.drop (i*3))).setCells b (i*3) vs:=by
 have tS:Tryz.prog.underlying 34=some (.slice 201):=by kernel_rfl
 have t3:Tryz.prog.underlying 3=some (.int .i64):=by kernel_rfl
 have t4:Tryz.prog.underlying 4=some .bool:=by kernel_rfl
 have uS:=run_underlying tS;have u3:=run_underlying t3;have u4:=run_underlying t4
 obtain ⟨i0,hi0,hz0,hzs,hzb⟩:=info_parts (show (Tryz.prog.info? 201).map (fun i=>(i.zero,i.size,i.bytes))=some (some (.agg #[.string ⟨#[]⟩,.slice none 0 0,.slice none 0 0]:Value),3,64) by kernel_rfl)
 have zE: ∀w,(Go.sizeOf 201).run Tryz.prog w= .ok 3 w:=fun w=>by simp[Go.sizeOf,typeInfo,hi0,hzs]
 have hsz:(Tryz.prog.info? 201).map (·.size)=some 3:=by rw[hi0];simp[hzs]
 have hz2: ¬((i:Int)=(n:Int)):=by omega
 have hov: ∀lb cb,(callFunc 425 #[.slice (some ⟨vb,0,none⟩) 1 vc,.slice (some ⟨b,(i+1)*3,none⟩) lb cb]).run Tryz.prog w= .ok (.value (.bool false)) w:=fun lb cb=>by
  rw[run_callFunc_extern Tryz.func425 (by kernel_rfl) (by kernel_rfl) (by kernel_rfl) (e:=Extern.SlicesOverlaps.overlaps #[34,34] #[4]) (by kernel_rfl),
   Lib.run_overlaps_apart w 34 4 201 tS 3 zE ⟨vb,0,none⟩ ⟨b,(i+1)*3,none⟩ 1 vc lb cb hvb tA tB kA kB hsa hsb hkB hfa hfe]
  rfl
 have hdl:(cs.drop (i*3)).length=(n-i)*3:=by rw[List.length_drop,hcl];try rw[Nat.sub_mul]
 have mixed:=hm
 have hw1:IntKind.i64.wrap ((i:Int)+1)=(i:Int)+1:=by rw[IntKind.wrap_i64];omega
 have hb1:(0:Int)≤(i:Int)+1:=by omega
 have hin:i≤n:=by omega
 have htn:((i:Int)+1).toNat=i+1:=by omega
 have hb2: ¬(c=i+1):=by omega
 have hb3:(i:Int)≤(n:Int)+1:=by omega
 have hb4: ¬(c=i):=by omega
 have hcp1: ∀ty dc sc,(Builtin.copy_ #[34,34] ty #[.slice (some ⟨b,(i+1)*3,none⟩) (n-i) dc,.slice (some ⟨b,i*3,none⟩) (n+1-i) sc]).run Tryz.prog w.drew= .ok (goInt ((n-i:Nat):Int)) (w.drew.setCells b ((i+1)*3) (cs.drop (i*3))):=fun ty dc sc=>
  run_copy_rows w.drew _ _ ty 201 3 b ((i+1)*3) (n-i) dc ⟨b,i*3,none⟩ (n+1-i) sc (n-i) (cs.drop (i*3)) tS hsz (by simp only[Nat.min_def];split<;>omega) (by omega)
   (fun j v hj=>by rw[Addr.add_lit];exact hcs (i*3+j) v (by rwa [List.getElem?_drop] at hj))
   (fun j hj=>hsp _ (by omega)) (fun j hj=>hfz _ (by omega)) (fun v hv=>h1c v (List.mem_of_mem_drop hv))
 obtain ⟨W1,hW1⟩: ∃W1,W1=w.drew.setCells b ((i+1)*3) (cs.drop (i*3)):=⟨_,rfl⟩
 have hsp1: ∀k,k< (n+1)*3→(W1.cell? ⟨b,k,none⟩).isSome=true:=fun k hk=>by
  rw[hW1]
  exact isSome_setCells b (cs.drop (i*3)) ((i+1)*3) w.drew (fun j hj=>hsp _ (by rw[hdl] at hj;omega)) k (hsp k hk)
 have hcp2: ∀ (W:World),(∀x,W.cell? x=W1.cell? x)→(∀x,W.frozen? x=W1.frozen? x)→ ∀ty dc,(Builtin.copy_ #[34,34] ty #[.slice (some ⟨b,i*3,none⟩) (n+1-i) dc,.slice (some ⟨vb,0,none⟩) 1 vc]).run Tryz.prog W= .ok (goInt 1) (W.setCells b (i*3) vs):=fun W hWc hWf ty dc=>
  run_copy_rows W _ _ ty 201 3 b (i*3) (n+1-i) dc ⟨vb,0,none⟩ 1 vc 1 vs tS hsz (by simp only[Nat.min_def];split<;>omega) (by rw[hvl])
   (fun j v hj=>by
    rw[Addr.add_lit,Nat.zero_add,hWc,hW1,World.cell?_setCells_out b _ _ _ _ (fun h _=>absurd h hvb)]
    exact hvs j v hj)
   (fun j hj=>by rw[hWc];exact hsp1 _ (by omega)) (fun j hj=>by rw[hWf,hW1,World.frozen?_setCells];exact hfz _ (by omega)) h1v
 rw[←hW1] at hcp1
 clear hi0 hz0 hzs hzb
 go_enter Tryz.func389,Tryz.ntmps389
 go_wp2_with (simp only[hov])
 go_region_law_o (refine step_copy_runI rfl _ _ 34 34 rfl _ _ (by simp[Act.eval,Act.put]) (by simp[Act.eval,Act.put]) (hcp1 _ _ _) ?_)
 go_wp2_with (at_builtin;refine wpList_copy_runI _ rfl _ _ 34 34 rfl _ _ rfl rfl (hcp2 _ (fun _=>rfl) (fun _=>rfl) _ _) ?_)
 go_ret
 first|exact ⟨rfl,rfl⟩|exact ⟨rfl,by rw[hW1]⟩
set_option maxRecDepth 100000 in
theorem insD_Table (b n c i vb vc:Nat) (cs vs:List Value) (w:World) (hi:i<n) (hnc:n≤c) (hroom:c<n+1) (hbig:(n+1)*64≤140737488355328)
  (hcl:cs.length=n*3) (hvl:vs.length=3)
  (hcs: ∀j v,cs[j]? =some v→w.cell? ⟨b,j,none⟩=some v)
  (hvs: ∀j v,vs[j]? =some v→w.cell? ⟨vb,j,none⟩=some v) (h1c: ∀v∈cs,v.oneCell'=true) (h1v: ∀v∈vs,v.oneCell'=true):
  Calls Tryz.prog 389 #[.slice (some ⟨b,0,none⟩) n c,.int .i64 i,.slice (some ⟨vb,0,none⟩) 1 vc] w fun e w'=>
   e= .returned (.slice (some ⟨w.heap.size,0,none⟩) (n+1) (grownCap w (n+1) c 201))∧
   w'=(((w.alloc (.cells ((cs.take (i*3)).toArray++Builtin.zeroCells (.agg #[.string ⟨#[]⟩,.slice none 0 0,.slice none 0 0]:Value).cells (n+1-i)++Builtin.zeroCells (.agg #[.string ⟨#[]⟩,.slice none 0 0,.slice none 0 0]:Value).cells (grownCap w (n+1) c 201- (n+1))) 201)).drew.setCells w.heap.size (i*3) vs).drew).setCells w.heap.size ((i+1)*3) (cs.drop (i*3)):=by
 have tS:Tryz.prog.underlying 34=some (.slice 201):=by kernel_rfl
 have t3:Tryz.prog.underlying 3=some (.int .i64):=by kernel_rfl
 have t4:Tryz.prog.underlying 4=some .bool:=by kernel_rfl
 have uS:=run_underlying tS;have u3:=run_underlying t3;have u4:=run_underlying t4
 obtain ⟨i0,hi0,hz0,hzs,hzb⟩:=info_parts (show (Tryz.prog.info? 201).map (fun i=>(i.zero,i.size,i.bytes))=some (some (.agg #[.string ⟨#[]⟩,.slice none 0 0,.slice none 0 0]:Value),3,64) by kernel_rfl)
 have zE: ∀w,(Go.sizeOf 201).run Tryz.prog w= .ok 3 w:=fun w=>by simp[Go.sizeOf,typeInfo,hi0,hzs]
 have hsz:(Tryz.prog.info? 201).map (·.size)=some 3:=by rw[hi0];simp[hzs]
 have mixed:=hm
 have hz2: ¬((i:Int)=(n:Int)):=by omega
 have hz3:(c:Int)< (n:Int)+1:=by omega
 have hbw:b<w.heap.size:=block_lt_of_cell (hcs 0 _ (List.getElem?_eq_getElem (by omega)))
 have hvw:vb<w.heap.size:=block_lt_of_cell (hvs 0 _ (List.getElem?_eq_getElem (by omega)))
 have hkk:(n:Int)+1- (i:Int)=((n+1-i:Nat):Int):=by omega
 have hik:i+(n+1-i)=n+1:=by omega
 have hold:(Builtin.firstCells i0.size i (.slice (some ⟨b,0,none⟩) i c)).run Tryz.prog w.drew= .ok (cs.take (i*3)).toArray w.drew:=by
  rw[hzs]
  exact run_firstCells_some w.drew 3 i ⟨b,0,none⟩ i c (cs.take (i*3)) (by rw[List.length_take];omega) (fun j v hj=>by
   rw[Addr.add_lit,Nat.zero_add]
   rw[List.getElem?_take] at hj
   split at hj
   ·exact hcs j v hj
   ·cases hj)
 have hrz: ∀ty,(Builtin.append_ #[34,3] ty #[.slice (some ⟨b,0,none⟩) i c,.int .i64 ((n:Int)+1- (i:Int))]).run Tryz.prog w=
   .ok (.slice (some ⟨w.heap.size,0,none⟩) (n+1) (grownCap w (n+1) c 201)) (w.drew.alloc (.cells ((cs.take (i*3)).toArray++Builtin.zeroCells (.agg #[.string ⟨#[]⟩,.slice none 0 0,.slice none 0 0]:Value).cells (n+1-i)++Builtin.zeroCells (.agg #[.string ⟨#[]⟩,.slice none 0 0,.slice none 0 0]:Value).cells (grownCap w (n+1) c 201- (n+1))) 201)):=fun ty=>by
  have h:=Lib.run_append_grow_zeros w 34 3 ty 201 i0 _ .i64 .i64 tS t3 hi0 hz0 (some ⟨b,0,none⟩) i c (cs.take (i*3)) hold (n+1-i) (by omega) (by omega) (by omega) (by omega) (by rw[hzb];omega) (by rw[hzb,hik];exact growslice_fits hroom hbig)
  rw[hik] at h
  rw[hkk]
  exact h
 obtain ⟨G,hG⟩: ∃G,G=grownCap w (n+1) c 201:=⟨_,rfl⟩
 obtain ⟨ROW,hROW⟩: ∃ROW:Array Value,ROW=(cs.take (i*3)).toArray++Builtin.zeroCells (.agg #[.string ⟨#[]⟩,.slice none 0 0,.slice none 0 0]:Value).cells (n+1-i)++Builtin.zeroCells (.agg #[.string ⟨#[]⟩,.slice none 0 0,.slice none 0 0]:Value).cells (G- (n+1)):=⟨_,rfl⟩
 rw[←hG] at hrz⊢
 rw[←hROW] at hrz⊢
 have hRl:(n+1)*3≤ROW.size:=by
  rw[hROW]
  simp only[Array.size_append,List.size_toArray,List.length_take,hcl,size_zeroCells,(show (.agg #[.string ⟨#[]⟩,.slice none 0 0,.slice none 0 0]:Value).cells.size=3 by kernel_rfl)]
  omega
 obtain ⟨W1,hW1⟩: ∃W1,W1=w.drew.alloc (.cells ROW 201):=⟨_,rfl⟩
 rw[←hW1] at hrz
 have hN: ∀j,j< (n+1)*3→(W1.cell? ⟨w.heap.size,j,none⟩).isSome=true:=fun j hj=>by
  rw[hW1,World.cell?_alloc_at (w:=w.drew) ROW _ w.heap.size j rfl,Array.getElem?_eq_getElem (by omega)];rfl
 have hNf: ∀j,W1.frozen? ⟨w.heap.size,j,none⟩=false:=fun j=>by rw[hW1];exact World.frozen?_alloc_at (w:=w.drew) ROW _ w.heap.size j rfl
 have hOb: ∀j v,w.cell? ⟨b,j,none⟩=some v→W1.cell? ⟨b,j,none⟩=some v:=fun j v h=>by rw[hW1,World.cell?_alloc_past (w:=w.drew) _ b j hbw];exact h
 have hOv: ∀j v,w.cell? ⟨vb,j,none⟩=some v→W1.cell? ⟨vb,j,none⟩=some v:=fun j v h=>by rw[hW1,World.cell?_alloc_past (w:=w.drew) _ vb j hvw];exact h
 have hcpA: ∀ (W:World),(∀x,W.cell? x=W1.cell? x)→(∀x,W.frozen? x=W1.frozen? x)→ ∀ty dc,(Builtin.copy_ #[34,34] ty #[.slice (some ⟨w.heap.size,i*3,none⟩) (n+1-i) dc,.slice (some ⟨vb,0,none⟩) 1 vc]).run Tryz.prog W= .ok (goInt 1) (W.setCells w.heap.size (i*3) vs):=fun W hWc hWf ty dc=>
  run_copy_rows W _ _ ty 201 3 w.heap.size (i*3) (n+1-i) dc ⟨vb,0,none⟩ 1 vc 1 vs tS hsz (by simp only[Nat.min_def];split<;>omega) (by rw[hvl])
   (fun j v hj=>by rw[Addr.add_lit,Nat.zero_add,hWc];exact hOv _ v (hvs j v hj))
   (fun j hj=>by rw[hWc];exact hN _ (by omega)) (fun j hj=>by rw[hWf];exact hNf _) h1v
 have hGn:n+1≤G:=by rw[hG];exact grownCap_ge w _ _ _
 have hG63:G≤9223372036854775807:=by
  have:=grownCap_le_maxLen w (n+1) c 201 (by unfold maxLen;omega)
  rw[←hG] at this
  unfold maxLen at this
  omega
 have hGi: ¬(G=i):=by omega
 have hGim: ¬(G=i+1):=by omega
 have hci: ¬(c=i):=by omega
 have hbN:b≠w.heap.size:=by omega
 have hdl:(cs.drop (i*3)).length=(n-i)*3:=by rw[List.length_drop,hcl];try rw[Nat.sub_mul]
 have hcpB: ∀ (W:World),(∀x,W.cell? x=(W1.setCells w.heap.size (i*3) vs).cell? x)→(∀x,W.frozen? x=(W1.setCells w.heap.size (i*3) vs).frozen? x)→ ∀ty dc sc,(Builtin.copy_ #[34,34] ty #[.slice (some ⟨w.heap.size,(i+1)*3,none⟩) (n-i) dc,.slice (some ⟨b,i*3,none⟩) (n-i) sc]).run Tryz.prog W= .ok (goInt ((n-i:Nat):Int)) (W.setCells w.heap.size ((i+1)*3) (cs.drop (i*3))):=fun W hWc hWf ty dc sc=>
  run_copy_rows W _ _ ty 201 3 w.heap.size ((i+1)*3) (n-i) dc ⟨b,i*3,none⟩ (n-i) sc (n-i) (cs.drop (i*3)) tS hsz (by simp only[Nat.min_def];split<;>omega) (by omega)
   (fun j v hj=>by
    rw[Addr.add_lit,hWc,World.cell?_setCells_out _ _ _ _ _ (fun h _=>absurd h hbN)]
    exact hOb _ v (hcs (i*3+j) v (by rwa [List.getElem?_drop] at hj)))
   (fun j hj=>by rw[hWc];exact isSome_setCells w.heap.size vs (i*3) W1 (fun t ht=>hN _ (by omega)) _ (hN _ (by omega)))
   (fun j hj=>by rw[hWf,World.frozen?_setCells];exact hNf _) (fun v hv=>h1c v (List.mem_of_mem_drop hv))
 subst hW1
 have hE1: ∀x,((w.alloc (.cells ROW 201)).drew).cell? x=(w.drew.alloc (.cells ROW 201)).cell? x:=fun x=>rfl
 have hE2: ∀x,((w.alloc (.cells ROW 201)).drew).frozen? x=(w.drew.alloc (.cells ROW 201)).frozen? x:=fun x=>rfl
 have hF1: ∀x,(((w.alloc (.cells ROW 201)).drew.setCells w.heap.size (i*3) vs).drew).cell? x=((w.drew.alloc (.cells ROW 201)).setCells w.heap.size (i*3) vs).cell? x:=fun x=>rfl
 have hF2: ∀x,(((w.alloc (.cells ROW 201)).drew.setCells w.heap.size (i*3) vs).drew).frozen? x=((w.drew.alloc (.cells ROW 201)).setCells w.heap.size (i*3) vs).frozen? x:=fun x=>rfl
 have hw1:IntKind.i64.wrap ((i:Int)+1)=(i:Int)+1:=by rw[IntKind.wrap_i64];omega
 have hb1:(0:Int)≤(i:Int)+1:=by omega
 have hin:i≤n:=by omega
 have htn:((i:Int)+1).toNat=i+1:=by omega
 have hb3:(i:Int)≤(n:Int):=by omega
 clear hkk hik hold hROW hG hRl hi0 hz0 hzs hzb
 go_enter Tryz.func389,Tryz.ntmps389
 go_wp2_with (first
  |(at_builtin;refine Lib.wpList_append_run _ rfl _ _ _ _ rfl _ _ rfl rfl _ _ (hrz _) ?_)
  |(at_builtin;refine wpList_copy_runI _ rfl _ _ 34 34 rfl _ _ rfl rfl (hcpA _ hE1 hE2 _ _) ?_)
  |(at_builtin;refine wpList_copy_runI _ rfl _ _ 34 34 rfl _ _ rfl rfl (hcpB _ (fun _=>rfl) (fun _=>rfl) _ _ _) ?_))
 go_region_law_o (refine step_copy_runI rfl _ _ 34 34 rfl (.slice (some ⟨w.heap.size,(i+1)*3,none⟩) (n-i) (G- (i+1))) (.slice (some ⟨b,i*3,none⟩) (n-i) (c-i)) (by simp[Act.eval,Act.put]) (by simp[Act.eval,Act.put]) (hcpB _ hF1 hF2 3 (G- (i+1)) (c-i)) ?_)
 go_wp2
 go_ret
 exact ⟨rfl,rfl⟩
theorem rawIns_Table:RawIns Tryz.prog 389 201 3 64:=
 rawIns_of (.agg #[.string ⟨#[]⟩,.slice none 0 0,.slice none 0 0]:Value) (by decide) (by decide) (by kernel_rfl) (fun b n c vb vc vs w=>insA_Table b n c vb vc vs w) (fun base n c vb vc cs vs w=>insB_Table base n c vb vc cs vs w) (fun b n c i vb vc cs vs w=>insC_Table b n c i vb vc cs vs w) (fun b n c i vb vc cs vs w=>insD_Table b n c i vb vc cs vs w)
set_option maxRecDepth 100000 in
theorem insA_Row (b n c vb vc:Nat) (vs:List Value) (w:World) (hroom:n+1≤c) (hc63:c≤9223372036854775807)
  (hvl:vs.length=1) (hsp: ∀j,j<1→(w.cell? ⟨b,n+j,none⟩).isSome=true) (hfz: ∀j,j<1→w.frozen? ⟨b,n+j,none⟩=false)
  (hvs: ∀j v,vs[j]? =some v→w.cell? ⟨vb,j,none⟩=some v) (h1v: ∀v∈vs,v.oneCell'=true):
  Calls Tryz.prog 398 #[.slice (some ⟨b,0,none⟩) n c,.int .i64 n,.slice (some ⟨vb,0,none⟩) 1 vc] w fun e w'=>
   e= .returned (.slice (some ⟨b,0,none⟩) (n+1) c)∧w'=w.setCells b (n) vs:=by
 have tS:Tryz.prog.underlying 203=some (.slice 120):=by kernel_rfl
 have t3:Tryz.prog.underlying 3=some (.int .i64):=by kernel_rfl
 have t4:Tryz.prog.underlying 4=some .bool:=by kernel_rfl
 have uS:=run_underlying tS;have u3:=run_underlying t3;have u4:=run_underlying t4
 have hsrc:Src Tryz.prog 1 203 (.slice (some ⟨vb,0,none⟩) 1 vc) 1 vs w:=Src.ofSlice w tS ⟨vb,0,none⟩ 1 vc vs (by omega) (fun j u hj=>by rw[Addr.add_lit,Nat.zero_add];exact hvs j u hj) h1v
 obtain ⟨i0,hi0,hz0,hzs,hzb⟩:=info_parts (show (Tryz.prog.info? 120).map (fun i=>(i.zero,i.size,i.bytes))=some (some (.agg #[.slice none 0 0]:Value),1,24) by kernel_rfl)
 have zE: ∀w,(Go.sizeOf 120).run Tryz.prog w= .ok 1 w:=fun w=>by simp[Go.sizeOf,typeInfo,hi0,hzs]
 have hrun: ∀ty,(Builtin.append_ #[203,203] ty #[.slice (some ⟨b,0,none⟩) n c,.slice (some ⟨vb,0,none⟩) 1 vc]).run Tryz.prog w=_:=fun ty=>
  run_append_room_src w 203 203 ty 120 i0 tS hi0 b 0 n c _ 1 vs (by rw[hzs];exact hsrc) hroom (by simp only[hvl,hzs,Nat.zero_add,Nat.mul_one];exact hsp) (by simp only[hvl,hzs,Nat.zero_add,Nat.mul_one];exact hfz)
 rw[hzs,Nat.zero_add] at hrun
 try rw[Nat.mul_one] at hrun
 go_enter Tryz.func398,Tryz.ntmps398
 go_wp2_with (at_builtin;refine Lib.wpList_append_run _ rfl _ _ _ _ rfl _ _ rfl rfl _ _ (hrun _) ?_)
 go_ret
 exact ⟨rfl,rfl⟩
set_option maxRecDepth 100000 in
theorem insB_Row (base:Option Addr) (n c vb vc:Nat) (cs vs:List Value) (w:World) (hnc:n≤c) (hroom:c<n+1) (hbig:(n+1)*24≤140737488355328)
  (hcl:cs.length=n) (hvl:vs.length=1) (hnil:base=none→n=0)
  (hcs: ∀a,base=some a→ ∀j v,cs[j]? =some v→w.cell? (a.add j)=some v)
  (hvs: ∀j v,vs[j]? =some v→w.cell? ⟨vb,j,none⟩=some v) (h1v: ∀v∈vs,v.oneCell'=true):
  Calls Tryz.prog 398 #[.slice base n c,.int .i64 n,.slice (some ⟨vb,0,none⟩) 1 vc] w fun e w'=>
   e= .returned (.slice (some ⟨w.heap.size,0,none⟩) (n+1) (grownCap w (n+1) c 120))∧
   w'=w.drew.alloc (.cells ((cs++vs).toArray++Builtin.zeroCells (.agg #[.slice none 0 0]:Value).cells (grownCap w (n+1) c 120- (n+1))) 120):=by
 have tS:Tryz.prog.underlying 203=some (.slice 120):=by kernel_rfl
 have t3:Tryz.prog.underlying 3=some (.int .i64):=by kernel_rfl
 have t4:Tryz.prog.underlying 4=some .bool:=by kernel_rfl
 have uS:=run_underlying tS;have u3:=run_underlying t3;have u4:=run_underlying t4
 obtain ⟨i0,hi0,hz0,hzs,hzb⟩:=info_parts (show (Tryz.prog.info? 120).map (fun i=>(i.zero,i.size,i.bytes))=some (some (.agg #[.slice none 0 0]:Value),1,24) by kernel_rfl)
 have zE: ∀w,(Go.sizeOf 120).run Tryz.prog w= .ok 1 w:=fun w=>by simp[Go.sizeOf,typeInfo,hi0,hzs]
 have hsrc:Src Tryz.prog i0.size 203 (.slice (some ⟨vb,0,none⟩) 1 vc) 1 vs w:=by
  rw[hzs]
  exact Src.ofSlice w tS ⟨vb,0,none⟩ 1 vc vs (by omega) (fun j u hj=>by rw[Addr.add_lit,Nat.zero_add];exact hvs j u hj) h1v
 have hold:(Builtin.firstCells i0.size n (.slice base n c)).run Tryz.prog w.drew= .ok cs.toArray w.drew:=by
  rw[hzs]
  cases base with
  |none=>
   have h0:=hnil rfl
   subst h0
   try rw[Nat.zero_mul] at hcl
   rw[List.length_eq_zero_iff.1 hcl]
   exact run_firstCells_none w.drew 1 0 0 c
  |some a=>exact run_firstCells_some w.drew 1 n a n c cs (by omega) (fun j v hj=>hcs a rfl j v hj)
 have hrun: ∀ty,(Builtin.append_ #[203,203] ty #[.slice base n c,.slice (some ⟨vb,0,none⟩) 1 vc]).run Tryz.prog w=_:=fun ty=>
  run_append_grow_src w 203 203 ty 120 i0 _ tS hi0 hz0 base n c cs hold _ 1 vs hsrc hroom (by omega) (by rw[hzb];exact growslice_fits hroom hbig)
 clear hi0 hz0 hzs hzb
 go_enter Tryz.func398,Tryz.ntmps398
 cases base with
 |none=>
  have h0:=hnil rfl
  subst h0
  go_wp2_with (at_builtin;refine Lib.wpList_append_run _ rfl _ _ _ _ rfl _ _ rfl rfl _ _ (hrun _) ?_)
  go_ret
  exact ⟨rfl,rfl⟩
 |some a=>
  obtain ⟨ab,ao,asp⟩:=a
  go_wp2_with (at_builtin;refine Lib.wpList_append_run _ rfl _ _ _ _ rfl _ _ rfl rfl _ _ (hrun _) ?_)
  all_goals (go_ret;exact ⟨rfl,rfl⟩)
set_option maxRecDepth 100000 in
theorem insC_Row (b n c i vb vc:Nat) (cs vs:List Value) (w:World) (hi:i<n) (hroom:n+1≤c) (hc63:c≤9223372036854775807) (hvb:vb≠b)
  (hcl:cs.length=n) (hvl:vs.length=1)
  (hcs: ∀j v,cs[j]? =some v→w.cell? ⟨b,j,none⟩=some v) (hsp: ∀j,j< (n+1)→(w.cell? ⟨b,j,none⟩).isSome=true) (hfz: ∀j,j< (n+1)→w.frozen? ⟨b,j,none⟩=false)
  (hvs: ∀j v,vs[j]? =some v→w.cell? ⟨vb,j,none⟩=some v) (h1c: ∀v∈cs,v.oneCell'=true) (h1v: ∀v∈vs,v.oneCell'=true)
  (tA tB:TypeId) (kA kB:Nat) (hsa:w.shape? vb=some (tA,kA)) (hsb:w.shape? b=some (tB,kB)) (hkB:kB≠0) (hfa:w.frozen? ⟨vb,0,none⟩=false) (hfe:w.frozen? ⟨vb,kA,none⟩=false):
  Calls Tryz.prog 398 #[.slice (some ⟨b,0,none⟩) n c,.int .i64 i,.slice (some ⟨vb,0,none⟩) 1 vc] w fun e w'=>
   e= .returned (.slice (some ⟨b,0,none⟩) (n+1) c)∧w'=(w.drew.setCells b ((i+1)) (cs.drop (i))).setCells b (i) vs:=by
 have tS:Tryz.prog.underlying 203=some (.slice 120):=by kernel_rfl
 have t3:Tryz.prog.underlying 3=some (.int .i64):=by kernel_rfl
 have t4:Tryz.prog.underlying 4=some .bool:=by kernel_rfl
 have uS:=run_underlying tS;have u3:=run_underlying t3;have u4:=run_underlying t4
 obtain ⟨i0,hi0,hz0,hzs,hzb⟩:=info_parts (show (Tryz.prog.info? 120).map (fun i=>(i.zero,i.size,i.bytes))=some (some (.agg #[.slice none 0 0]:Value),1,24) by kernel_rfl)
 have zE: ∀w,(Go.sizeOf 120).run Tryz.prog w= .ok 1 w:=fun w=>by simp[Go.sizeOf,typeInfo,hi0,hzs]
 have hsz:(Tryz.prog.info? 120).map (·.size)=some 1:=by rw[hi0];simp[hzs]
 have hz2: ¬((i:Int)=(n:Int)):=by omega
 have hov: ∀lb cb,(callFunc 428 #[.slice (some ⟨vb,0,none⟩) 1 vc,.slice (some ⟨b,(i+1),none⟩) lb cb]).run Tryz.prog w= .ok (.value (.bool false)) w:=fun lb cb=>by
  rw[run_callFunc_extern Tryz.func428 (by kernel_rfl) (by kernel_rfl) (by kernel_rfl) (e:=Extern.SlicesOverlaps.overlaps #[203,203] #[4]) (by kernel_rfl),
   Lib.run_overlaps_apart w 203 4 120 tS 1 zE ⟨vb,0,none⟩ ⟨b,(i+1),none⟩ 1 vc lb cb hvb tA tB kA kB hsa hsb hkB hfa hfe]
  rfl
 have hdl:(cs.drop (i)).length=(n-i):=by rw[List.length_drop,hcl];try rw[Nat.sub_mul]
 have mixed:=hm
 have hw1:IntKind.i64.wrap ((i:Int)+1)=(i:Int)+1:=by rw[IntKind.wrap_i64];omega
 have hb1:(0:Int)≤(i:Int)+1:=by omega
 have hin:i≤n:=by omega
 have htn:((i:Int)+1).toNat=i+1:=by omega
 have hb2: ¬(c=i+1):=by omega
 have hb3:(i:Int)≤(n:Int)+1:=by omega
 have hb4: ¬(c=i):=by omega
 have hcp1: ∀ty dc sc,(Builtin.copy_ #[203,203] ty #[.slice (some ⟨b,(i+1),none⟩) (n-i) dc,.slice (some ⟨b,i,none⟩) (n+1-i) sc]).run Tryz.prog w.drew= .ok (goInt ((n-i:Nat):Int)) (w.drew.setCells b ((i+1)) (cs.drop (i))):=fun ty dc sc=>
  run_copy_rows w.drew _ _ ty 120 1 b ((i+1)) (n-i) dc ⟨b,i,none⟩ (n+1-i) sc (n-i) (cs.drop (i)) tS hsz (by simp only[Nat.min_def];split<;>omega) (by omega)
   (fun j v hj=>by rw[Addr.add_lit];exact hcs (i+j) v (by rwa [List.getElem?_drop] at hj))
   (fun j hj=>hsp _ (by omega)) (fun j hj=>hfz _ (by omega)) (fun v hv=>h1c v (List.mem_of_mem_drop hv))
 obtain ⟨W1,hW1⟩: ∃W1,W1=w.drew.setCells b ((i+1)) (cs.drop (i)):=⟨_,rfl⟩
 have hsp1: ∀k,k< (n+1)→(W1.cell? ⟨b,k,none⟩).isSome=true:=fun k hk=>by
  rw[hW1]
  exact isSome_setCells b (cs.drop (i)) ((i+1)) w.drew (fun j hj=>hsp _ (by rw[hdl] at hj;omega)) k (hsp k hk)
 have hcp2: ∀ (W:World),(∀x,W.cell? x=W1.cell? x)→(∀x,W.frozen? x=W1.frozen? x)→ ∀ty dc,(Builtin.copy_ #[203,203] ty #[.slice (some ⟨b,i,none⟩) (n+1-i) dc,.slice (some ⟨vb,0,none⟩) 1 vc]).run Tryz.prog W= .ok (goInt 1) (W.setCells b (i) vs):=fun W hWc hWf ty dc=>
  run_copy_rows W _ _ ty 120 1 b (i) (n+1-i) dc ⟨vb,0,none⟩ 1 vc 1 vs tS hsz (by simp only[Nat.min_def];split<;>omega) (by rw[hvl])
   (fun j v hj=>by
    rw[Addr.add_lit,Nat.zero_add,hWc,hW1,World.cell?_setCells_out b _ _ _ _ (fun h _=>absurd h hvb)]
    exact hvs j v hj)
   (fun j hj=>by rw[hWc];exact hsp1 _ (by omega)) (fun j hj=>by rw[hWf,hW1,World.frozen?_setCells];exact hfz _ (by omega)) h1v
 rw[←hW1] at hcp1
 clear hi0 hz0 hzs hzb
 go_enter Tryz.func398,Tryz.ntmps398
 go_wp2_with (simp only[hov])
 go_region_law_o (refine step_copy_runI rfl _ _ 203 203 rfl _ _ (by simp[Act.eval,Act.put]) (by simp[Act.eval,Act.put]) (hcp1 _ _ _) ?_)
 go_wp2_with (at_builtin;refine wpList_copy_runI _ rfl _ _ 203 203 rfl _ _ rfl rfl (hcp2 _ (fun _=>rfl) (fun _=>rfl) _ _) ?_)
 go_ret
 first|exact ⟨rfl,rfl⟩|exact ⟨rfl,by rw[hW1]⟩
set_option maxRecDepth 100000 in
theorem insD_Row (b n c i vb vc:Nat) (cs vs:List Value) (w:World) (hi:i<n) (hnc:n≤c) (hroom:c<n+1) (hbig:(n+1)*24≤140737488355328)
  (hcl:cs.length=n) (hvl:vs.length=1)
  (hcs: ∀j v,cs[j]? =some v→w.cell? ⟨b,j,none⟩=some v)
  (hvs: ∀j v,vs[j]? =some v→w.cell? ⟨vb,j,none⟩=some v) (h1c: ∀v∈cs,v.oneCell'=true) (h1v: ∀v∈vs,v.oneCell'=true):
  Calls Tryz.prog 398 #[.slice (some ⟨b,0,none⟩) n c,.int .i64 i,.slice (some ⟨vb,0,none⟩) 1 vc] w fun e w'=>
   e= .returned (.slice (some ⟨w.heap.size,0,none⟩) (n+1) (grownCap w (n+1) c 120))∧
   w'=(((w.alloc (.cells ((cs.take (i)).toArray++Builtin.zeroCells (.agg #[.slice none 0 0]:Value).cells (n+1-i)++Builtin.zeroCells (.agg #[.slice none 0 0]:Value).cells (grownCap w (n+1) c 120- (n+1))) 120)).drew.setCells w.heap.size (i) vs).drew).setCells w.heap.size ((i+1)) (cs.drop (i)):=by
 have tS:Tryz.prog.underlying 203=some (.slice 120):=by kernel_rfl
 have t3:Tryz.prog.underlying 3=some (.int .i64):=by kernel_rfl
 have t4:Tryz.prog.underlying 4=some .bool:=by kernel_rfl
 have uS:=run_underlying tS;have u3:=run_underlying t3;have u4:=run_underlying t4
 obtain ⟨i0,hi0,hz0,hzs,hzb⟩:=info_parts (show (Tryz.prog.info? 120).map (fun i=>(i.zero,i.size,i.bytes))=some (some (.agg #[.slice none 0 0]:Value),1,24) by kernel_rfl)
 have zE: ∀w,(Go.sizeOf 120).run Tryz.prog w= .ok 1 w:=fun w=>by simp[Go.sizeOf,typeInfo,hi0,hzs]
 have hsz:(Tryz.prog.info? 120).map (·.size)=some 1:=by rw[hi0];simp[hzs]
 have mixed:=hm
 have hz2: ¬((i:Int)=(n:Int)):=by omega
 have hz3:(c:Int)< (n:Int)+1:=by omega
 have hbw:b<w.heap.size:=block_lt_of_cell (hcs 0 _ (List.getElem?_eq_getElem (by omega)))
 have hvw:vb<w.heap.size:=block_lt_of_cell (hvs 0 _ (List.getElem?_eq_getElem (by omega)))
 have hkk:(n:Int)+1- (i:Int)=((n+1-i:Nat):Int):=by omega
 have hik:i+(n+1-i)=n+1:=by omega
 have hold:(Builtin.firstCells i0.size i (.slice (some ⟨b,0,none⟩) i c)).run Tryz.prog w.drew= .ok (cs.take (i)).toArray w.drew:=by
  rw[hzs]
  exact run_firstCells_some w.drew 1 i ⟨b,0,none⟩ i c (cs.take (i)) (by rw[List.length_take];omega) (fun j v hj=>by
   rw[Addr.add_lit,Nat.zero_add]
   rw[List.getElem?_take] at hj
   split at hj
   ·exact hcs j v hj
   ·cases hj)
 have hrz: ∀ty,(Builtin.append_ #[203,3] ty #[.slice (some ⟨b,0,none⟩) i c,.int .i64 ((n:Int)+1- (i:Int))]).run Tryz.prog w=
   .ok (.slice (some ⟨w.heap.size,0,none⟩) (n+1) (grownCap w (n+1) c 120)) (w.drew.alloc (.cells ((cs.take (i)).toArray++Builtin.zeroCells (.agg #[.slice none 0 0]:Value).cells (n+1-i)++Builtin.zeroCells (.agg #[.slice none 0 0]:Value).cells (grownCap w (n+1) c 120- (n+1))) 120)):=fun ty=>by
  have h:=Lib.run_append_grow_zeros w 203 3 ty 120 i0 _ .i64 .i64 tS t3 hi0 hz0 (some ⟨b,0,none⟩) i c (cs.take (i)) hold (n+1-i) (by omega) (by omega) (by omega) (by omega) (by rw[hzb];omega) (by rw[hzb,hik];exact growslice_fits hroom hbig)
  rw[hik] at h
  rw[hkk]
  exact h
 obtain ⟨G,hG⟩: ∃G,G=grownCap w (n+1) c 120:=⟨_,rfl⟩
 obtain ⟨ROW,hROW⟩: ∃ROW:Array Value,ROW=(cs.take (i)).toArray++Builtin.zeroCells (.agg #[.slice none 0 0]:Value).cells (n+1-i)++Builtin.zeroCells (.agg #[.slice none 0 0]:Value).cells (G- (n+1)):=⟨_,rfl⟩
 rw[←hG] at hrz⊢
 rw[←hROW] at hrz⊢
 have hRl:(n+1)≤ROW.size:=by
  rw[hROW]
  simp only[Array.size_append,List.size_toArray,List.length_take,hcl,size_zeroCells,(show (.agg #[.slice none 0 0]:Value).cells.size=1 by kernel_rfl)]
  omega
 obtain ⟨W1,hW1⟩: ∃W1,W1=w.drew.alloc (.cells ROW 120):=⟨_,rfl⟩
 rw[←hW1] at hrz
 have hN: ∀j,j< (n+1)→(W1.cell? ⟨w.heap.size,j,none⟩).isSome=true:=fun j hj=>by
  rw[hW1,World.cell?_alloc_at (w:=w.drew) ROW _ w.heap.size j rfl,Array.getElem?_eq_getElem (by omega)];rfl
 have hNf: ∀j,W1.frozen? ⟨w.heap.size,j,none⟩=false:=fun j=>by rw[hW1];exact World.frozen?_alloc_at (w:=w.drew) ROW _ w.heap.size j rfl
 have hOb: ∀j v,w.cell? ⟨b,j,none⟩=some v→W1.cell? ⟨b,j,none⟩=some v:=fun j v h=>by rw[hW1,World.cell?_alloc_past (w:=w.drew) _ b j hbw];exact h
 have hOv: ∀j v,w.cell? ⟨vb,j,none⟩=some v→W1.cell? ⟨vb,j,none⟩=some v:=fun j v h=>by rw[hW1,World.cell?_alloc_past (w:=w.drew) _ vb j hvw];exact h
 have hcpA: ∀ (W:World),(∀x,W.cell? x=W1.cell? x)→(∀x,W.frozen? x=W1.frozen? x)→ ∀ty dc,(Builtin.copy_ #[203,203] ty #[.slice (some ⟨w.heap.size,i,none⟩) (n+1-i) dc,.slice (some ⟨vb,0,none⟩) 1 vc]).run Tryz.prog W= .ok (goInt 1) (W.setCells w.heap.size (i) vs):=fun W hWc hWf ty dc=>
  run_copy_rows W _ _ ty 120 1 w.heap.size (i) (n+1-i) dc ⟨vb,0,none⟩ 1 vc 1 vs tS hsz (by simp only[Nat.min_def];split<;>omega) (by rw[hvl])
   (fun j v hj=>by rw[Addr.add_lit,Nat.zero_add,hWc];exact hOv _ v (hvs j v hj))
   (fun j hj=>by rw[hWc];exact hN _ (by omega)) (fun j hj=>by rw[hWf];exact hNf _) h1v
 have hGn:n+1≤G:=by rw[hG];exact grownCap_ge w _ _ _
 have hG63:G≤9223372036854775807:=by
  have:=grownCap_le_maxLen w (n+1) c 120 (by unfold maxLen;omega)
  rw[←hG] at this
  unfold maxLen at this
  omega
 have hGi: ¬(G=i):=by omega
 have hGim: ¬(G=i+1):=by omega
 have hci: ¬(c=i):=by omega
 have hbN:b≠w.heap.size:=by omega
 have hdl:(cs.drop (i)).length=(n-i):=by rw[List.length_drop,hcl];try rw[Nat.sub_mul]
 have hcpB: ∀ (W:World),(∀x,W.cell? x=(W1.setCells w.heap.size (i) vs).cell? x)→(∀x,W.frozen? x=(W1.setCells w.heap.size (i) vs).frozen? x)→ ∀ty dc sc,(Builtin.copy_ #[203,203] ty #[.slice (some ⟨w.heap.size,(i+1),none⟩) (n-i) dc,.slice (some ⟨b,i,none⟩) (n-i) sc]).run Tryz.prog W= .ok (goInt ((n-i:Nat):Int)) (W.setCells w.heap.size ((i+1)) (cs.drop (i))):=fun W hWc hWf ty dc sc=>
  run_copy_rows W _ _ ty 120 1 w.heap.size ((i+1)) (n-i) dc ⟨b,i,none⟩ (n-i) sc (n-i) (cs.drop (i)) tS hsz (by simp only[Nat.min_def];split<;>omega) (by omega)
   (fun j v hj=>by
    rw[Addr.add_lit,hWc,World.cell?_setCells_out _ _ _ _ _ (fun h _=>absurd h hbN)]
    exact hOb _ v (hcs (i+j) v (by rwa [List.getElem?_drop] at hj)))
   (fun j hj=>by rw[hWc];exact isSome_setCells w.heap.size vs (i) W1 (fun t ht=>hN _ (by omega)) _ (hN _ (by omega)))
   (fun j hj=>by rw[hWf,World.frozen?_setCells];exact hNf _) (fun v hv=>h1c v (List.mem_of_mem_drop hv))
 subst hW1
 have hE1: ∀x,((w.alloc (.cells ROW 120)).drew).cell? x=(w.drew.alloc (.cells ROW 120)).cell? x:=fun x=>rfl
 have hE2: ∀x,((w.alloc (.cells ROW 120)).drew).frozen? x=(w.drew.alloc (.cells ROW 120)).frozen? x:=fun x=>rfl
 have hF1: ∀x,(((w.alloc (.cells ROW 120)).drew.setCells w.heap.size (i) vs).drew).cell? x=((w.drew.alloc (.cells ROW 120)).setCells w.heap.size (i) vs).cell? x:=fun x=>rfl
 have hF2: ∀x,(((w.alloc (.cells ROW 120)).drew.setCells w.heap.size (i) vs).drew).frozen? x=((w.drew.alloc (.cells ROW 120)).setCells w.heap.size (i) vs).frozen? x:=fun x=>rfl
 have hw1:IntKind.i64.wrap ((i:Int)+1)=(i:Int)+1:=by rw[IntKind.wrap_i64];omega
 have hb1:(0:Int)≤(i:Int)+1:=by omega
 have hin:i≤n:=by omega
 have htn:((i:Int)+1).toNat=i+1:=by omega
 have hb3:(i:Int)≤(n:Int):=by omega
 clear hkk hik hold hROW hG hRl hi0 hz0 hzs hzb
 go_enter Tryz.func398,Tryz.ntmps398
 go_wp2_with (first
  |(at_builtin;refine Lib.wpList_append_run _ rfl _ _ _ _ rfl _ _ rfl rfl _ _ (hrz _) ?_)
  |(at_builtin;refine wpList_copy_runI _ rfl _ _ 203 203 rfl _ _ rfl rfl (hcpA _ hE1 hE2 _ _) ?_)
  |(at_builtin;refine wpList_copy_runI _ rfl _ _ 203 203 rfl _ _ rfl rfl (hcpB _ (fun _=>rfl) (fun _=>rfl) _ _ _) ?_))
 go_region_law_o (refine step_copy_runI rfl _ _ 203 203 rfl (.slice (some ⟨w.heap.size,(i+1),none⟩) (n-i) (G- (i+1))) (.slice (some ⟨b,i,none⟩) (n-i) (c-i)) (by simp[Act.eval,Act.put]) (by simp[Act.eval,Act.put]) (hcpB _ hF1 hF2 3 (G- (i+1)) (c-i)) ?_)
 go_wp2
 go_ret
 exact ⟨rfl,rfl⟩
theorem rawIns_Row:RawIns Tryz.prog 398 120 1 24:=
 rawIns_of (.agg #[.slice none 0 0]:Value) (by decide) (by decide) (by kernel_rfl) (fun b n c vb vc vs w=>by simpa only[Nat.mul_one] using insA_Row b n c vb vc vs w) (fun base n c vb vc cs vs w=>by simpa only[Nat.mul_one] using insB_Row base n c vb vc cs vs w) (fun b n c i vb vc cs vs w=>by simpa only[Nat.mul_one] using insC_Row b n c i vb vc cs vs w) (fun b n c i vb vc cs vs w=>by simpa only[Nat.mul_one] using insD_Row b n c i vb vc cs vs w)
end Go.Proofs.YteeolohhmfjafaaGreat
namespace Go.Proofs.YteeolohhmfjafaaGreat
open Go Go.Proofs Go.Sm Go.RowKit Go.Lib
set_option linter.unusedVariables false
set_option linter.unusedSimpArgs false
set_option maxRecDepth 100000 in
theorem delA_Rows (b n c i:Nat) (news:List Value) (w:World) (hin:i<n) (hnc:n≤c) (hc63:c≤9223372036854775807) (hlen:news.length=(n- (i+1))*1)
  (hcs0: ∀j v,news[j]? =some v→w.cell? ⟨b,(i+1)*1+j,none⟩=some v) (h1c: ∀v∈news,v.oneCell'=true) (hsp: ∀j,j<n*1→(w.cell? ⟨b,j,none⟩).isSome=true) (hfz: ∀j,w.frozen? ⟨b,j,none⟩=false):
  Calls Tryz.prog 314 #[.slice (some ⟨b,0,none⟩) n c,.int .i64 i,.int .i64 ((i+1:Nat):Int)] w fun e w'=>e= .returned (.slice (some ⟨b,0,none⟩) (n-1) c)∧w'=(w.drew.setCells b (i*1) news).setCells b ((n-1)*1) (.agg #[.slice none 0 0]:Value).cells.toList:=by
 have tS:Tryz.prog.underlying 37=some (.slice 205):=by kernel_rfl
 have t3:Tryz.prog.underlying 3=some (.int .i64):=by kernel_rfl
 have t4:Tryz.prog.underlying 4=some .bool:=by kernel_rfl
 have uS:=run_underlying tS;have u3:=run_underlying t3;have u4:=run_underlying t4
 obtain ⟨i0,hi0,hz0,hzs,hzb⟩:=info_parts (show (Tryz.prog.info? 205).map (fun i=>(i.zero,i.size,i.bytes))=some (some (.agg #[.slice none 0 0]:Value),1,24) by kernel_rfl)
 have zE: ∀w,(Go.sizeOf 205).run Tryz.prog w= .ok 1 w:=fun w=>by simp[Go.sizeOf,typeInfo,hi0,hzs]
 have zV: ∀w,(zeroValue 205).run Tryz.prog w= .ok (.agg #[.slice none 0 0]:Value) w:=fun w=>by simp[zeroValue,typeInfo,hi0,hz0]
 have mixed:=hm
 have hcs: ∀j v,news[j]? =some v→w.cell? ⟨b,i+1+j,none⟩=some v:=fun j v h=>by have:=hcs0 j v h;rwa [show (i+1)*1=i+1 by omega] at this
 have hzc:(.agg #[.slice none 0 0]:Value).cells.size=1:=by kernel_rfl
 have hb0:(0:Int)≤(i:Int)+1:=by omega
 have hb1:(i:Int)+1≤(n:Int):=by omega
 have htn:((i:Int)+1).toNat=i+1:=by omega
 have hne: ¬((i:Int)=(i:Int)+1):=by omega
 obtain ⟨A,hA,hsrc⟩: ∃A:Addr,(if c=i+1 then (some ⟨b,0,none⟩:Option Addr) else some ⟨b,i+1,none⟩)=some A∧Hid (∀t u,news[t]? =some u→w.drew.cell? (A.add t)=some u):=by
  by_cases h:c=i+1
  ·refine ⟨⟨b,0,none⟩,by simp[h],fun t u hu=> ?_⟩
   have h0:news.length=0:=by rw[hlen,show n- (i+1)=0 by omega,Nat.zero_mul]
   rw[List.length_eq_zero_iff.1 h0] at hu
   simp at hu
  ·refine ⟨⟨b,i+1,none⟩,by simp[h],fun t u hu=> ?_⟩
   rw[Addr.add_lit]
   exact hcs t u (by simpa using hu)
 have s1:Hid (news.length=(n- (i+1))*1):=hlen
 have s2:Hid (∀u∈news,u.oneCell'=true):=h1c
 have hnl:news.length+i*1+1=n*1:=by rw[hlen,Nat.sub_mul,Nat.add_mul];have:(i+1)*1≤n*1:=Nat.mul_le_mul_right _ hin;omega
 have s3:Hid (∀t,t<news.length→(w.drew.cell? ⟨b,0+i*1+t,none⟩).isSome=true∧w.drew.frozen? ⟨b,0+i*1+t,none⟩=false):=by
  intro t ht
  rw[Nat.zero_add]
  exact ⟨hsp _ (by omega),hfz _⟩
 obtain ⟨W1,hW1⟩: ∃W1,W1=w.drew.setCells b (0+i*1) news:=⟨_,rfl⟩
 have hn1:n-1=i+(n- (i+1)):=by omega
 have hcl: ∀ty,(Builtin.clear_ #[37] ty #[.slice (some ⟨b,i+(n- (i+1)),none⟩) (n- (i+(n- (i+1)))) (c- (i+(n- (i+1))))]).run Tryz.prog W1= .ok (.tuple #[]) (W1.setCells b (i+(n- (i+1))) (.agg #[.slice none 0 0]:Value).cells.toList):=fun ty=>by
  rw[show n- (i+(n- (i+1)))=1 by omega]
  exact run_clear1 tS zV b (i+(n- (i+1))) _ W1 (fun j hj=>by
   rw[hzc] at hj
   rw[hW1]
   exact isSome_setCells b news (0+i*1) w.drew (fun t ht=>(s3.out t ht).1) _ (hsp _ (by have:=mulLt (show n-1<n by omega) hj;omega))) (fun j hj=>by rw[hW1,World.frozen?_setCells];exact hfz _) (by decide) ty
 have hW:Hid (W1=w.drew.setCells b (0+i*1) news):=hW1
 have hic:i≤c:=by omega
 have hjc:i+1≤c:=by omega
 have hzero:(0:Nat)+i*1=i*1:=Nat.zero_add _
 rw[hn1,show (i+(n- (i+1)))*1=i+(n- (i+1)) by omega]
 clear hW1 hzc hnl hsp hfz hcs hcs0 hlen h1c hz0 hzb
 go_enter Tryz.func314,Tryz.ntmps314
 go_wp2_with fail
 go_region_law_o (refine step_append_room rfl (.tmp 22) (.tmp 25) 37 rfl 205 i0 1 tS hi0 hzs b 0 i c (by simp[Act.eval,Act.put]) A (n- (i+1)) (c- (i+1)) news (by simp[Act.eval,Act.put]) s1.out hsrc.out s2.out (by omega) s3.out ?_;rw[←hW.out])
 go_wp2
 go_ret
 refine ⟨rfl, ?_⟩
 rw[hW.out,hzero]
 rfl
theorem rawDel_Rows:RawDel Tryz.prog 314 205 1:=rawDel_of (.agg #[.slice none 0 0]:Value) (by decide) (by kernel_rfl) (fun b n c i news w=>delA_Rows b n c i news w)
set_option maxRecDepth 100000 in
theorem delA_Row (b n c i:Nat) (news:List Value) (w:World) (hin:i<n) (hnc:n≤c) (hc63:c≤9223372036854775807) (hlen:news.length=(n- (i+1))*1)
  (hcs0: ∀j v,news[j]? =some v→w.cell? ⟨b,(i+1)*1+j,none⟩=some v) (h1c: ∀v∈news,v.oneCell'=true) (hsp: ∀j,j<n*1→(w.cell? ⟨b,j,none⟩).isSome=true) (hfz: ∀j,w.frozen? ⟨b,j,none⟩=false):
  Calls Tryz.prog 320 #[.slice (some ⟨b,0,none⟩) n c,.int .i64 i,.int .i64 ((i+1:Nat):Int)] w fun e w'=>e= .returned (.slice (some ⟨b,0,none⟩) (n-1) c)∧w'=(w.drew.setCells b (i*1) news).setCells b ((n-1)*1) (.agg #[.slice none 0 0]:Value).cells.toList:=by
 have tS:Tryz.prog.underlying 203=some (.slice 120):=by kernel_rfl
 have t3:Tryz.prog.underlying 3=some (.int .i64):=by kernel_rfl
 have t4:Tryz.prog.underlying 4=some .bool:=by kernel_rfl
 have uS:=run_underlying tS;have u3:=run_underlying t3;have u4:=run_underlying t4
 obtain ⟨i0,hi0,hz0,hzs,hzb⟩:=info_parts (show (Tryz.prog.info? 120).map (fun i=>(i.zero,i.size,i.bytes))=some (some (.agg #[.slice none 0 0]:Value),1,24) by kernel_rfl)
 have zE: ∀w,(Go.sizeOf 120).run Tryz.prog w= .ok 1 w:=fun w=>by simp[Go.sizeOf,typeInfo,hi0,hzs]
 have zV: ∀w,(zeroValue 120).run Tryz.prog w= .ok (.agg #[.slice none 0 0]:Value) w:=fun w=>by simp[zeroValue,typeInfo,hi0,hz0]
 have mixed:=hm
 have hcs: ∀j v,news[j]? =some v→w.cell? ⟨b,i+1+j,none⟩=some v:=fun j v h=>by have:=hcs0 j v h;rwa [show (i+1)*1=i+1 by omega] at this
 have hzc:(.agg #[.slice none 0 0]:Value).cells.size=1:=by kernel_rfl
 have hb0:(0:Int)≤(i:Int)+1:=by omega
 have hb1:(i:Int)+1≤(n:Int):=by omega
 have htn:((i:Int)+1).toNat=i+1:=by omega
 have hne: ¬((i:Int)=(i:Int)+1):=by omega
 obtain ⟨A,hA,hsrc⟩: ∃A:Addr,(if c=i+1 then (some ⟨b,0,none⟩:Option Addr) else some ⟨b,i+1,none⟩)=some A∧Hid (∀t u,news[t]? =some u→w.drew.cell? (A.add t)=some u):=by
  by_cases h:c=i+1
  ·refine ⟨⟨b,0,none⟩,by simp[h],fun t u hu=> ?_⟩
   have h0:news.length=0:=by rw[hlen,show n- (i+1)=0 by omega,Nat.zero_mul]
   rw[List.length_eq_zero_iff.1 h0] at hu
   simp at hu
  ·refine ⟨⟨b,i+1,none⟩,by simp[h],fun t u hu=> ?_⟩
   rw[Addr.add_lit]
   exact hcs t u (by simpa using hu)
 have s1:Hid (news.length=(n- (i+1))*1):=hlen
 have s2:Hid (∀u∈news,u.oneCell'=true):=h1c
 have hnl:news.length+i*1+1=n*1:=by rw[hlen,Nat.sub_mul,Nat.add_mul];have:(i+1)*1≤n*1:=Nat.mul_le_mul_right _ hin;omega
 have s3:Hid (∀t,t<news.length→(w.drew.cell? ⟨b,0+i*1+t,none⟩).isSome=true∧w.drew.frozen? ⟨b,0+i*1+t,none⟩=false):=by
  intro t ht
  rw[Nat.zero_add]
  exact ⟨hsp _ (by omega),hfz _⟩
 obtain ⟨W1,hW1⟩: ∃W1,W1=w.drew.setCells b (0+i*1) news:=⟨_,rfl⟩
 have hn1:n-1=i+(n- (i+1)):=by omega
 have hcl: ∀ty,(Builtin.clear_ #[203] ty #[.slice (some ⟨b,i+(n- (i+1)),none⟩) (n- (i+(n- (i+1)))) (c- (i+(n- (i+1))))]).run Tryz.prog W1= .ok (.tuple #[]) (W1.setCells b (i+(n- (i+1))) (.agg #[.slice none 0 0]:Value).cells.toList):=fun ty=>by
  rw[show n- (i+(n- (i+1)))=1 by omega]
  exact run_clear1 tS zV b (i+(n- (i+1))) _ W1 (fun j hj=>by
   rw[hzc] at hj
   rw[hW1]
   exact isSome_setCells b news (0+i*1) w.drew (fun t ht=>(s3.out t ht).1) _ (hsp _ (by have:=mulLt (show n-1<n by omega) hj;omega))) (fun j hj=>by rw[hW1,World.frozen?_setCells];exact hfz _) (by decide) ty
 have hW:Hid (W1=w.drew.setCells b (0+i*1) news):=hW1
 have hic:i≤c:=by omega
 have hjc:i+1≤c:=by omega
 have hzero:(0:Nat)+i*1=i*1:=Nat.zero_add _
 rw[hn1,show (i+(n- (i+1)))*1=i+(n- (i+1)) by omega]
 clear hW1 hzc hnl hsp hfz hcs hcs0 hlen h1c hz0 hzb
 go_enter Tryz.func320,Tryz.ntmps320
 go_wp2_with fail
 go_region_law_o (refine step_append_room rfl (.tmp 22) (.tmp 25) 203 rfl 120 i0 1 tS hi0 hzs b 0 i c (by simp[Act.eval,Act.put]) A (n- (i+1)) (c- (i+1)) news (by simp[Act.eval,Act.put]) s1.out hsrc.out s2.out (by omega) s3.out ?_;rw[←hW.out])
 go_wp2
 go_ret
 refine ⟨rfl, ?_⟩
 rw[hW.out,hzero]
 rfl
theorem rawDel_Row:RawDel Tryz.prog 320 120 1:=rawDel_of (.agg #[.slice none 0 0]:Value) (by decide) (by kernel_rfl) (fun b n c i news w=>delA_Row b n c i news w)
set_option maxRecDepth 100000 in
theorem delA_Table (b n c i:Nat) (news:List Value) (w:World) (hin:i<n) (hnc:n≤c) (hc63:c≤9223372036854775807) (hlen:news.length=(n- (i+1))*3)
  (hcs0: ∀j v,news[j]? =some v→w.cell? ⟨b,(i+1)*3+j,none⟩=some v) (h1c: ∀v∈news,v.oneCell'=true) (hsp: ∀j,j<n*3→(w.cell? ⟨b,j,none⟩).isSome=true) (hfz: ∀j,w.frozen? ⟨b,j,none⟩=false):
  Calls Tryz.prog 390 #[.slice (some ⟨b,0,none⟩) n c,.int .i64 i,.int .i64 ((i+1:Nat):Int)] w fun e w'=>e= .returned (.slice (some ⟨b,0,none⟩) (n-1) c)∧w'=(w.drew.setCells b (i*3) news).setCells b ((n-1)*3) (.agg #[.string ⟨#[]⟩,.slice none 0 0,.slice none 0 0]:Value).cells.toList:=by
 have tS:Tryz.prog.underlying 34=some (.slice 201):=by kernel_rfl
 have t3:Tryz.prog.underlying 3=some (.int .i64):=by kernel_rfl
 have t4:Tryz.prog.underlying 4=some .bool:=by kernel_rfl
 have uS:=run_underlying tS;have u3:=run_underlying t3;have u4:=run_underlying t4
 obtain ⟨i0,hi0,hz0,hzs,hzb⟩:=info_parts (show (Tryz.prog.info? 201).map (fun i=>(i.zero,i.size,i.bytes))=some (some (.agg #[.string ⟨#[]⟩,.slice none 0 0,.slice none 0 0]:Value),3,64) by kernel_rfl)
 have zE: ∀w,(Go.sizeOf 201).run Tryz.prog w= .ok 3 w:=fun w=>by simp[Go.sizeOf,typeInfo,hi0,hzs]
 have zV: ∀w,(zeroValue 201).run Tryz.prog w= .ok (.agg #[.string ⟨#[]⟩,.slice none 0 0,.slice none 0 0]:Value) w:=fun w=>by simp[zeroValue,typeInfo,hi0,hz0]
 have mixed:=hm
 have hcs: ∀j v,news[j]? =some v→w.cell? ⟨b,(i+1)*3+j,none⟩=some v:=fun j v h=>by have:=hcs0 j v h;rwa [show (i+1)*3=(i+1)*3 by omega] at this
 have hzc:(.agg #[.string ⟨#[]⟩,.slice none 0 0,.slice none 0 0]:Value).cells.size=3:=by kernel_rfl
 have hb0:(0:Int)≤(i:Int)+1:=by omega
 have hb1:(i:Int)+1≤(n:Int):=by omega
 have htn:((i:Int)+1).toNat=i+1:=by omega
 have hne: ¬((i:Int)=(i:Int)+1):=by omega
 obtain ⟨A,hA,hsrc⟩: ∃A:Addr,(if c=i+1 then (some ⟨b,0,none⟩:Option Addr) else some ⟨b,(i+1)*3,none⟩)=some A∧Hid (∀t u,news[t]? =some u→w.drew.cell? (A.add t)=some u):=by
  by_cases h:c=i+1
  ·refine ⟨⟨b,0,none⟩,by simp[h],fun t u hu=> ?_⟩
   have h0:news.length=0:=by rw[hlen,show n- (i+1)=0 by omega,Nat.zero_mul]
   rw[List.length_eq_zero_iff.1 h0] at hu
   simp at hu
  ·refine ⟨⟨b,(i+1)*3,none⟩,by simp[h],fun t u hu=> ?_⟩
   rw[Addr.add_lit]
   exact hcs t u (by simpa using hu)
 have s1:Hid (news.length=(n- (i+1))*3):=hlen
 have s2:Hid (∀u∈news,u.oneCell'=true):=h1c
 have hnl:news.length+i*3+3=n*3:=by rw[hlen,Nat.sub_mul,Nat.add_mul];have:(i+1)*3≤n*3:=Nat.mul_le_mul_right _ hin;omega
 have s3:Hid (∀t,t<news.length→(w.drew.cell? ⟨b,0+i*3+t,none⟩).isSome=true∧w.drew.frozen? ⟨b,0+i*3+t,none⟩=false):=by
  intro t ht
  rw[Nat.zero_add]
  exact ⟨hsp _ (by omega),hfz _⟩
 obtain ⟨W1,hW1⟩: ∃W1,W1=w.drew.setCells b (0+i*3) news:=⟨_,rfl⟩
 have hn1:n-1=i+(n- (i+1)):=by omega
 have hcl: ∀ty,(Builtin.clear_ #[34] ty #[.slice (some ⟨b,(i+(n- (i+1)))*3,none⟩) (n- (i+(n- (i+1)))) (c- (i+(n- (i+1))))]).run Tryz.prog W1= .ok (.tuple #[]) (W1.setCells b ((i+(n- (i+1)))*3) (.agg #[.string ⟨#[]⟩,.slice none 0 0,.slice none 0 0]:Value).cells.toList):=fun ty=>by
  rw[show n- (i+(n- (i+1)))=1 by omega]
  exact run_clear1 tS zV b ((i+(n- (i+1)))*3) _ W1 (fun j hj=>by
   rw[hzc] at hj
   rw[hW1]
   exact isSome_setCells b news (0+i*3) w.drew (fun t ht=>(s3.out t ht).1) _ (hsp _ (by have:=mulLt (show n-1<n by omega) hj;omega))) (fun j hj=>by rw[hW1,World.frozen?_setCells];exact hfz _) (by decide) ty
 have hW:Hid (W1=w.drew.setCells b (0+i*3) news):=hW1
 have hic:i≤c:=by omega
 have hjc:i+1≤c:=by omega
 have hzero:(0:Nat)+i*3=i*3:=Nat.zero_add _
 rw[hn1,show (i+(n- (i+1)))*3=(i+(n- (i+1)))*3 by omega]
 clear hW1 hzc hnl hsp hfz hcs hcs0 hlen h1c hz0 hzb
 go_enter Tryz.func390,Tryz.ntmps390
 go_wp2_with fail
 go_region_law_o (refine step_append_room rfl (.tmp 22) (.tmp 25) 34 rfl 201 i0 3 tS hi0 hzs b 0 i c (by simp[Act.eval,Act.put]) A (n- (i+1)) (c- (i+1)) news (by simp[Act.eval,Act.put]) s1.out hsrc.out s2.out (by omega) s3.out ?_;rw[←hW.out])
 go_wp2
 go_ret
 refine ⟨rfl, ?_⟩
 rw[hW.out,hzero]
 rfl
theorem rawDel_Table:RawDel Tryz.prog 390 201 3:=rawDel_of (.agg #[.string ⟨#[]⟩,.slice none 0 0,.slice none 0 0]:Value) (by decide) (by kernel_rfl) (fun b n c i news w=>delA_Table b n c i news w)
set_option maxRecDepth 100000 in
theorem delA_Val (b n c i:Nat) (news:List Value) (w:World) (hin:i<n) (hnc:n≤c) (hc63:c≤9223372036854775807) (hlen:news.length=(n- (i+1))*3)
  (hcs0: ∀j v,news[j]? =some v→w.cell? ⟨b,(i+1)*3+j,none⟩=some v) (h1c: ∀v∈news,v.oneCell'=true) (hsp: ∀j,j<n*3→(w.cell? ⟨b,j,none⟩).isSome=true) (hfz: ∀j,w.frozen? ⟨b,j,none⟩=false):
  Calls Tryz.prog 395 #[.slice (some ⟨b,0,none⟩) n c,.int .i64 i,.int .i64 ((i+1:Nat):Int)] w fun e w'=>e= .returned (.slice (some ⟨b,0,none⟩) (n-1) c)∧w'=(w.drew.setCells b (i*3) news).setCells b ((n-1)*3) (.agg #[.int .i64 0,.int .i64 0,.string ⟨#[]⟩]:Value).cells.toList:=by
 have tS:Tryz.prog.underlying 118=some (.slice 234):=by kernel_rfl
 have t3:Tryz.prog.underlying 3=some (.int .i64):=by kernel_rfl
 have t4:Tryz.prog.underlying 4=some .bool:=by kernel_rfl
 have uS:=run_underlying tS;have u3:=run_underlying t3;have u4:=run_underlying t4
 obtain ⟨i0,hi0,hz0,hzs,hzb⟩:=info_parts (show (Tryz.prog.info? 234).map (fun i=>(i.zero,i.size,i.bytes))=some (some (.agg #[.int .i64 0,.int .i64 0,.string ⟨#[]⟩]:Value),3,32) by kernel_rfl)
 have zE: ∀w,(Go.sizeOf 234).run Tryz.prog w= .ok 3 w:=fun w=>by simp[Go.sizeOf,typeInfo,hi0,hzs]
 have zV: ∀w,(zeroValue 234).run Tryz.prog w= .ok (.agg #[.int .i64 0,.int .i64 0,.string ⟨#[]⟩]:Value) w:=fun w=>by simp[zeroValue,typeInfo,hi0,hz0]
 have mixed:=hm
 have hcs: ∀j v,news[j]? =some v→w.cell? ⟨b,(i+1)*3+j,none⟩=some v:=fun j v h=>by have:=hcs0 j v h;rwa [show (i+1)*3=(i+1)*3 by omega] at this
 have hzc:(.agg #[.int .i64 0,.int .i64 0,.string ⟨#[]⟩]:Value).cells.size=3:=by kernel_rfl
 have hb0:(0:Int)≤(i:Int)+1:=by omega
 have hb1:(i:Int)+1≤(n:Int):=by omega
 have htn:((i:Int)+1).toNat=i+1:=by omega
 have hne: ¬((i:Int)=(i:Int)+1):=by omega
 obtain ⟨A,hA,hsrc⟩: ∃A:Addr,(if c=i+1 then (some ⟨b,0,none⟩:Option Addr) else some ⟨b,(i+1)*3,none⟩)=some A∧Hid (∀t u,news[t]? =some u→w.drew.cell? (A.add t)=some u):=by
  by_cases h:c=i+1
  ·refine ⟨⟨b,0,none⟩,by simp[h],fun t u hu=> ?_⟩
   have h0:news.length=0:=by rw[hlen,show n- (i+1)=0 by omega,Nat.zero_mul]
   rw[List.length_eq_zero_iff.1 h0] at hu
   simp at hu
  ·refine ⟨⟨b,(i+1)*3,none⟩,by simp[h],fun t u hu=> ?_⟩
   rw[Addr.add_lit]
   exact hcs t u (by simpa using hu)
 have s1:Hid (news.length=(n- (i+1))*3):=hlen
 have s2:Hid (∀u∈news,u.oneCell'=true):=h1c
 have hnl:news.length+i*3+3=n*3:=by rw[hlen,Nat.sub_mul,Nat.add_mul];have:(i+1)*3≤n*3:=Nat.mul_le_mul_right _ hin;omega
 have s3:Hid (∀t,t<news.length→(w.drew.cell? ⟨b,0+i*3+t,none⟩).isSome=true∧w.drew.frozen? ⟨b,0+i*3+t,none⟩=false):=by
  intro t ht
  rw[Nat.zero_add]
  exact ⟨hsp _ (by omega),hfz _⟩
 obtain ⟨W1,hW1⟩: ∃W1,W1=w.drew.setCells b (0+i*3) news:=⟨_,rfl⟩
 have hn1:n-1=i+(n- (i+1)):=by omega
 have hcl: ∀ty,(Builtin.clear_ #[118] ty #[.slice (some ⟨b,(i+(n- (i+1)))*3,none⟩) (n- (i+(n- (i+1)))) (c- (i+(n- (i+1))))]).run Tryz.prog W1= .ok (.tuple #[]) (W1.setCells b ((i+(n- (i+1)))*3) (.agg #[.int .i64 0,.int .i64 0,.string ⟨#[]⟩]:Value).cells.toList):=fun ty=>by
  rw[show n- (i+(n- (i+1)))=1 by omega]
  exact run_clear1 tS zV b ((i+(n- (i+1)))*3) _ W1 (fun j hj=>by
   rw[hzc] at hj
   rw[hW1]
   exact isSome_setCells b news (0+i*3) w.drew (fun t ht=>(s3.out t ht).1) _ (hsp _ (by have:=mulLt (show n-1<n by omega) hj;omega))) (fun j hj=>by rw[hW1,World.frozen?_setCells];exact hfz _) (by decide) ty
 have hW:Hid (W1=w.drew.setCells b (0+i*3) news):=hW1
 have hic:i≤c:=by omega
 have hjc:i+1≤c:=by omega
 have hzero:(0:Nat)+i*3=i*3:=Nat.zero_add _
 rw[hn1,show (i+(n- (i+1)))*3=(i+(n- (i+1)))*3 by omega]
 clear hW1 hzc hnl hsp hfz hcs hcs0 hlen h1c hz0 hzb
 go_enter Tryz.func395,Tryz.ntmps395
 go_wp2_with fail
 go_region_law_o (refine step_append_room rfl (.tmp 22) (.tmp 25) 118 rfl 234 i0 3 tS hi0 hzs b 0 i c (by simp[Act.eval,Act.put]) A (n- (i+1)) (c- (i+1)) news (by simp[Act.eval,Act.put]) s1.out hsrc.out s2.out (by omega) s3.out ?_;rw[←hW.out])
 go_wp2
 go_ret
 refine ⟨rfl, ?_⟩
 rw[hW.out,hzero]
 rfl
theorem rawDel_Val:RawDel Tryz.prog 395 234 3:=rawDel_of (.agg #[.int .i64 0,.int .i64 0,.string ⟨#[]⟩]:Value) (by decide) (by kernel_rfl) (fun b n c i news w=>delA_Val b n c i news w)
end Go.Proofs.YteeolohhmfjafaaGreat
namespace Go.Proofs.YteeolohhmfjafaaGreat
open Go Go.Proofs Go.Sm
attribute [local simp] ti eStr eInt eByte eVal cVal vVal eValS vValS eRow cRow vRow eCol cCol vCol vColS eStrS vStrS eDdl cDdl vDdl cStmt vStmt ePart vPart vPartS eTable cTable vTable vTableS cCat vCat vRowS eRows vRows vRowsS eDb cDb vDb eFol vFol eSnap cSnap vSnap
set_option linter.unusedVariables false
set_option linter.unusedSimpArgs false
set_option maxRecDepth 8000
theorem equalVal_ok (a b:List GVal) (ha:okM a.length):VC Tryz.prog 319 [vValS a,vValS b] [(false,[(.s,.sc (.bool (eqRows veq dVal a b)))])]:=by
 unfold okM at ha
 refine vc_of_ew good hm [0,1,4,10,12,13,14,5,24] Tryz.func319 rfl (by kernel_rfl) (by kernel_rfl) rfl ?_
 simp[Tryz.f319]
 refine ⟨fun h=>by simp[eqRows,h],fun hl=> ?_⟩
 refine ew_loop (fun E=> ∃i:Nat,i≤a.length∧eqTo veq dVal a b i=true∧E= {nt:=26,sl:= [(0,vValS a),(1,vValS b),(12,int .i64 a.length),(13,int .i64 i)],bx:= [],rt:= []}) (fun E=>a.length- (E.num 13).toNat) _ (Gh.kb _ [0,1,12,13] [] []) ⟨0,by omega,by simp[eqTo],by simp⟩ ?_
 rintro E1 ⟨i,hi,hall,rfl⟩
 simp
 have hat:veq (a[i]?.getD dVal) (b[i]?.getD dVal)=((a[i]?.getD dVal).fTy==(b[i]?.getD dVal).fTy&& ((a[i]?.getD dVal).fN==(b[i]?.getD dVal).fN&& (a[i]?.getD dVal).fS.toList==(b[i]?.getD dVal).fS.toList)):=rfl
 refine ⟨fun h=>⟨h,by omega, ?_⟩,fun h=> ?_⟩
 ·refine ⟨fun hb=> ?_,fun h1 h2 h3=> .of _ (Gh.kb _ [0,1,12,13] [] []) ⟨i+1,by omega,by rw[eqTo_succ,hall,hat];simp[h1,h2,h3], ?_⟩ ?_⟩
  ·have:=eqTo_no (eq:=veq) (d:=dVal) (a:=a) (b:=b) h (by rw[hat];grind)
   simp[eqRows,this]
  ·simp[wrapS (show i<9223372036854775807 by omega)]
  ·simp[wrapS (show i<9223372036854775807 by omega)];omega
 ·have:i=a.length:=by omega
  subst this
  simp[eqRows,hall,hl]
theorem rowAt1_ok (t:GTable) (key:List GVal) (r:GRow) (ht:okTable t) (hk:t.fKeys.length≤1048576) (hin:keysIn t r):VC Tryz.prog 397 [vRow r,.p (.ps (eTable t)),.p (.ps (eValS key))] [(false,[(.s,.sc (.bool (eqRows veq dVal (keyOf t r) key)))])]:=by
 refine vc_of_ew good hm [0,1,2,3,4] Tryz.func397 rfl (by kernel_rfl) (by kernel_rfl) rfl ?_
 simp[Tryz.f397,eValS]
 refine .of (keyI_ok t r ht hk hin) ?_
 simp[mValS]
 refine .of (equalVal_ok (keyOf t r) key (by rw[keyOf_len];unfold okM;omega)) ?_
 simp
theorem rowAt_ok (t:GTable) (l:List GRow) (key:List GVal) (ht:okTable t) (hk:t.fKeys.length≤1048576) (hl:okM l.length) (hin: ∀r∈l,keysIn t r):VC Tryz.prog 316 [vTable t,vRowS l,vValS key] [(false,[(.s,.sc (.int .i64 (keyAt t l key)))])]:=by
 refine vc_of_ew good hm [0,1,2,3,5,6] Tryz.func316 rfl (by kernel_rfl) (by kernel_rfl) rfl ?_
 simp[Tryz.f316]
 refine .of (idxRow2_ok l _ _ _ (fun r=>eqRows veq dVal (keyOf t r) key) hl (fun x hx=>rowAt1_ok t key x ht hk (hin x hx))) ?_
 simp[keyAt]
theorem take_row {α:Type} {l:List α} {i:Nat} (d:α) (h:i<l.length):l.take (i+1)=l.take i++ [l[i]?.getD d]:=by
 rw[List.take_succ_eq_append_getElem h,List.getElem?_eq_getElem h]
 rfl
theorem take_rowM {α β:Type} {f:α→β} {l:List α} {i:Nat} (d:α) (h:i<l.length):(l.map f).take (i+1)=(l.map f).take i++ [f (l[i]?.getD d)]:=by
 rw[←List.map_take,take_row d h,List.map_append,List.map_take]
 rfl
theorem copyRows_ok (l:List GRow) (hl:l.length≤1048576) (hb: ∀r∈l,r.fVals.length≤1048576):VC Tryz.prog 253 [vRowS l] [(false,mRowS l)]:=by
 refine vc_of_ew good hm [0,2,3,6,7,8,9,5] Tryz.func253 rfl (by kernel_rfl) (by kernel_rfl) rfl ?_
 simp[Tryz.f253,mRowS]
 refine ew_loop (fun E=> ∃i:Nat,i≤l.length∧E= {nt:=21,sl:= [(3,.v false [.r [990]]),(6,vRowS l),(7,int .i64 l.length),(8,int .i64 i)],bx:= [],rt:=(mRowS (l.take i)).map fun y=>(990,y)}) (fun E=>l.length- (E.num 8).toNat) _ ((Gh.nlS _ 3 0 990 120 (fun _=> [.o 234 (fun _=> [.s,.s,.s])]) [.ls [.sc (.int .i64 0),.sc (.int .i64 0),.sc (.string ⟨#[]⟩)] []]).trans (Gh.kb _ [3,6,7,8] [] [990])) ⟨0,by omega,by simp[mRowS]⟩ ?_
 rintro E1 ⟨i,hi,rfl⟩
 simp[mRowS]
 refine ⟨fun h=>⟨h,.of (copyVals_ok _ (hb _ (getD_mem dRow h))) ?_⟩,fun h=> ?_⟩
 ·simp[mValS]
  refine ⟨by omega,.of _ ((Gh.kb _ [3,6,7,8] [] [18]).trans (Gh.rn _ 18 990)) ⟨i+1,by omega, ?_⟩ ?_⟩
  ·rw[take_rowM dRow h]
   simp[wrapS (show i<9223372036854775807 by omega),mRowS]
  ·simp[wrapS (show i<9223372036854775807 by omega)];omega
 ·have:i=l.length:=by omega
  subst this
  rw[←List.map_take,List.take_length]
theorem colsI_const (i:Nat) (c:List Md):colsI i (fun _=>c) (fun _=>c)=fun _=>c:=by
 funext k
 simp[colsI]
theorem colsD_const (i:Nat) (c:List Md):colsD i (fun _=>c)=fun _=>c:=by
 funext k
 simp[colsD]
theorem rowFit_len {t:GTable} {r:GRow} (h:rowFit t r=true):r.fVals.length=t.fCols.length:=((rowFit_iff t r).1 h).1
theorem tableOk_len {t:GTable} (h:tableOk t=true):t.fCols.length≤8∧t.fKeys.length≤8:=by
 rw[tableOk_iff] at h
 have:=h.2.2.2.2.2.2.1.length_le
 simp only[cnm,List.length_map] at this
 omega
theorem rowsOk_inv {t:GTable} {l:List GRow} (h:rowsOk t l=true):tableOk t=true∧l.length≤60∧(∀x∈l,rowFit t x=true)∧(∀x∈l,keysIn t x)∧(∀x∈l,x.fVals.length≤1048576):=by
 have h0:=h
 rw[rowsOk_iff] at h
 exact ⟨h.1,h.2.1,h.2.2.1,fun x hx=>tableOk_keys h.1 (h.2.2.1 x hx),fun x hx=>by have:=(rowsOk_ok h0).2.2 x hx;omega⟩
theorem placed_ok (t:GTable) (l:List GRow) (r:GRow) (ht:okTable t) (hto:tableOk t=true) (hl:l.length≤60) (hf: ∀x∈l,rowFit t x=true) (hr:rowFit t r=true):VC Tryz.prog 317 [vTable t,vRowS l,vRow r] [(false,mRowS (insW (fun x=>rowLt t x r) r l))]:=by
 have htl:=tableOk_len hto
 have hk:t.fKeys.length≤1048576:=by omega
 have hrl:=rowFit_len hr
 refine vc_of_ew good hm [0,1,2,3,5,6,7,23] Tryz.func317 rfl (by kernel_rfl) (by kernel_rfl) rfl ?_
 simp[Tryz.f317,mRowS]
 refine ew_loop (fun E=> ∃i:Nat,i≤(l.takeWhile (fun x=>rowLt t x r)).length∧E= {nt:=35,sl:= [(1,vRowS l),(3,.p (.bx 3 0)),(5,.p (.bx 5 0)),(7,int .i64 i)],bx:= [(3,cTable t),(5,cRow r)],rt:= []}) (fun E=>l.length- (E.num 7).toNat) _ (Gh.kb _ [1,3,5,7] [3,5] []) ⟨0,by omega,by simp⟩ ?_
 rintro E1 ⟨i,hi,rfl⟩
 have htw:=takeW_len (fun x=>rowLt t x r) l
 have hat:=takeW_at (fun x=>rowLt t x r) dRow hi
 simp
 have hd8:t.fKeys.length=(keyOf t r).length:=(keyOf_len t r).symm
 have hb8: ∀x,okM (keyOf t x).length:=fun x=>by rw[keyOf_len];unfold okM;omega
 refine .of (fun g=>⟨g,keyI_ok t _ ht hk (tableOk_keys hto (hf _ (getD_mem dRow g)))⟩) ?_
 simp[mValS]
 refine .of (fun g=>⟨g,keyI_ok t r ht hk (tableOk_keys hto hr)⟩) ?_
 simp[mValS]
 refine .of (fun g=>⟨by grind,keyLessI_ok (keyOf t _) (keyOf t r) (hb8 _) (hb8 _)⟩) ?_
 simp
 refine ⟨fun h1 h2=> .of _ (Gh.kb _ [1,3,5,7] [3,5] []) ⟨i+1,hat.2 ⟨h1,h2⟩, ?_⟩ ?_,fun h2=> ?_⟩
 ·simp[wrapS (show i<9223372036854775807 by omega)]
 ·simp[wrapS (show i<9223372036854775807 by omega)];omega
 ·have hiq:i=(l.takeWhile (fun x=>rowLt t x r)).length:=by
   rcases Nat.lt_or_ge i (l.takeWhile (fun x=>rowLt t x r)).length with hlt|hge
   ·obtain ⟨g1,g2⟩:=hat.1 hlt
    have:=h2 g1
    rw[show keyLess (keyOf t (l[i]?.getD dRow)) (keyOf t r)=true from g2] at this
    cases this
   ·omega
  refine .of (copyRows_ok l (by omega) (fun x hx=>by have:=rowFit_len (hf x hx);omega)) ?_
  simp[mRowS]
  refine .of (copyVals_ok _ (by omega)) ?_
  simp[mValS]
  refine ⟨of_eq_true (full_RowS [r]),.use (vx_ins (i:=i) (rows:=l.map eRow) (row:=eRow r) (z:= [.ls [.sc (.int .i64 0),.sc (.int .i64 0),.sc (.string ⟨#[]⟩)] []]) (cols:=fun _=> [.o 234 (fun _=> [.s,.s,.s])]) (cols':=fun _=> [.o 234 (fun _=> [.s,.s,.s])]) ⟨_,_,Tryz.func398,rfl,by kernel_rfl⟩ rawIns_Row (by decide) (by decide) rfl (by simp;omega) (by simp;omega)) ?_⟩
  simp[colsI_const]
  rw[insW_at,←hiq]
  simp
theorem rowPutI_ok (t:GTable) (l:List GRow) (r:GRow) (ht:okTable t) (hk:t.fKeys.length≤1048576) (hl:okRowS l) (hr:okRow r):VC Tryz.prog 203 [vTable t,vRowS l,vRow r] [(false,mRowS (rowPut t l r).1),(false,[(.s,.sc (.int .i64 (rowPut t l r).2))])]:=by
 refine vc_of_ew good hm [0,1,2,3,5,6,7,8,13,18,26] Tryz.func203 rfl (by kernel_rfl) (by kernel_rfl) rfl ?_
 simp[Tryz.f203,mRowS]
 refine .of (rowsOkI_ok t l ht hl hk) ?_
 simp
 refine ⟨fun h=>by simp[rowPut,h],fun h1=> .of (rowOkI_ok t r ht hr.1.1) ?_⟩
 obtain ⟨h2,h3,h4,h5,h6⟩:=rowsOk_inv h1
 simp
 refine ⟨fun h=>by simp[rowPut,h1,h],fun h7=> .of (keyI_ok t r ht hk (tableOk_keys h2 h7)) ?_⟩
 simp[mValS]
 refine .of (rowAt_ok t l (keyOf t r) ht hk (by unfold okM;omega) h5) ?_
 simp
 have hat:rowPut t l r=if 0≤keyAt t l (keyOf t r) then ([],3) else if l.length=60 then ([],4) else (insW (fun x=>rowLt t x r) r l,0):=by simp[rowPut,h1,h7]
 refine ⟨fun h=>by simp[hat,h],fun h8=>⟨fun h=>by rw[hat,if_neg (by omega),if_pos (by omega)];simp,fun h=> .of (placed_ok t l r ht h2 h3 h4 h7) ?_⟩⟩
 rw[hat,if_neg (by omega),if_neg (by omega)]
 simp[mRowS]
theorem rowSetI_ok (t:GTable) (l:List GRow) (key:List GVal) (r:GRow) (ht:okTable t) (hk:t.fKeys.length≤1048576) (hl:okRowS l) (hkey:okM key.length) (hr:okRow r):VC Tryz.prog 204 [vTable t,vRowS l,vValS key,vRow r] [(false,mRowS (rowSet t l key r).1),(false,[(.s,.sc (.int .i64 (rowSet t l key r).2))])]:=by
 refine vc_of_ew good hm [0,1,2,3,4,7,8,9,12,17,22,10,47,11] Tryz.func204 rfl (by kernel_rfl) (by kernel_rfl) rfl ?_
 simp[Tryz.f204,mRowS]
 refine .of (rowsOkI_ok t l ht hl hk) ?_
 simp
 refine ⟨fun h=>by simp[rowSet,h],fun h1=> .of (rowOkI_ok t r ht hr.1.1) ?_⟩
 obtain ⟨h2,h3,h4,h5,h6⟩:=rowsOk_inv h1
 have hM:okM l.length:=by unfold okM;omega
 simp
 refine ⟨fun h=>by simp[rowSet,h1,h],fun h7=> .of (keyOkI_ok t key ht hkey) ?_⟩
 simp
 refine .of (fun g=>⟨g,rowAt_ok t l key ht hk hM h5⟩) ?_
 simp
 refine ⟨fun h=> ?_,fun g1 g2=> .of (keyI_ok t r ht hk (tableOk_keys h2 h7)) ?_⟩
 ·have:rowSet t l key r=([],5):=by
   unfold rowSet
   rw[if_neg (by simp[h1]),if_neg (by simp[h7]),if_pos h]
  simp[this]
 obtain ⟨k,hk'⟩: ∃k:Nat,keyAt t l key=k:=⟨_,(Int.toNat_of_nonneg g2).symm⟩
 have hb:=keyAt_bd t l key
 have hset:rowSet t l key r=if eqRows veq dVal (keyOf t r) key=false∧0≤keyAt t l (keyOf t r) then ([],3) else (insW (fun x=>rowLt t x r) r (l.eraseIdx (keyAt t l key).toNat),0):=by
  unfold rowSet
  rw[if_neg (by simp[h1]),if_neg (by simp[h7]),if_neg (by simp[g1];omega)]
 simp[mValS]
 refine .of (equalVal_ok (keyOf t r) key (by rw[keyOf_len];unfold okM;omega)) ?_
 simp
 refine .of (fun g=>⟨g,rowAt_ok t l (keyOf t r) ht hk hM h5⟩) ?_
 simp
 refine ⟨fun q1 q2=>by rw[hset,if_pos ⟨q1,q2⟩];simp,fun q=> ?_⟩
 have hat:=rowAt_ok t l key ht hk hM h5
 rw[hk'] at hat
 refine .of hat ?_
 simp
 refine .of (copyRows_ok l (by omega) h6) ?_
 simp[mRowS,wrapS (show k<9223372036854775807 by omega)]
 refine .use (vx_del (i:=k) (rows:=l.map eRow) (z:= [.ls [.sc (.int .i64 0),.sc (.int .i64 0),.sc (.string ⟨#[]⟩)] []]) (cols:=fun _=> [.o 234 (fun _=> [.s,.s,.s])]) ⟨_,_,Tryz.func320,rfl,by kernel_rfl⟩ rawDel_Row (by decide) rfl (by simp;omega)) ?_
 simp[colsD_const]
 have hrest:rowsOk t (l.eraseIdx k)=true:=rowsOk_erase h1 k
 obtain ⟨e2,e3,e4,e5,e6⟩:=rowsOk_inv hrest
 have he:l.take k++l.drop (k+1)=l.eraseIdx k:=(List.eraseIdx_eq_take_drop_succ l k).symm
 have hpl:=placed_ok t (l.eraseIdx k) r ht h2 e3 e4 h7
 have hme:(l.map eRow).take k++(l.map eRow).drop (k+1)=(l.eraseIdx k).map eRow:=by rw[←he,List.map_append,List.map_take,List.map_drop]
 rw[hme]
 refine ⟨of_eq_true (full_RowS _),.of hpl ?_⟩
 simp[mRowS]
 rw[hset,if_neg (fun h=>by have:=q h.1;omega),hk']
 simp
theorem rowOutI_ok (t:GTable) (l:List GRow) (key:List GVal) (ht:okTable t) (hk:t.fKeys.length≤1048576) (hl:okRowS l) (hkey:okM key.length):VC Tryz.prog 205 [vTable t,vRowS l,vValS key] [(false,mRowS (rowOut t l key).1),(false,[(.s,.sc (.int .i64 (rowOut t l key).2))])]:=by
 refine vc_of_ew good hm [0,1,2,3,6,7,9,14,8] Tryz.func205 rfl (by kernel_rfl) (by kernel_rfl) rfl ?_
 simp[Tryz.f205,mRowS]
 refine .of (rowsOkI_ok t l ht hl hk) ?_
 simp
 refine ⟨fun h=>by simp[rowOut,h],fun h1=> .of (keyOkI_ok t key ht hkey) ?_⟩
 obtain ⟨h2,h3,h4,h5,h6⟩:=rowsOk_inv h1
 have hM:okM l.length:=by unfold okM;omega
 simp
 refine .of (fun g=>⟨g,rowAt_ok t l key ht hk hM h5⟩) ?_
 simp
 refine ⟨fun h=> ?_,fun g1 g2=> ?_⟩
 ·have:rowOut t l key=([],5):=by
   unfold rowOut
   rw[if_neg (by simp[h1]),if_pos h]
  simp[this]
 ·obtain ⟨k,hk'⟩: ∃k:Nat,keyAt t l key=k:=⟨_,(Int.toNat_of_nonneg g2).symm⟩
  have hb:=keyAt_bd t l key
  have hat:=rowAt_ok t l key ht hk hM h5
  rw[hk'] at hat
  have hout:rowOut t l key=(l.eraseIdx k,0):=by
   unfold rowOut
   rw[if_neg (by simp[h1]),if_neg (by simp[g1];omega),hk']
   rfl
  refine .of hat ?_
  simp
  refine .of (copyRows_ok l (by omega) h6) ?_
  simp[mRowS,wrapS (show k<9223372036854775807 by omega)]
  refine .use (vx_del (i:=k) (rows:=l.map eRow) (z:= [.ls [.sc (.int .i64 0),.sc (.int .i64 0),.sc (.string ⟨#[]⟩)] []]) (cols:=fun _=> [.o 234 (fun _=> [.s,.s,.s])]) ⟨_,_,Tryz.func320,rfl,by kernel_rfl⟩ rawDel_Row (by decide) rfl (by simp;omega)) ?_
  simp[colsD_const]
  rw[hout,List.eraseIdx_eq_take_drop_succ]
  simp
end Go.Proofs.YteeolohhmfjafaaGreat
namespace Go.Proofs.YteeolohhmfjafaaGreat
open Go Go.Proofs Go.Sm
attribute [local simp] ti eStr eInt eByte eVal cVal vVal eValS vValS eRow cRow vRow eCol cCol vCol vColS eStrS vStrS eDdl cDdl vDdl cStmt vStmt ePart vPart vPartS eTable cTable vTable vTableS cCat vCat vRowS eRows vRows vRowsS eDb cDb vDb eFol vFol eSnap cSnap vSnap
set_option linter.unusedVariables false
set_option linter.unusedSimpArgs false
set_option maxRecDepth 8000
def mapSt (t:GTable) (l:List GRow) (cols keys:List ByteArray) (s:GStmt):GStmt×Int:=
 if drift cols keys t≠0 then (dStmt,drift cols keys t) else
 if s.fKind=1 then (if (mapRow cols t s.fRow.fVals []).2≠0 then (dStmt,(mapRow cols t s.fRow.fVals []).2) else (⟨1,s.fTable,[],(mapRow cols t s.fRow.fVals []).1,dDdl⟩,0)) else
 if s.fKind=4 then (⟨4,s.fTable,[],⟨[]⟩,dDdl⟩,0) else
 if (mapKey keys t s.fKey).2≠0 then (dStmt,(mapKey keys t s.fKey).2) else
 if s.fKind=3 then (⟨3,s.fTable,(mapKey keys t s.fKey).1,⟨[]⟩,dDdl⟩,0) else
 if (mapRow cols t s.fRow.fVals []).2≠0 then (dStmt,(mapRow cols t s.fRow.fVals []).2) else
 (⟨2,s.fTable,(mapKey keys t s.fKey).1,(mapRow cols t s.fRow.fVals (if 0≤keyAt t l (mapKey keys t s.fKey).1 then (l[(keyAt t l (mapKey keys t s.fKey).1).toNat]?.getD dRow).fVals else [])).1,dDdl⟩,0)
def mapStP (d:GDb) (p:GPart):GStmt×Int:=
 if p.fStmt.fKind=5 then (p.fStmt,0) else if tabAt d.fCat.fTables p.fStmt.fTable<0 then (dStmt,10) else mapSt (tabOf d.fCat p.fStmt.fTable) (dataOf d (dbIx d p.fStmt.fTable)) p.fCols p.fKeys p.fStmt
def mapStmt (d:GDb) (p:GPart):GStmt×Int:=if dbOk d=false∨stmtOk p.fStmt=false then (dStmt,1) else mapStP d p
theorem drift_0 {cols keys:List ByteArray} {t:GTable} (h:drift cols keys t=0):tableOk t=true∧once cols=true∧unk t cols=false∧ ∀c∈t.fCols,lackAt cols c=false:=by
 unfold drift at h
 split at h
 ·cases h
 rename_i h1
 split at h
 ·cases h
 rename_i h2
 split at h
 ·cases h
 split at h
 ·cases h
 rename_i h3
 simp only[Bool.not_eq_true',Bool.not_eq_false,Bool.and_eq_true,Bool.not_eq_true,List.any_eq_false] at h1 h2 h3
 exact ⟨h1.1.1.1,h1.1.1.2,h2,h3⟩
theorem rowBy_at (cols:List ByteArray) (t:GTable) (vals other:List GVal) {n i:Nat} (h:i<n):(rowBy cols t vals other n)[i]?.getD dVal=byName cols t vals other i:=by
 simp[rowBy,h]
theorem fit_other {cols keys:List ByteArray} {t:GTable} (h:drift cols keys t=0) (vals:List GVal) {other:List GVal} (ho:rowFit t ⟨other⟩=true):rowFit t ⟨rowBy cols t vals other t.fCols.length⟩=rowFit t ⟨rowBy cols t vals [] t.fCols.length⟩:=by
 obtain ⟨h1,h2,h3,h4⟩:=drift_0 h
 have h1':=(tableOk_iff t).1 h1
 obtain ⟨o1,o2⟩:=(rowFit_iff t _).1 ho
 simp only at o1 o2
 rw[Bool.eq_iff_iff,rowFit_iff,rowFit_iff]
 simp only[rowBy_len,true_and]
 refine forall_congr' fun i=>forall_congr' fun hi=> ?_
 rw[rowBy_at _ _ _ _ hi,rowBy_at _ _ _ _ hi]
 unfold byName
 split
 ·exact Iff.rfl
 rename_i hx
 have hm:t.fCols[i]?.getD dCol∈t.fCols:=getD_mem dCol hi
 rw[if_pos (by omega),if_neg (by simp;omega)]
 have hs:=stands_def (h1'.2.2.2.2.1 _ hm) (by
  have hl:=h4 _ hm
  unfold lackAt at hl
  have hh:has cols (t.fCols[i]?.getD dCol).fName=false:=by
   rw[←idxS_has]
   simpa using hx
  rw[hh] at hl
  cases a:(t.fCols[i]?.getD dCol).fHas<;>cases b:(t.fCols[i]?.getD dCol).fNot<;>simp_all)
 rw[hs]
 exact iff_of_true (o2 i hi) rfl
theorem mapRow_other {cols keys:List ByteArray} {t:GTable} (h:drift cols keys t=0) (vals:List GVal) {other:List GVal} (ho:rowFit t ⟨other⟩=true):(mapRow cols t vals other).2=(mapRow cols t vals []).2:=by
 unfold mapRow
 rw[fit_other h vals ho]
 split
 ·rfl
 split
 ·rfl
 split<;>rfl
theorem mapRow_ok {cols:List ByteArray} {t:GTable} {vals other:List GVal} (h:(mapRow cols t vals other).2=0):tableOk t=true∧rowFit t (mapRow cols t vals other).1=true∧(mapRow cols t vals other).1=⟨rowBy cols t vals other t.fCols.length⟩:=by
 unfold mapRow at h⊢
 split at h
 ·cases h
 rename_i h1
 split at h
 ·cases h
 rename_i h2
 split at h
 ·rename_i h3
  rw[if_neg h1,if_neg h2,if_pos h3]
  simp only[Bool.not_eq_true',Bool.not_eq_false,Bool.and_eq_true] at h1
  exact ⟨h1.1.1,h3,rfl⟩
 ·cases h
theorem mapKey_ok {keys:List ByteArray} {t:GTable} {vals:List GVal} (h:(mapKey keys t vals).2=0):keyOk t (mapKey keys t vals).1=true:=by
 unfold mapKey at h⊢
 split at h
 ·cases h
 rename_i h1
 split at h
 ·cases h
 rename_i h2
 split at h
 ·rename_i h3
  rw[if_neg h1,if_neg h2,if_pos h3]
  exact h3
 ·cases h
theorem fit_valsOk {t:GTable} {r:GRow} (ht:tableOk t=true) (h:rowFit t r=true):valsOk r.fVals=true:=by
 have h1:=(tableOk_iff t).1 ht
 have h2:=(rowFit_iff t r).1 h
 have h3:=rowFit_vals h
 simp only[valsOk,within,Bool.and_eq_true,decide_eq_true_eq,Bool.not_eq_true',List.any_eq_false,Bool.not_eq_true]
 exact ⟨by omega,fun v hv=>by simp[h3 v hv]⟩
theorem key_valsOk {t:GTable} {k:List GVal} (h:keyOk t k=true):valsOk k=true:=by
 simp only[keyOk,kvTo,kvAt,Bool.and_eq_true,decide_eq_true_eq,List.all_eq_true,List.mem_range] at h
 have h1:=(tableOk_iff t).1 h.1
 have h2:=h1.2.2.2.2.2.2.1.length_le
 simp only[cnm,List.length_map] at h2
 have h3:=List.length_pos_iff.2 h1.2.2.2.1
 simp only[valsOk,within,Bool.and_eq_true,decide_eq_true_eq,Bool.not_eq_true',List.any_eq_false,Bool.not_eq_true]
 refine ⟨by omega,fun v hv=> ?_⟩
 obtain ⟨i,hi,rfl⟩:=List.getElem_of_mem hv
 have:=(h.2.2 i (by omega)).1
 rw[List.getElem?_eq_getElem hi] at this
 simpa using this
theorem noDdl_d:noDdl dDdl=true:=by simp[noDdl,dDdl,em]
theorem em_e {s:ByteArray} (h:em s=true):s=⟨#[]⟩:=by
 unfold em at h
 rw[List.isEmpty_iff,Lib.toList_data] at h
 obtain ⟨a⟩:=s
 have h:a.toList= []:=h
 rw[Array.toList_eq_nil_iff] at h
 rw[h]
theorem noDdl_eq {d:GDdl} (h:noDdl d=true):d=dDdl:=by
 simp only[noDdl,Bool.and_eq_true,decide_eq_true_eq,List.isEmpty_iff] at h
 obtain ⟨h1,h2,h3,h4,h5,h6⟩:=h
 have h2:=em_e h2
 have h5:=em_e h5
 have h6:=em_e h6
 cases d
 simp_all [dDdl]
theorem stmtOk_k {s:GStmt} (h:stmtOk s=true):wordOk s.fTable=true∧((s.fKind=1∧s.fKey= []∧valsOk s.fRow.fVals=true∧s.fDdl=dDdl)∨(s.fKind=2∧valsOk s.fKey=true∧valsOk s.fRow.fVals=true∧s.fDdl=dDdl)∨(s.fKind=3∧valsOk s.fKey=true∧s.fRow.fVals= []∧s.fDdl=dDdl)∨(s.fKind=4∧s.fKey= []∧s.fRow.fVals= []∧s.fDdl=dDdl)∨s.fKind=5):=by
 simp only[stmtOk,Bool.and_eq_true,Bool.or_eq_true,decide_eq_true_eq,List.isEmpty_iff] at h
 refine ⟨h.1, ?_⟩
 rcases h.2 with (((h|h)|h)|h)|h
 ·exact .inl ⟨h.1,h.2.1.1,h.2.1.2,noDdl_eq h.2.2⟩
 ·exact .inr (.inl ⟨h.1,h.2.1.1,h.2.1.2,noDdl_eq h.2.2⟩)
 ·exact .inr (.inr (.inl ⟨h.1,h.2.1.1,h.2.1.2,noDdl_eq h.2.2⟩))
 ·exact .inr (.inr (.inr (.inl ⟨h.1,h.2.1.1,h.2.1.2,noDdl_eq h.2.2⟩)))
 ·exact .inr (.inr (.inr (.inr h.1)))
theorem tab_data {d:GDb} (hd:dbOk d=true) {s:ByteArray} (h:0≤tabAt d.fCat.fTables s):tableOk (tabOf d.fCat s)=true∧rowsOk (tabOf d.fCat s) (dataOf d (dbIx d s))=true∧(tabAt d.fCat.fTables s).toNat<d.fCat.fTables.length∧(tabAt d.fCat.fTables s).toNat<d.fData.length:=by
 have hb:=tabAt_bd d.fCat.fTables s
 have hl:=dbOk_len hd
 have h1:(tabAt d.fCat.fTables s).toNat<d.fCat.fTables.length:=by omega
 have h2:=((dbOk_iff d).1 hd).2.2 _ h1
 refine ⟨dbOk_tab hd _ (getD_mem dTable h1), ?_,h1,by omega⟩
 unfold tabOf dataOf dbIx
 exact h2
theorem rowsOk_row {t:GTable} {l:List GRow} (h:rowsOk t l=true) {k:List GVal} (hk:0≤keyAt t l k):rowFit t (l[(keyAt t l k).toNat]?.getD dRow)=true:=by
 have hb:=keyAt_bd t l k
 exact (rowsOk_inv h).2.2.1 _ (getD_mem dRow (by omega))
theorem mapSt_ok {t:GTable} {l:List GRow} {cols keys:List ByteArray} {s:GStmt} (hr:rowsOk t l=true) (hs:stmtOk s=true) (h:(mapSt t l cols keys s).2=0):stmtOk (mapSt t l cols keys s).1=true:=by
 obtain ⟨hw,hk⟩:=stmtOk_k hs
 unfold mapSt at h⊢
 split at h
 ·exact absurd h (by assumption)
 rename_i h0
 rw[if_neg h0]
 have h0:drift cols keys t=0:=by omega
 split at h
 ·rename_i k1
  rw[if_pos k1]
  split at h
  ·exact absurd h (by assumption)
  rename_i h1
  rw[if_neg h1]
  obtain ⟨q1,q2,q3⟩:=mapRow_ok (show (mapRow cols t s.fRow.fVals []).2=0 by omega)
  simp[stmtOk,hw,fit_valsOk q1 q2,noDdl_d]
 rename_i k1
 rw[if_neg k1]
 split at h
 ·rename_i k4
  rw[if_pos k4]
  simp[stmtOk,hw,noDdl_d]
 rename_i k4
 rw[if_neg k4]
 split at h
 ·exact absurd h (by assumption)
 rename_i h2
 rw[if_neg h2]
 have hq:=key_valsOk (mapKey_ok (show (mapKey keys t s.fKey).2=0 by omega))
 split at h
 ·rename_i k3
  rw[if_pos k3]
  simp[stmtOk,hw,noDdl_d,hq]
 rename_i k3
 rw[if_neg k3]
 split at h
 ·exact absurd h (by assumption)
 rename_i h3
 rw[if_neg h3]
 have hz: ∀o:List GVal,(o= []∨rowFit t ⟨o⟩=true)→valsOk (mapRow cols t s.fRow.fVals o).1.fVals=true:=fun o ho=>by
  have:(mapRow cols t s.fRow.fVals o).2=0:=by
   rcases ho with rfl|ho
   ·omega
   ·rw[mapRow_other h0 _ ho];omega
  obtain ⟨q1,q2,q3⟩:=mapRow_ok this
  exact fit_valsOk q1 q2
 have hv:=hz (if 0≤keyAt t l (mapKey keys t s.fKey).1 then (l[(keyAt t l (mapKey keys t s.fKey).1).toNat]?.getD dRow).fVals else []) (by
  split
  ·rename_i hk
   exact .inr (rowsOk_row hr hk)
  ·exact .inl rfl)
 simp[stmtOk,hw,noDdl_d,hq,hv]
theorem mapStP_ok {d:GDb} {p:GPart} (hd:dbOk d=true) (hs:stmtOk p.fStmt=true) (h:(mapStP d p).2=0):stmtOk (mapStP d p).1=true:=by
 unfold mapStP at h⊢
 split at h
 ·rename_i k;rw[if_pos k];exact hs
 rename_i k
 rw[if_neg k]
 split at h
 ·cases h
 rename_i k2
 rw[if_neg k2]
 exact mapSt_ok (tab_data hd (by omega)).2.1 hs h
def keptAt (cols:List ByteArray) (t:GTable) (r was:List GVal) (n i:Nat):GVal:=if i<n∧has cols (t.fCols[i]?.getD dCol).fName=false then was[i]?.getD dVal else r[i]?.getD dVal
def keptTo (cols:List ByteArray) (t:GTable) (r was:List GVal) (n:Nat):List GVal:=(List.range r.length).map (keptAt cols t r was n)
theorem keptTo_len (cols:List ByteArray) (t:GTable) (r was:List GVal) (n:Nat):(keptTo cols t r was n).length=r.length:=by simp[keptTo]
theorem keptTo_zero (cols:List ByteArray) (t:GTable) (r was:List GVal):keptTo cols t r was 0=r:=by
 apply List.ext_getElem
 ·simp[keptTo]
 ·intro i h1 h2
  simp[keptTo,keptAt,h2]
theorem keptTo_succ (cols:List ByteArray) (t:GTable) (r was:List GVal) {n:Nat}:keptTo cols t r was (n+1)=if has cols (t.fCols[n]?.getD dCol).fName=false then (keptTo cols t r was n).set n (was[n]?.getD dVal) else keptTo cols t r was n:=by
 split
 ·rename_i h
  apply List.ext_getElem
  ·simp[keptTo]
  ·intro i h1 h2
   simp only[keptTo,List.getElem_map,List.getElem_range,List.getElem_set,keptAt]
   by_cases e:n=i
   ·subst e;rw[if_pos ⟨by omega,h⟩];simp
   ·simp only[e,if_false]
    by_cases e2:i<n
    ·simp[e2,show i<n+1 by omega]
    ·simp[e2,show¬i<n+1 by omega]
 ·rename_i h
  unfold keptTo
  refine List.map_congr_left fun i hi=> ?_
  unfold keptAt
  by_cases e:n=i
  ·subst e;simp[h]
  ·by_cases e2:i<n
   ·simp[e2,show i<n+1 by omega]
   ·simp[e2,show¬i<n+1 by omega]
theorem kept_row (cols:List ByteArray) (t:GTable) (vals was:List GVal) (hw:was.length=t.fCols.length) (hp:0<t.fCols.length):keptTo cols t (rowBy cols t vals [] t.fCols.length) was t.fCols.length=rowBy cols t vals was t.fCols.length:=by
 unfold keptTo
 rw[rowBy_len]
 unfold rowBy
 refine List.map_congr_left fun i hi=> ?_
 have hi:=List.mem_range.1 hi
 unfold keptAt
 have hr:=rowBy_at cols t vals [] hi
 unfold rowBy at hr
 rw[hr]
 have hx:=idxS_has cols (t.fCols[i]?.getD dCol).fName
 unfold byName
 by_cases h:0≤idxS cols (t.fCols[i]?.getD dCol).fName
 ·rw[if_neg (by rw[←hx];simp[h]),if_pos h,if_pos h]
 ·rw[if_pos ⟨hi,by rw[←hx];simp[h]⟩,if_neg h,if_pos (by omega)]
end Go.Proofs.YteeolohhmfjafaaGreat
namespace Go.Proofs.YteeolohhmfjafaaGreat
open Go Go.Proofs Go.Sm
attribute [local simp] ti eStr eInt eByte eVal cVal vVal eValS vValS eRow cRow vRow eCol cCol vCol vColS eStrS vStrS eDdl cDdl vDdl cStmt vStmt ePart vPart vPartS eTable cTable vTable vTableS cCat vCat vRowS eRows vRows vRowsS eDb cDb vDb eFol vFol eSnap cSnap vSnap
set_option linter.unusedVariables false
set_option linter.unusedSimpArgs false
set_option maxRecDepth 8000
end Go.Proofs.YteeolohhmfjafaaGreat
namespace Go.Proofs.YteeolohhmfjafaaGreat
open Go Go.Proofs Go.Sm
attribute [local simp] ti eStr eInt eByte eVal cVal vVal eValS vValS eRow cRow vRow eCol cCol vCol vColS eStrS vStrS eDdl cDdl vDdl cStmt vStmt ePart vPart vPartS eTable cTable vTable vTableS cCat vCat vRowS eRows vRows vRowsS eDb cDb vDb eFol vFol eSnap cSnap vSnap
set_option linter.unusedVariables false
set_option linter.unusedSimpArgs false
set_option maxRecDepth 8000
def fillR (k:Nat) (v:GVal) (r:GRow):GRow:=⟨r.fVals.set k v⟩
def addCol (d:GDb) (k:Nat) (c:GCol):GCol:=(d.fCat.fTables[k]?.getD dTable).fCols[(colAt (d.fCat.fTables[k]?.getD dTable) c.fName).toNat]?.getD dCol
def takeAdd (d:GDb) (k:Nat) (c:GCol):GDb×Int:=
 if (addCol d k c).fTy≠c.fTy then (dDb,15) else
 if dataOf d k≠ []∧(stands (addCol d k c) c.fDef=false∨has (d.fCat.fTables[k]?.getD dTable).fKeys c.fName=true) then (dDb,14) else
 (⟨d.fCat,d.fData.set k ⟨(dataOf d k).map (fillR (colAt (d.fCat.fTables[k]?.getD dTable) c.fName).toNat c.fDef)⟩⟩,0)
theorem fill_key {t:GTable} {n:ByteArray} (hn:0≤colAt t n) (hk:has t.fKeys n=false) (v:GVal) (r:GRow) (ht:tableOk t=true):keyOf t (fillR (colAt t n).toNat v r)=keyOf t r:=by
 unfold keyOf
 refine List.map_congr_left fun k hkm=> ?_
 have h1:=(tableOk_iff t).1 ht
 have hkc:k∈cnm t.fCols:=h1.2.2.2.2.2.2.1.mem hkm
 have hnc:=colAt_nn.1 hn
 have hne:(colAt t k).toNat≠(colAt t n).toNat:=fun e=>by
  rw[colAt_toNat hkc,colAt_toNat hnc] at e
  have e2:k=n:=by
   have a:=pos_get hkc
   have b:=pos_get hnc
   rw[←a,←b]
   simp only[e]
  subst e2
  rw[(hasS_iff _ _).2 hkm] at hk
  cases hk
 simp only[fillR]
 rw[List.getElem?_set_ne (fun e=>hne e.symm)]
theorem fill_rows {t:GTable} {l:List GRow} {n:ByteArray} {v:GVal} (hr:rowsOk t l=true) (hn:0≤colAt t n) (h:l= []∨(stands (t.fCols[(colAt t n).toNat]?.getD dCol) v=true∧has t.fKeys n=false)):rowsOk t (l.map (fillR (colAt t n).toNat v))=true:=by
 rcases h with rfl|⟨h1,h2⟩
 ·exact hr
 obtain ⟨q1,q2,q3,q4⟩:=(rowsOk_iff t l).1 hr
 rw[rowsOk_iff]
 refine ⟨q1,by simpa using q2,fun r hrm=> ?_, ?_⟩
 ·obtain ⟨x,hx,rfl⟩:=List.mem_map.1 hrm
  have hx:=(rowFit_iff t x).1 (q3 x hx)
  rw[rowFit_iff]
  refine ⟨by simpa [fillR] using hx.1,fun i hi=> ?_⟩
  simp only[fillR]
  by_cases e:(colAt t n).toNat=i
  ·subst e
   rw[List.getElem?_set_self (by omega)]
   exact h1
  ·rw[List.getElem?_set_ne e]
   exact hx.2 i hi
 ·rw[List.pairwise_map]
  refine q4.imp_of_mem fun {a b} ha hb hab=> ?_
  unfold rowLt at hab⊢
  rw[fill_key hn h2 v a q1,fill_key hn h2 v b q1]
  exact hab
theorem set_data {d:GDb} (hd:dbOk d=true) {k:Nat} {l:List GRow} (hk:k<d.fCat.fTables.length) (h:rowsOk (d.fCat.fTables[k]?.getD dTable) l=true):dbOk ⟨d.fCat,d.fData.set k ⟨l⟩⟩=true:=by
 rw[dbOk_iff] at hd⊢
 obtain ⟨g1,g2,g3⟩:=hd
 refine ⟨g1,by simpa using g2,fun i hi=> ?_⟩
 show rowsOk (d.fCat.fTables[i]?.getD dTable) ((d.fData.set k ⟨l⟩)[i]?.getD dRows).fRows=true
 rw[List.getElem?_set]
 by_cases hi2:k=i
 ·subst hi2
  rw[if_pos rfl,if_pos (by omega)]
  exact h
 ·rw[if_neg hi2]
  exact g3 i hi
theorem takeAdd_ok {d:GDb} {k:Nat} {c:GCol} (hd:dbOk d=true) (hk:k<d.fCat.fTables.length) (hc:0≤colAt (d.fCat.fTables[k]?.getD dTable) c.fName) (h:(takeAdd d k c).2=0):dbOk (takeAdd d k c).1=true:=by
 unfold takeAdd at h⊢
 split at h
 ·cases h
 rename_i h1
 rw[if_neg h1]
 split at h
 ·cases h
 rename_i h2
 rw[if_neg h2]
 refine set_data hd hk (fill_rows (((dbOk_iff d).1 hd).2.2 k hk) hc ?_)
 by_cases e:dataOf d k= []
 ·exact .inl e
 ·refine .inr ⟨?_, ?_⟩
  ·cases q:stands (addCol d k c) c.fDef with
   |true=>exact q
   |false=>exact absurd ⟨e,.inl q⟩ h2
  ·cases q:has (d.fCat.fTables[k]?.getD dTable).fKeys c.fName with
   |false=>rfl
   |true=>exact absurd ⟨e,.inr q⟩ h2
def takeDdl (d:GDb) (s:GStmt):GDb×Int:=
 if tabAt d.fCat.fTables s.fTable<0 then (if s.fDdl.fKind=2 then (d,0) else dbExec d s) else
 if s.fDdl.fKind=1 then (if dataOf d (dbIx d s.fTable)≠ [] then (dDb,16) else if drift (colNames s.fDdl.fCols) s.fDdl.fKeys (tabOf d.fCat s.fTable)≠0 then (dDb,drift (colNames s.fDdl.fCols) s.fDdl.fKeys (tabOf d.fCat s.fTable)) else (d,0)) else
 if s.fDdl.fKind=3∧0≤colAt (tabOf d.fCat s.fTable) (col0 s.fDdl).fName then takeAdd d (dbIx d s.fTable) (col0 s.fDdl) else
 if s.fDdl.fKind=4∧colAt (tabOf d.fCat s.fTable) s.fDdl.fName<0 then (d,0) else
 if s.fDdl.fKind=5∧colAt (tabOf d.fCat s.fTable) s.fDdl.fName<0∧0≤colAt (tabOf d.fCat s.fTable) s.fDdl.fTo then (d,0) else dbExec d s
theorem takeDdl_ok {d:GDb} {s:GStmt} (hd:dbOk d=true) (h:(takeDdl d s).2=0):dbOk (takeDdl d s).1=true:=by
 unfold takeDdl at h⊢
 split at h
 ·rename_i h1
  rw[if_pos h1]
  split at h
  ·rename_i h2;rw[if_pos h2];exact hd
  ·rename_i h2;rw[if_neg h2];exact dbExec_ok hd h
 rename_i h1
 rw[if_neg h1]
 have hb:=tabAt_bd d.fCat.fTables s.fTable
 split at h
 ·rename_i h2
  rw[if_pos h2]
  split at h
  ·cases h
  rename_i h3
  rw[if_neg h3]
  split at h
  ·exact absurd h (by assumption)
  rename_i h4
  rw[if_neg h4]
  exact hd
 rename_i h2
 rw[if_neg h2]
 split at h
 ·rename_i h3
  rw[if_pos h3]
  exact takeAdd_ok hd (show dbIx d s.fTable<_ by unfold dbIx;omega) h3.2 h
 rename_i h3
 rw[if_neg h3]
 split at h
 ·rename_i h4;rw[if_pos h4];exact hd
 rename_i h4
 rw[if_neg h4]
 split at h
 ·rename_i h5;rw[if_pos h5];exact hd
 rename_i h5
 rw[if_neg h5]
 exact dbExec_ok hd h
def takeP (d:GDb) (p:GPart):GDb×Int:=
 if p.fStmt.fKind=5 then takeDdl d p.fStmt else if (mapStP d p).2≠0 then (dDb,(mapStP d p).2) else dbExec d (mapStP d p).1
theorem takeP_ok {d:GDb} {p:GPart} (hd:dbOk d=true) (h:(takeP d p).2=0):dbOk (takeP d p).1=true:=by
 unfold takeP at h⊢
 split at h
 ·rename_i k;rw[if_pos k];exact takeDdl_ok hd h
 rename_i k
 rw[if_neg k]
 split at h
 ·exact absurd h (by assumption)
 rename_i k2
 rw[if_neg k2]
 exact dbExec_ok hd h
def takePart (d:GDb) (p:GPart):GDb×Int:=if dbOk d=false∨stmtOk p.fStmt=false then (dDb,1) else takeP d p
def takeL:GDb→List GPart→GDb×Int
 |d,[]=>(d,0)
 |d,p::r=>if (takeP d p).2≠0 then (dDb,(takeP d p).2) else takeL (takeP d p).1 r
theorem takeL_ok: ∀ {l:List GPart} {d:GDb},dbOk d=true→(takeL d l).2=0→dbOk (takeL d l).1=true
 | [],d,hd,_=>hd
 |p::r,d,hd,h=>by
  rw[takeL] at h⊢
  split at h
  ·exact absurd h (by assumption)
  rename_i k
  rw[if_neg k]
  exact takeL_ok (takeP_ok hd (by omega)) h
end Go.Proofs.YteeolohhmfjafaaGreat
namespace Go.Proofs.YteeolohhmfjafaaGreat
open Go Go.Proofs Go.Sm
attribute [local simp] ti eStr eInt eByte eVal cVal vVal eValS vValS eRow cRow vRow eCol cCol vCol vColS eStrS vStrS eDdl cDdl vDdl cStmt vStmt ePart vPart vPartS eTable cTable vTable vTableS cCat vCat vRowS eRows vRows vRowsS eDb cDb vDb eFol vFol eSnap cSnap vSnap
set_option linter.unusedVariables false
set_option linter.unusedSimpArgs false
set_option maxRecDepth 8000
theorem sameVals_ok (a b:List GVal) (ha:okM a.length):VC Tryz.prog 336 [vValS a,vValS b] [(false,[(.s,.sc (.bool (eqRows veq dVal a b)))])]:=by
 unfold okM at ha
 refine vc_of_ew good hm [0,1,4,10,12,13,14,5,24] Tryz.func336 rfl (by kernel_rfl) (by kernel_rfl) rfl ?_
 simp[Tryz.f336]
 refine ⟨fun h=>by simp[eqRows,h],fun hl=> ?_⟩
 refine ew_loop (fun E=> ∃i:Nat,i≤a.length∧eqTo veq dVal a b i=true∧E= {nt:=26,sl:= [(0,vValS a),(1,vValS b),(12,int .i64 a.length),(13,int .i64 i)],bx:= [],rt:= []}) (fun E=>a.length- (E.num 13).toNat) _ (Gh.kb _ [0,1,12,13] [] []) ⟨0,by omega,by simp[eqTo],by simp⟩ ?_
 rintro E1 ⟨i,hi,hall,rfl⟩
 simp
 have hat:veq (a[i]?.getD dVal) (b[i]?.getD dVal)=((a[i]?.getD dVal).fTy==(b[i]?.getD dVal).fTy&& ((a[i]?.getD dVal).fN==(b[i]?.getD dVal).fN&& (a[i]?.getD dVal).fS.toList==(b[i]?.getD dVal).fS.toList)):=rfl
 refine ⟨fun h=>⟨h,by omega, ?_⟩,fun h=> ?_⟩
 ·refine ⟨fun hb=> ?_,fun h1 h2 h3=> .of _ (Gh.kb _ [0,1,12,13] [] []) ⟨i+1,by omega,by rw[eqTo_succ,hall,hat];simp[h1,h2,h3], ?_⟩ ?_⟩
  ·have:=eqTo_no (eq:=veq) (d:=dVal) (a:=a) (b:=b) h (by rw[hat];grind)
   simp[eqRows,this]
  ·simp[wrapS (show i<9223372036854775807 by omega)]
  ·simp[wrapS (show i<9223372036854775807 by omega)];omega
 ·have:i=a.length:=by omega
  subst this
  simp[eqRows,hall,hl]
theorem l03Copy_ok (l:List GRow) (hl:l.length≤1048576) (hb: ∀r∈l,r.fVals.length≤1048576):VC Tryz.prog 245 [vRowS l] [(false,mRowS l)]:=by
 refine vc_of_ew good hm [0,2,3,7,8,9,10,5] Tryz.func245 rfl (by kernel_rfl) (by kernel_rfl) rfl ?_
 simp[Tryz.f245,mRowS]
 refine ew_loop (fun E=> ∃i:Nat,i≤l.length∧E= {nt:=20,sl:= [(3,.v false [.r [6]]),(7,vRowS l),(8,int .i64 l.length),(9,int .i64 i)],bx:= [],rt:=(mRowS (l.take i)).map fun y=>(6,y)}) (fun E=>l.length- (E.num 9).toNat) _ (Gh.kb _ [3,7,8,9] [] [6]) ⟨0,by omega,by simp[mRowS]⟩ ?_
 rintro E1 ⟨i,hi,rfl⟩
 simp[mRowS]
 refine ⟨fun h=>⟨h,.of (l03Row_ok _ (hb _ (getD_mem dRow h))) ?_⟩,fun h=> ?_⟩
 ·simp[mRow]
  refine ⟨by omega,.of _ ((Gh.kb _ [3,7,8,9] [] [17]).trans (Gh.rn _ 17 6)) ⟨i+1,by omega, ?_⟩ ?_⟩
  ·rw[take_rowM dRow h]
   simp[wrapS (show i<9223372036854775807 by omega),mRowS]
  ·simp[wrapS (show i<9223372036854775807 by omega)];omega
 ·have:i=l.length:=by omega
  subst this
  rw[←List.map_take,List.take_length]
theorem l03Lay_ok (t:GTable) (l:List GRow) (r:GRow) (ht:okTable t) (hk:t.fKeys.length≤1048576) (hl:l.length≤1048576) (hb: ∀x∈l,x.fVals.length≤1048576) (hbr:r.fVals.length≤1048576) (hin: ∀x∈l,keysIn t x) (hir:keysIn t r):VC Tryz.prog 334 [vTable t,vRowS l,vRow r] [(false,mRowS (insW (fun y=> !rowLt t r y) r l))]:=by
 refine vc_of_ew good hm [0,1,2,3,5,6,7,8,12,13,14,15,10,28,41] Tryz.func334 rfl (by kernel_rfl) (by kernel_rfl) rfl ?_
 simp[Tryz.f334,mRowS]
 refine ew_loop (fun E=> ∃i:Nat,i≤l.length∧E= {nt:=48,sl:= [(3,.p (.bx 3 0)),(5,.p (.bx 5 0)),(7,.v false [.r [11]]),(8,bool (anyT (fun y=>rowLt t r y) l i)),(12,vRowS l),(13,int .i64 l.length),(14,int .i64 i)],bx:= [(3,cTable t),(5,cRow r)],rt:=(mRowS (layTo (fun y=>rowLt t r y) r l i)).map fun y=>(11,y)}) (fun E=>l.length- (E.num 14).toNat) _ (Gh.kb _ [3,5,7,8,12,13,14] [3,5] [11]) ⟨0,by omega,by simp[mRowS,layTo_zero,anyT_zero]⟩ ?_
 rintro E1 ⟨i,hi,rfl⟩
 have hL:=layTo_len (fun y=>rowLt t r y) r l i
 simp[mRowS]
 have hb8: ∀x,okM (keyOf t x).length:=fun x=>by rw[keyOf_len];unfold okM;omega
 refine ⟨fun h=>⟨h,.of (fun g=>⟨g,keyS_ok t r ht hk hir⟩) ?_⟩,fun h=> ?_⟩
 ·simp[mValS]
  refine .of (fun g=>⟨g,keyS_ok t (l[i]?.getD dRow) ht hk (hin _ (getD_mem dRow h))⟩) ?_
  simp[mValS]
  refine .of (fun g=>⟨g,keyLessS_ok (keyOf t r) (keyOf t (l[i]?.getD dRow)) (hb8 _) (hb8 _)⟩) ?_
  simp
  have hs:=layTo_succ (fun y=>rowLt t r y) r dRow h
  have ha:=anyT_succ (fun y=>rowLt t r y) dRow h
  refine ⟨fun q1 q2=> .of (l03Row_ok r hbr) ?_,fun q=> .of (l03Row_ok (l[i]?.getD dRow) (hb _ (getD_mem dRow h))) ?_⟩
  ·rw[if_pos ⟨q1,q2⟩] at hs
   rw[q1,show rowLt t r (l[i]?.getD dRow)=true from q2] at ha
   simp[mRow]
   refine ⟨by omega,.of (l03Row_ok (l[i]?.getD dRow) (hb _ (getD_mem dRow h))) ?_⟩
   simp[mRow]
   refine ⟨by omega,.of _ ((Gh.kb _ [3,5,7,8,12,13,14] [3,5] [38]).trans (Gh.rn _ 38 11)) ⟨i+1,by omega, ?_⟩ ?_⟩
   ·rw[hs,ha]
    simp[wrapS (show i<9223372036854775807 by omega),mRowS]
   ·simp[wrapS (show i<9223372036854775807 by omega)];omega
  ·have hq: ¬((l.take i).any (fun y=>rowLt t r y)=false∧rowLt t r (l[i]?.getD dRow)=true):=fun ⟨q1,q2⟩=>by
    have:=q q1
    rw[show keyLess (keyOf t r) (keyOf t (l[i]?.getD dRow))=true from q2] at this
    cases this
   rw[if_neg hq] at hs
   have ha2:anyT (fun y=>rowLt t r y) l (i+1)=anyT (fun y=>rowLt t r y) l i:=by
    rw[ha]
    cases hx:anyT (fun y=>rowLt t r y) l i with
    |true=>rfl
    |false=>
     rw[Bool.false_or]
     exact q hx
   simp[mRow]
   refine ⟨by omega,.of _ ((Gh.kb _ [3,5,7,8,12,13,14] [3,5] [38]).trans (Gh.rn _ 38 11)) ⟨i+1,by omega, ?_⟩ ?_⟩
   ·rw[hs,ha2]
    simp[wrapS (show i<9223372036854775807 by omega),mRowS]
   ·simp[wrapS (show i<9223372036854775807 by omega)];omega
 ·have:i=l.length:=by omega
  subst this
  have he:=layTo_end (fun y=>rowLt t r y) r l
  refine ⟨fun q=> .of (l03Row_ok r hbr) ?_,fun q=> ?_⟩
  ·rw[anyT_all] at q
   rw[q] at he
   simp[mRow]
   refine ⟨by omega, ?_⟩
   rw[he]
   simp
  ·rw[anyT_all] at q
   rw[q,if_pos rfl] at he
   rw[he]
theorem rowAtS_ok (t:GTable) (l:List GRow) (key:List GVal) (ht:okTable t) (hk:t.fKeys.length≤1048576) (hl:okRowS l):VC Tryz.prog 350 [vTable t,vRowS l,vValS key] [(false,[(.s,.sc (.int .i64 (if rowsOk t l=true then keyAt t l key else-1)))])]:=by
 refine vc_of_ew good hm [0,1,2,3,6,12,13,14,15,16,8,7,24] Tryz.func350 rfl (by kernel_rfl) (by kernel_rfl) rfl ?_
 simp[Tryz.f350]
 refine .of (rowsOkS_ok t l ht hl hk) ?_
 simp
 refine ⟨fun h=>by simp[h],fun h1=> ?_⟩
 obtain ⟨h2,h3,h4,h5,h6⟩:=rowsOk_inv h1
 rw[if_pos h1]
 refine ew_loop (fun E=> ∃i:Nat,i≤l.length∧anyT (fun r=>eqRows veq dVal (keyOf t r) key) l i=false∧E= {nt:=27,sl:= [(2,vValS key),(3,.p (.bx 3 0)),(13,vRowS l),(14,int .i64 l.length),(15,int .i64 i)],bx:= [(3,cTable t)],rt:= []}) (fun E=>l.length- (E.num 15).toNat) _ (Gh.kb _ [2,3,13,14,15] [3] []) ⟨0,by omega,anyT_zero _ _,by simp⟩ ?_
 rintro E1 ⟨i,hi,hall,rfl⟩
 simp
 refine ⟨fun h=>⟨h,.of (keyS_ok t (l[i]?.getD dRow) ht hk (h5 _ (getD_mem dRow h))) ?_⟩,fun h=> ?_⟩
 ·simp[mValS]
  refine .of (sameVals_ok (keyOf t (l[i]?.getD dRow)) key (by rw[keyOf_len];unfold okM;omega)) ?_
  simp
  refine ⟨fun hp=>(idxF_at _ dRow h hall hp).symm,fun hp=> .of _ (Gh.kb _ [2,3,13,14,15] [3] []) ⟨i+1,by omega,by rw[anyT_succ _ dRow h,hall,hp];rfl, ?_⟩ ?_⟩
  ·simp[wrapS (show i<9223372036854775807 by omega)]
  ·simp[wrapS (show i<9223372036854775807 by omega)];omega
 ·have:i=l.length:=by omega
  subst this
  rw[anyT_all] at hall
  exact (idxF_no _ hall).symm
theorem rowPutS_ok (t:GTable) (l:List GRow) (r:GRow) (ht:okTable t) (hk:t.fKeys.length≤1048576) (hl:okRowS l) (hr:okRow r):VC Tryz.prog 290 [vTable t,vRowS l,vRow r] [(false,mRowS (rowPut t l r).1),(false,[(.s,.sc (.int .i64 (rowPut t l r).2))])]:=by
 refine vc_of_ew good hm [0,1,2,3,5,6,7,11,15,22,25] Tryz.func290 rfl (by kernel_rfl) (by kernel_rfl) rfl ?_
 simp[Tryz.f290,mRowS]
 refine .of (rowsOkS_ok t l ht hl hk) ?_
 simp
 refine ⟨fun h=>by simp[rowPut,h],fun h1=> .of (rowOkS_ok t r ht hr.1.1) ?_⟩
 obtain ⟨h2,h3,h4,h5,h6⟩:=rowsOk_inv h1
 rw[h2,Bool.true_and]
 simp
 refine ⟨fun h=>by simp[rowPut,h1,h],fun h7=> .of (keyS_ok t r ht hk (tableOk_keys h2 h7)) ?_⟩
 simp[mValS]
 refine .of (rowAtS_ok t l (keyOf t r) ht hk hl) ?_
 rw[if_pos h1]
 simp
 have hat:rowPut t l r=if 0≤keyAt t l (keyOf t r) then ([],3) else if l.length=60 then ([],4) else (insW (fun x=>rowLt t x r) r l,0):=by simp[rowPut,h1,h7]
 have hrb:=(rowFit_ok h2 h7).2
 refine ⟨fun h=>by simp[hat,h],fun h8=>⟨fun h=>by rw[hat,if_neg (by omega),if_pos (by omega)];simp,fun h=> .of (l03Lay_ok t l r ht hk (by omega) h6 (by omega) h5 (tableOk_keys h2 h7)) ?_⟩⟩
 rw[hat,if_neg (by omega),if_neg (by omega),lay_ins h4 h7 (fun x hx e=>by have:=(keyAt_nn t l (keyOf t r)).2 ⟨x,hx,e⟩;omega)]
 simp[mRowS]
end Go.Proofs.YteeolohhmfjafaaGreat
namespace Go.Proofs.YteeolohhmfjafaaGreat
open Go Go.Proofs Go.Sm
attribute [local simp] ti eStr eInt eByte eVal cVal vVal eValS vValS eRow cRow vRow eCol cCol vCol vColS eStrS vStrS eDdl cDdl vDdl cStmt vStmt ePart vPart vPartS eTable cTable vTable vTableS cCat vCat vRowS eRows vRows vRowsS eDb cDb vDb eFol vFol eSnap cSnap vSnap
set_option linter.unusedVariables false
set_option linter.unusedSimpArgs false
set_option maxRecDepth 8000
theorem erTo {α:Type} (d:α) {l:List α} {i k:Nat} (h:i<l.length):(l.take (i+1)).eraseIdx k=if (i:Int)=k then (l.take i).eraseIdx k else (l.take i).eraseIdx k++ [l[i]?.getD d]:=by
 rw[take_row d h]
 split
 ·rename_i e
  have:i=k:=by omega
  subst this
  have h1:(l.take i).length=i:=by simp;omega
  rw[List.eraseIdx_append_of_length_le (by omega),List.eraseIdx_of_length_le (l:=l.take i) (by omega),h1]
  simp
 ·rename_i e
  rcases Nat.lt_or_ge i k with h1|h1
  ·rw[List.eraseIdx_of_length_le (by simp;omega),List.eraseIdx_of_length_le (by simp;omega)]
  ·rw[List.eraseIdx_append_of_lt_length (by simp;omega)]
theorem l03Without_ok (l:List GRow) (k:Nat) (hl:l.length≤1048576) (hb: ∀r∈l,r.fVals.length≤1048576):VC Tryz.prog 383 [vRowS l,int .i64 k] [(false,mRowS (l.eraseIdx k))]:=by
 refine vc_of_ew good hm [0,1,4,5,9,10,11,12,7,6,18] Tryz.func383 rfl (by kernel_rfl) (by kernel_rfl) rfl ?_
 simp[Tryz.f383,mRowS]
 refine ew_loop (fun E=> ∃i:Nat,i≤l.length∧E= {nt:=26,sl:= [(1,int .i64 k),(5,.v false [.r [8]]),(9,vRowS l),(10,int .i64 l.length),(11,int .i64 i)],bx:= [],rt:=(mRowS ((l.take i).eraseIdx k)).map fun y=>(8,y)}) (fun E=>l.length- (E.num 11).toNat) _ (Gh.kb _ [1,5,9,10,11] [] [8]) ⟨0,by omega,by simp[mRowS]⟩ ?_
 rintro E1 ⟨i,hi,rfl⟩
 simp[mRowS]
 have hle:((l.take i).eraseIdx k).length≤i:=Nat.le_trans (List.eraseIdx_sublist ..).length_le (by simp;omega)
 refine ⟨fun h=>⟨h, ?_⟩,fun h=> ?_⟩
 ·refine ⟨fun hq=> .of (l03Row_ok _ (hb _ (getD_mem dRow h))) ?_,fun hq=> .of _ (Gh.kb _ [1,5,9,10,11] [] [8]) ⟨i+1,by omega, ?_⟩ ?_⟩
  ·simp[mRow]
   refine ⟨by omega,.of _ ((Gh.kb _ [1,5,9,10,11] [] [23]).trans (Gh.rn _ 23 8)) ⟨i+1,by omega, ?_⟩ ?_⟩
   ·rw[erTo dRow h,if_neg (by omega)]
    simp[wrapS (show i<9223372036854775807 by omega),mRowS]
   ·simp[wrapS (show i<9223372036854775807 by omega)];omega
  ·rw[erTo dRow h,if_pos (by omega)]
   simp[wrapS (show i<9223372036854775807 by omega),mRowS]
  ·simp[wrapS (show i<9223372036854775807 by omega)];omega
 ·have:i=l.length:=by omega
  subst this
  rw[List.take_length]
theorem rowSetS_ok (t:GTable) (l:List GRow) (key:List GVal) (r:GRow) (ht:okTable t) (hk:t.fKeys.length≤1048576) (hl:okRowS l) (hkey:okM key.length) (hr:okRow r):VC Tryz.prog 291 [vTable t,vRowS l,vValS key,vRow r] [(false,mRowS (rowSet t l key r).1),(false,[(.s,.sc (.int .i64 (rowSet t l key r).2))])]:=by
 refine vc_of_ew good hm [0,1,2,3,4,7,8,9,15,19,10,31,11,41] Tryz.func291 rfl (by kernel_rfl) (by kernel_rfl) rfl ?_
 simp[Tryz.f291,mRowS]
 refine .of (rowsOkS_ok t l ht hl hk) ?_
 simp
 refine ⟨fun h=>by simp[rowSet,h],fun h1=> .of (rowOkS_ok t r ht hr.1.1) ?_⟩
 obtain ⟨h2,h3,h4,h5,h6⟩:=rowsOk_inv h1
 rw[h2,Bool.true_and]
 simp
 refine ⟨fun h=>by simp[rowSet,h1,h],fun h7=> .of (rowAtS_ok t l key ht hk hl) ?_⟩
 rw[if_pos h1]
 simp
 refine .of (keyOkS_ok t key ht hkey) ?_
 simp
 refine ⟨fun h=> ?_,fun g1 g2=> ?_⟩
 ·have:rowSet t l key r=([],5):=by
   unfold rowSet
   rw[if_neg (by simp[h1]),if_neg (by simp[h7]),if_pos (by grind)]
  simp[this]
 obtain ⟨k,hk'⟩: ∃k:Nat,keyAt t l key=k:=⟨_,(Int.toNat_of_nonneg (by grind)).symm⟩
 have hb:=keyAt_bd t l key
 have hset:rowSet t l key r=if eqRows veq dVal (keyOf t r) key=false∧0≤keyAt t l (keyOf t r) then ([],3) else (insW (fun x=>rowLt t x r) r (l.eraseIdx (keyAt t l key).toNat),0):=by
  unfold rowSet
  rw[if_neg (by simp[h1]),if_neg (by simp[h7]),if_neg (by simp[g1];omega)]
 rw[hk']
 refine .of (l03Without_ok l k (by omega) h6) ?_
 simp[mRowS]
 have hrest:rowsOk t (l.eraseIdx k)=true:=rowsOk_erase h1 k
 obtain ⟨e2,e3,e4,e5,e6⟩:=rowsOk_inv hrest
 refine .of (keyS_ok t r ht hk (tableOk_keys h2 h7)) ?_
 simp[mValS]
 refine .of (rowAtS_ok t (l.eraseIdx k) (keyOf t r) ht hk (rowsOk_ok hrest).1) ?_
 rw[if_pos hrest]
 simp
 have hkr:=key_rest (key2:=keyOf t r) h1 (key:=key) (by omega)
 rw[←keyAt_nn,←keyAt_nn,hk',Int.toNat_natCast] at hkr
 have hne:eqRows veq dVal (keyOf t r) key=false↔keyOf t r≠key:=by
  rw[Bool.eq_false_iff,Ne,eqVs_iff]
 refine ⟨fun q=>by rw[hset,if_pos ⟨hne.2 (hkr.1 q).1,(hkr.1 q).2⟩];simp,fun q=> .of (l03Lay_ok t (l.eraseIdx k) r ht hk (by omega) e6 (by have:=(rowFit_ok h2 h7).2;omega) e5 (tableOk_keys h2 h7)) ?_⟩
 rw[hset,if_neg (fun g=>by have:=hkr.2 ⟨hne.1 g.1,g.2⟩;omega),lay_ins e4 h7 (fun x hx e=>by have:=(keyAt_nn t (l.eraseIdx k) (keyOf t r)).2 ⟨x,hx,e⟩;omega),hk']
 simp[mRowS]
theorem rowOutS_ok (t:GTable) (l:List GRow) (key:List GVal) (ht:okTable t) (hk:t.fKeys.length≤1048576) (hl:okRowS l) (hkey:okM key.length):VC Tryz.prog 292 [vTable t,vRowS l,vValS key] [(false,mRowS (rowOut t l key).1),(false,[(.s,.sc (.int .i64 (rowOut t l key).2))])]:=by
 refine vc_of_ew good hm [0,1,2,3,6,7,12,8,24] Tryz.func292 rfl (by kernel_rfl) (by kernel_rfl) rfl ?_
 simp[Tryz.f292,mRowS]
 refine .of (rowsOkS_ok t l ht hl hk) ?_
 simp
 refine ⟨fun h=>by simp[rowOut,h],fun h1=> .of (rowAtS_ok t l key ht hk hl) ?_⟩
 obtain ⟨h2,h3,h4,h5,h6⟩:=rowsOk_inv h1
 rw[if_pos h1]
 simp
 refine .of (keyOkS_ok t key ht hkey) ?_
 simp
 refine ⟨fun h=> ?_,fun g1 g2=> ?_⟩
 ·have:rowOut t l key=([],5):=by
   unfold rowOut
   rw[if_neg (by simp[h1]),if_pos (by grind)]
  simp[this]
 ·obtain ⟨k,hk'⟩: ∃k:Nat,keyAt t l key=k:=⟨_,(Int.toNat_of_nonneg (by grind)).symm⟩
  have hout:rowOut t l key=(l.eraseIdx k,0):=by
   unfold rowOut
   rw[if_neg (by simp[h1]),if_neg (by simp[g1];omega),hk']
   rfl
  rw[hk']
  refine .of (l03Without_ok l k (by omega) h6) ?_
  rw[hout]
  simp[mRowS]
end Go.Proofs.YteeolohhmfjafaaGreat
namespace Go.Proofs.YteeolohhmfjafaaGreat
open Go Go.Proofs Go.Sm
attribute [local simp] ti eStr eInt eByte eVal cVal vVal eValS vValS eRow cRow vRow eCol cCol vCol vColS eStrS vStrS eDdl cDdl vDdl cStmt vStmt ePart vPart vPartS eTable cTable vTable vTableS cCat vCat vRowS eRows vRows vRowsS eDb cDb vDb eFol vFol eSnap cSnap vSnap
set_option linter.unusedVariables false
set_option linter.unusedSimpArgs false
set_option maxRecDepth 8000
theorem copyCat_ok (c:GCat) (hl:c.fTables.length≤1048576) (hb: ∀t∈c.fTables,bdTable t):VC Tryz.prog 252 [vCat c] [(true,mCat c)]:=by
 refine vc_of_ew good hm [0,1,2,3,8,9,10,11,5] Tryz.func252 rfl (by kernel_rfl) (by kernel_rfl) rfl ?_
 simp[Tryz.f252,mCat]
 refine ew_loop (fun E=> ∃i:Nat,i≤c.fTables.length∧E= {nt:=23,sl:= [(2,.p (.bx 2 0)),(3,.p (.bx 3 0)),(8,vTableS c.fTables),(9,int .i64 c.fTables.length),(10,int .i64 i)],bx:= [(2,[.n [.sc (.string ⟨#[]⟩),.ls [.sc (.string ⟨#[]⟩),.sc (.int .i64 0),.sc (.bool false),.sc (.bool false),.sc (.int .i64 0),.sc (.int .i64 0),.sc (.string ⟨#[]⟩)] [],.ls [.sc (.string ⟨#[]⟩)] []]]),(3,[.r [990]])],rt:=(mTableS (c.fTables.take i)).map fun y=>(990,y)}) (fun E=>c.fTables.length- (E.num 10).toNat) _ ((Gh.nlB _ 3 0 990 201 (fun _=> [.s,.o 236 (fun _=> [.s,.s,.s,.s,.s,.s,.s]),.o 9 (fun _=> [.s])]) [.sc (.string ⟨#[]⟩),.ls [.sc (.string ⟨#[]⟩),.sc (.int .i64 0),.sc (.bool false),.sc (.bool false),.sc (.int .i64 0),.sc (.int .i64 0),.sc (.string ⟨#[]⟩)] [],.ls [.sc (.string ⟨#[]⟩)] []]).trans (Gh.kb _ [2,3,8,9,10] [2,3] [990])) ⟨0,by omega,by simp[mTableS]⟩ ?_
 rintro E1 ⟨i,hi,rfl⟩
 simp[mTableS]
 refine ⟨fun h=>⟨h,.of (copyTable_ok _ (hb _ (getD_mem dTable h)).1 (hb _ (getD_mem dTable h)).2) ?_⟩,fun h=> ?_⟩
 ·simp[mTable]
  refine ⟨by omega,.of _ ((Gh.kb _ [2,3,8,9,10] [2,3] [19]).trans (Gh.rn _ 19 990)) ⟨i+1,by omega, ?_⟩ ?_⟩
  ·rw[take_rowM dTable h]
   simp[wrapS (show i<9223372036854775807 by omega),mTableS]
  ·simp[wrapS (show i<9223372036854775807 by omega)];omega
 ·have:i=c.fTables.length:=by omega
  subst this
  rw[←List.map_take,List.take_length]
theorem has_flip2 (l:List ByteArray) (s:ByteArray):l.any (fun x=>s.toList==x.toList)=has l s:=rfl
theorem ddlCodeI_ok (c:GCat) (d:GDdl) (hc:okCat c) (hd:okDdl d) (hd2:ddlOk d=true):VC Tryz.prog 388 [vCat c,vDdl d] [(false,[(.s,.sc (.int .i64 (ddlCode c d)))])]:=by
 refine vc_of_ew good hm [0,1,2,3,4,5,13,14,17,23,6,29,55,65,81] Tryz.func388 rfl (by kernel_rfl) (by kernel_rfl) rfl ?_
 simp[Tryz.f388]
 refine .of (at_ok c d.fTable hc.1.1) ?_
 simp
 have hb:=tabAt_bd c.fTables d.fTable
 have hE1:d.fKind=1→ddlCode c d=if 0≤tabAt c.fTables d.fTable then 2 else if c.fTables.length=6 then 3 else 0:=fun h=>by simp[ddlCode,h]
 have hE2:d.fKind≠1→ddlCode c d=if tabAt c.fTables d.fTable<0 then 4 else tabCode (tabOf c d.fTable) d:=fun h=>by simp[ddlCode,h]
 refine ⟨fun h1=>⟨fun h2=>by rw[hE1 h1,if_pos h2],fun h2=>⟨fun h3=>by rw[hE1 h1,if_neg (by omega),if_pos (by omega)],fun h3=>by rw[hE1 h1,if_neg (by omega),if_neg (by omega)]⟩⟩,fun h1=>⟨fun h2=>by rw[hE2 h1,if_pos h2],fun h2=>⟨⟨h2,hb.2⟩,fun h3=>⟨h3,by have:=(ddlOk_3 hd2 h3).1;omega⟩, ?_⟩⟩⟩
 rw[hE2 h1,if_neg (by omega)]
 have hot:=hc.1.2 _ (getD_mem dTable (show (tabAt c.fTables d.fTable).toNat<c.fTables.length by omega))
 show CallG _ _ _ _ [vTable (tabOf c d.fTable),str (col0 d).fName] _
 refine .of (fun g=>⟨g,colAtI_ok (tabOf c d.fTable) (col0 d).fName hot.2.1.1⟩) ?_
 simp
 refine .of (fun g=>⟨g,colAtI_ok (tabOf c d.fTable) d.fTo hot.2.1.1⟩) ?_
 simp
 have hT:tabCode (tabOf c d.fTable) d=if (d.fKind=3∧0≤colAt (tabOf c d.fTable) (col0 d).fName)∨(d.fKind=5∧0≤colAt (tabOf c d.fTable) d.fTo) then 5 else
  if d.fKind=3∧(tabOf c d.fTable).fCols.length=8 then 6 else
  if (d.fKind=4∨d.fKind=5)∧colAt (tabOf c d.fTable) d.fName<0 then 7 else
  if d.fKind=4∧has (tabOf c d.fTable).fKeys d.fName=true then 8 else 0:=rfl
 refine ⟨by grind,by grind,fun q=>by rw[hT,if_pos q],fun q1 q2=> ?_⟩
 rw[if_neg (by grind)] at hT
 refine ⟨fun q3 q4=> ?_,fun q3=> ?_⟩
 ·rw[hT,if_pos ⟨q3,by show (c.fTables[(tabAt c.fTables d.fTable).toNat]?.getD dTable).fCols.length=8;omega⟩]
 rw[if_neg (fun q=>q3 q.1 (by have:=q.2;show ((c.fTables[(tabAt c.fTables d.fTable).toNat]?.getD dTable).fCols.length:Int)=8;unfold tabOf at this;omega))] at hT
 refine .of (fun g=>⟨g,colAtI_ok (tabOf c d.fTable) d.fName hot.2.1.1⟩) ?_
 simp
 refine ⟨fun q4 q5=>by rw[hT,if_pos ⟨q4,q5⟩],fun q4=> ?_⟩
 rw[if_neg (by grind)] at hT
 refine .of (fun g=>⟨g,containsStr_ok (tabOf c d.fTable).fKeys d.fName hot.2.2.1.1⟩) ?_
 simp[has_flip2]
 refine ⟨fun q5 q6=>by rw[hT,if_pos ⟨q5,q6⟩],fun q5=>by rw[hT,if_neg (by grind)]⟩
end Go.Proofs.YteeolohhmfjafaaGreat
namespace Go.Proofs.YteeolohhmfjafaaGreat
open Go Go.Proofs Go.Sm
attribute [local simp] ti eStr eInt eByte eVal cVal vVal eValS vValS eRow cRow vRow eCol cCol vCol vColS eStrS vStrS eDdl cDdl vDdl cStmt vStmt ePart vPart vPartS eTable cTable vTable vTableS cCat vCat vRowS eRows vRows vRowsS eDb cDb vDb eFol vFol eSnap cSnap vSnap
set_option linter.unusedVariables false
set_option linter.unusedSimpArgs false
set_option maxRecDepth 8000
theorem kept_ok (t:GTable) (cols:List ByteArray) (r was:List GVal) (hc:okM cols.length) (ht:t.fCols.length≤1048576) (hr:r.length≤1048576) (hrl:t.fCols.length≤r.length) (hwl:t.fCols.length≤was.length):
  VC Tryz.prog 357 [vTable t,vStrS cols,vRow ⟨r⟩,vRow ⟨was⟩] [(true,mRow ⟨keptTo cols t r was t.fCols.length⟩)]:=by
 refine vc_of_ew good hm [0,1,2,3,4,6,7,8,9,17,18,19,20,11,10,28] Tryz.func357 rfl (by kernel_rfl) (by kernel_rfl) rfl ?_
 simp[Tryz.f357,mRow]
 refine .of (copyVals_ok r hr) ?_
 simp[mValS]
 refine ew_loop (fun E=> ∃i:Nat,i≤t.fCols.length∧E= {nt:=40,sl:= [(1,vStrS cols),(7,.p (.bx 7 0)),(8,.p (.bx 8 0)),(9,.p (.bx 9 0)),(17,vColS t.fCols),(18,int .i64 t.fCols.length),(19,int .i64 i)],bx:= [(7,cRow ⟨was⟩),(8,[.n [Lf.sc (Value.int IntKind.i64 0),Lf.sc (Value.int IntKind.i64 0),Lf.sc (Value.string ⟨#[]⟩)]]),(9,[.r [14]])],rt:=(mValS (keptTo cols t r was i)).map fun y=>(14,y)}) (fun E=>t.fCols.length- (E.num 19).toNat) _ (Gh.kb _ [1,7,8,9,17,18,19] [7,8,9] [14]) ⟨0,by omega,by simp[mValS,keptTo_zero]⟩ ?_
 rintro E1 ⟨i,hi,rfl⟩
 have hkl:=keptTo_len cols t r was i
 have hks:=keptTo_succ cols t r was (n:=i)
 simp[mValS]
 have hcs:VC Tryz.prog 415 [vStrS cols,str (t.fCols[i]?.getD dCol).fName] [(false,[(.s,.sc (.bool (has cols (t.fCols[i]?.getD dCol).fName)))])]:=containsStr_ok cols _ hc
 refine ⟨fun h=>⟨h,.of hcs ?_⟩,fun h=> ?_⟩
 ·have hi2:i<was.length:=by omega
  simp[md,lf,hkl,show i<r.length by omega,hi2]
  refine ⟨fun q=> .of _ (Gh.kb _ [1,7,8,9,17,18,19] [7,8,9] [14]) ⟨i+1,by omega, ?_⟩ ?_,fun q=> .of _ (Gh.kb _ [1,7,8,9,17,18,19] [7,8,9] [14]) ⟨i+1,by omega, ?_⟩ ?_⟩
  ·rw[hks,if_pos q]
   simp[wrapS (show i<9223372036854775807 by omega),mValS,List.map_set,eVal,hi2]
  ·simp[wrapS (show i<9223372036854775807 by omega)];omega
  ·rw[hks,if_neg (by simp[q])]
   simp[wrapS (show i<9223372036854775807 by omega),mValS]
  ·simp[wrapS (show i<9223372036854775807 by omega)];omega
 ·have:i=t.fCols.length:=by omega
  subst this
  simp
def bdStrs (l:List ByteArray):Prop:=okStrS l∧(∀n∈wStrS l,n≤1048576)∧(wStrS l).sum≤1048576
theorem vals_w {l:List GVal} (h:valsOk l=true):okValS l∧(∀n∈wValS l,n≤1048576)∧(wValS l).sum≤1048576:=by
 have h1:=valsOk_ok h
 simp only[valsOk,within,Bool.and_eq_true,decide_eq_true_eq,Bool.not_eq_true',List.any_eq_false,Bool.not_eq_true] at h
 have a:=sumF (w:=wVal) h1.2 fun v hv=>val_w (by have:=h.2 v hv;simpa using this)
 have hs:(wValS l).sum≤1048576:=by
  simp only[wValS,List.sum_cons,List.sum_append,List.sum_nil]
  omega
 exact ⟨h1.1,(of_sum hs).1,hs⟩
theorem table_b {t:GTable} (h:tableOk t=true):okTable t∧(∀n∈wTable t,n≤1048576)∧(wTable t).sum≤1048576:=by
 have:=table_w h
 have hs:(wTable t).sum≤1048576:=by omega
 exact ⟨(tableOk_ok h).1,(of_sum hs).1,hs⟩
theorem mapStI_ok (d:GDb) (p:GPart) (hd:dbOk d=true) (hs:stmtOk p.fStmt=true) (hc:bdStrs p.fCols) (hk:bdStrs p.fKeys):
  VC Tryz.prog 251 [vDb d,vPart p] [(true,mStmt (mapStP d p).1),(false,[(.s,.sc (.int .i64 (mapStP d p).2))])]:=by
 obtain ⟨hso,hs0,hs1,hs2,hs3,hs4⟩:=stmtOk_ok hs
 have hbs:bdStmt p.fStmt:=⟨by omega,by omega,by omega,by omega⟩
 have hod:=dbOk_ok hd
 have hco:=catOk_ok (dbOk_cat hd)
 have hl:=dbOk_len hd
 have hb:=tabAt_bd d.fCat.fTables p.fStmt.fTable
 obtain ⟨hw,hkd⟩:=stmtOk_k hs
 have hE:mapStP d p=if p.fStmt.fKind=5 then (p.fStmt,0) else if tabAt d.fCat.fTables p.fStmt.fTable<0 then (dStmt,10) else mapSt (tabOf d.fCat p.fStmt.fTable) (dataOf d (dbIx d p.fStmt.fTable)) p.fCols p.fKeys p.fStmt:=rfl
 refine vc_of_ew good hm [0,1,2,3,4,5,6,21,7,29,8,9,10,50,60,11,12,71,83,13,14,95,15,109] Tryz.func251 rfl (by kernel_rfl) (by kernel_rfl) rfl ?_
 simp[Tryz.f251,mStmt]
 refine .of (copyStmt_ok p.fStmt hbs) ?_
 simp[mStmt]
 refine ⟨fun k5=>by rw[hE,if_pos k5];simp,fun k5=> .of (at_ok d.fCat p.fStmt.fTable hco.1.1.1) ?_⟩
 rw[if_neg k5] at hE
 simp
 refine ⟨fun h0=>by rw[hE,if_pos h0];simp[dStmt,dRow,dDdl],fun h0=> ?_⟩
 rw[if_neg (by omega)] at hE
 obtain ⟨hto,hro,hx1,hx2⟩:=tab_data hd (s:=p.fStmt.fTable) (by omega)
 have ht0:d.fCat.fTables[(tabAt d.fCat.fTables p.fStmt.fTable).toNat]?.getD dTable=tabOf d.fCat p.fStmt.fTable:=rfl
 have hd0:(d.fData[(tabAt d.fCat.fTables p.fStmt.fTable).toNat]?.getD dRows).fRows=dataOf d (dbIx d p.fStmt.fTable):=rfl
 rw[ht0,hd0]
 generalize tabOf d.fCat p.fStmt.fTable=T at*
 generalize dataOf d (dbIx d p.fStmt.fTable)=L at*
 obtain ⟨hT1,hT2,hT3⟩:=table_b hto
 refine ⟨by omega,by omega, ?_⟩
 simp[md,lf,List.range']
 refine .of (I_Drift_ok p.fCols p.fKeys T hc.1 hc.2.1 hc.2.2 hk.1 hk.2.1 hk.2.2 hT1 hT2 hT3) ?_
 simp[md,lf,List.range']
 have hS:mapSt T L p.fCols p.fKeys p.fStmt=if drift p.fCols p.fKeys T≠0 then (dStmt,drift p.fCols p.fKeys T) else
  if p.fStmt.fKind=1 then (if (mapRow p.fCols T p.fStmt.fRow.fVals []).2≠0 then (dStmt,(mapRow p.fCols T p.fStmt.fRow.fVals []).2) else (⟨1,p.fStmt.fTable,[],(mapRow p.fCols T p.fStmt.fRow.fVals []).1,dDdl⟩,0)) else
  if p.fStmt.fKind=4 then (⟨4,p.fStmt.fTable,[],⟨[]⟩,dDdl⟩,0) else
  if (mapKey p.fKeys T p.fStmt.fKey).2≠0 then (dStmt,(mapKey p.fKeys T p.fStmt.fKey).2) else
  if p.fStmt.fKind=3 then (⟨3,p.fStmt.fTable,(mapKey p.fKeys T p.fStmt.fKey).1,⟨[]⟩,dDdl⟩,0) else
  if (mapRow p.fCols T p.fStmt.fRow.fVals []).2≠0 then (dStmt,(mapRow p.fCols T p.fStmt.fRow.fVals []).2) else
  (⟨2,p.fStmt.fTable,(mapKey p.fKeys T p.fStmt.fKey).1,(mapRow p.fCols T p.fStmt.fRow.fVals (if 0≤keyAt T L (mapKey p.fKeys T p.fStmt.fKey).1 then (L[(keyAt T L (mapKey p.fKeys T p.fStmt.fKey).1).toNat]?.getD dRow).fVals else [])).1,dDdl⟩,0):=rfl
 refine ⟨fun h1=>by rw[hE,hS,if_pos h1];simp[dStmt,dRow,dDdl],fun h1=> ?_⟩
 rw[if_neg (by simp[h1])] at hS
 have hkin: ∀r∈L,keysIn T r:=(rowsOk_inv hro).2.2.2.1
 have hLl:okM L.length:=by have:=(rowsOk_inv hro).2.1;unfold okM;omega
 have hTk:T.fKeys.length≤1048576:=(tableOk_ok hto).2.2
 rcases hkd with ⟨k,e1,e2,e3⟩|⟨k,e1,e2,e3⟩|⟨k,e1,e2,e3⟩|⟨k,e1,e2,e3⟩|k
 ·rw[if_pos k] at hS
  obtain ⟨v1,v2,v3⟩:=vals_w e2
  simp[k,e1,md,lf,List.range']
  refine .of (I_MapRow_ok p.fCols T p.fStmt.fRow.fVals hc.1 hc.2.1 hc.2.2 hT1 hT2 hT3 v1 v2 v3) ?_
  simp[mRow,md,lf,List.range']
  refine ⟨fun h2=>by rw[hE,hS,if_pos h2];simp[dStmt,dRow,dDdl],fun h2=> ?_⟩
  rw[if_neg (by simp[h2])] at hS
  refine .of (rowAt_ok T L [] hT1 hTk hLl hkin) ?_
  simp[k]
  rw[hE,hS]
  simp[dDdl,e3]
 ·rw[if_neg (by omega),if_neg (by omega)] at hS
  obtain ⟨v1,v2,v3⟩:=vals_w e1
  obtain ⟨u1,u2,u3⟩:=vals_w e2
  simp[k,md,lf,List.range']
  refine .of (I_MapKey_ok p.fKeys T p.fStmt.fKey hk.1 hk.2.1 hk.2.2 hT1 hT2 hT3 v1 v2 v3) ?_
  simp[mValS,md,lf,List.range']
  refine ⟨fun h2=>by rw[hE,hS,if_pos h2];simp[dStmt,dRow,dDdl],fun h2=> ?_⟩
  rw[if_neg (by simp[h2]),if_neg (by omega)] at hS
  have hko:=key_valsOk (mapKey_ok h2)
  generalize (mapKey p.fKeys T p.fStmt.fKey).1=key at hS hko⊢
  have hkl:=(valsOk_ok hko).2
  refine .of (I_MapRow_ok p.fCols T p.fStmt.fRow.fVals hc.1 hc.2.1 hc.2.2 hT1 hT2 hT3 u1 u2 u3) ?_
  simp[mRow,md,lf,List.range']
  refine ⟨fun h3=>by rw[hE,hS,if_pos h3];simp[dStmt,dRow,dDdl],fun h3=> ?_⟩
  rw[if_neg (by simp[h3])] at hS
  have hb2:=keyAt_bd T L key
  obtain ⟨q1,q2,q3⟩:=mapRow_ok h3
  refine .of (rowAt_ok T L key hT1 hTk hLl hkin) ?_
  simp[k,md,lf,List.range']
  refine ⟨fun ha=>⟨by omega, ?_⟩,fun ha=> ?_⟩
  ·have hwr:=rowsOk_row hro ha
   have hwl:=((rowFit_iff T _).1 hwr).1
   have htl:=tableOk_len hto
   have htp:0<T.fCols.length:=by have:=(tableOk_iff T).1 hto;omega
   have hz:=mapRow_other (other:=(L[(keyAt T L key).toNat]?.getD dRow).fVals) h1 p.fStmt.fRow.fVals hwr
   obtain ⟨z1,z2,z3⟩:=mapRow_ok (hz.trans h3)
   rw[q3]
   refine .of (kept_ok T p.fCols (rowBy p.fCols T p.fStmt.fRow.fVals [] T.fCols.length) (L[(keyAt T L key).toNat]?.getD dRow).fVals hc.1.1 (by omega) (by rw[rowBy_len];omega) (by rw[rowBy_len];omega) (by omega)) ?_
   rw[kept_row _ _ _ _ hwl htp]
   simp[mRow,md,lf,List.range']
   rw[hE,hS,if_pos ha,z3]
   simp[dDdl,e3]
  ·rw[hE,hS,if_neg (by omega)]
   simp[dDdl,e3]
 ·rw[if_neg (by omega),if_neg (by omega)] at hS
  obtain ⟨v1,v2,v3⟩:=vals_w e1
  simp[k,md,lf,List.range']
  refine .of (I_MapKey_ok p.fKeys T p.fStmt.fKey hk.1 hk.2.1 hk.2.2 hT1 hT2 hT3 v1 v2 v3) ?_
  simp[mValS,md,lf,List.range']
  refine ⟨fun h2=>by rw[hE,hS,if_pos h2];simp[dStmt,dRow,dDdl],fun h2=> ?_⟩
  rw[if_neg (by simp[h2]),if_pos k] at hS
  rw[hE,hS]
  simp[dDdl,e3,e2]
 ·rw[if_neg (by omega),if_pos k] at hS
  simp[k]
  rw[hE,hS]
  simp[dDdl,e3,e2,e1]
 ·exact absurd k k5
end Go.Proofs.YteeolohhmfjafaaGreat
namespace Go.Proofs.YteeolohhmfjafaaGreat
open Go Go.Proofs Go.Sm
attribute [local simp] ti eStr eInt eByte eVal cVal vVal eValS vValS eRow cRow vRow eCol cCol vCol vColS eStrS vStrS eDdl cDdl vDdl cStmt vStmt ePart vPart vPartS eTable cTable vTable vTableS cCat vCat vRowS eRows vRows vRowsS eDb cDb vDb eFol vFol eSnap cSnap vSnap
set_option linter.unusedVariables false
set_option linter.unusedSimpArgs false
set_option maxRecDepth 8000
theorem idxF_specC (p:GCol→Bool) (l:List GCol) (h:l.any p=true): ∃i:Nat,idxF p l=i∧i<l.length∧p (l[i]?.getD dCol)=true∧(l.take i).filter (fun x=> !p x)=l.take i:=by
 have hi:l.findIdx p<l.length:=List.findIdx_lt_length.2 (List.any_eq_true.1 h)
 refine ⟨l.findIdx p,by simp[idxF,h],hi, ?_, ?_⟩
 ·rw[List.getElem?_eq_getElem hi,Option.getD_some]
  exact List.findIdx_getElem
 ·rw[List.filter_eq_self]
  intro x hx
  obtain ⟨j,hj,rfl⟩:=List.getElem_of_mem hx
  rw[List.length_take] at hj
  rw[List.getElem_take]
  have:=List.not_of_lt_findIdx (p:=p) (xs:=l) (i:=j) (by omega)
  simpa using this
theorem delFuncCol_ok (l:List GCol) (k:Nat) (ds:List Lf) (p:GCol→Bool) (hl:l.length≤1048576) (hk: ∀x∈l,VC Tryz.prog k [vCol x,.p (.ps ds)] [(false,[(.s,.sc (.bool (p x)))])]):
  VX Tryz.prog 391 [.v false [.r [900]],.fn k [.ps ds]] (mColS l) [(false,mColS (l.filter fun x=> !p x))]:=by
 refine vx_of_ew good hm [0,1,4,5,12,6,19,7,29] Tryz.func391 rfl (by kernel_rfl) (by kernel_rfl) rfl ?_
 simp[Tryz.f391,mColS]
 refine .of (idxCol1_ok l k ds p (by unfold okM;omega) hk) ?_
 simp
 refine ⟨fun h=> ?_,fun h=> ?_⟩
 ·have ha:l.any p=false:=by
   have:=idxF_ge p l
   rw[h] at this
   exact this.symm
  have hf:l.filter (fun x=> !p x)=l:=by
   rw[List.filter_eq_self]
   intro x hx
   have:=List.any_eq_false.1 ha x hx
   simpa using this
  refine .of _ (Gh.refl _) ?_
  simp[hf]
 ·have ha:l.any p=true:=by
   cases hx:l.any p with
   |true=>rfl
   |false=>exact absurd (idxF_no p hx) h
  obtain ⟨i0,e0,hi0,hp0,hf0⟩:=idxF_specC p l ha
  rw[e0]
  refine ew_loop (fun E=> ∃ (a j:Nat) (M:List GCol),a<j∧j≤l.length∧M.length=l.length∧M.take a=(l.take j).filter (fun x=> !p x)∧(∀x,j≤x→M[x]? =l[x]?)∧E= {nt:=42,sl:= [(0,.v false [.r [900]]),(1,.fn k [.ps ds]),(5,int .i64 a),(6,int .i64 j)],bx:= [],rt:=(mColS M).map fun y=>(900,y)}) (fun E=>l.length- (E.num 6).toNat) _ (Gh.kb _ [0,1,5,6] [] [900]) ⟨i0,i0+1,l,by omega,by omega,rfl, ?_,fun _ _=>rfl, ?_⟩ ?_
  ·rw[List.take_succ_eq_append_getElem hi0,List.filter_append,hf0]
   rw[List.getElem?_eq_getElem hi0,Option.getD_some] at hp0
   simp[hp0]
  ·simp[wrapS (show i0<9223372036854775807 by omega),mColS]
  rintro E1 ⟨a,j,M,haj,hj,hM,hta,htl,rfl⟩
  simp[mColS,hM]
  refine ⟨fun h1=> ?_,fun h1=> ?_⟩
  ·have hmj:M[j]? =l[j]? :=htl j (Nat.le_refl _)
   have hg: ∀h',M[j]'h'=l[j]'h1:=fun h'=>by
    rw[List.getElem?_eq_getElem h',List.getElem?_eq_getElem h1] at hmj
    exact Option.some.inj hmj
   simp[md,lf,hM,h1,hg,List.range',eCol]
   refine .of (hk l[j] (List.getElem_mem h1)) ?_
   simp[md,lf,hM,h1,List.range',eCol]
   have hft: ∀b,p l[j]=b→(l.take (j+1)).filter (fun x=> !p x)=(l.take j).filter (fun x=> !p x)++(if b=true then [] else [l[j]]):=fun b hb=>by
    rw[List.take_succ_eq_append_getElem h1,List.filter_append]
    congr 1
    cases b<;>simp[hb]
   refine ⟨fun hp=>⟨by omega,.of _ (Gh.kb _ [0,1,5,6] [] [900]) ⟨a+1,j+1,by omega,by omega,M.set a l[j],by simp[hM], ?_,fun x hx=> ?_, ?_⟩ ?_⟩,fun hp=> .of _ (Gh.kb _ [0,1,5,6] [] [900]) ⟨a,j+1,by omega,by omega,M,hM, ?_,fun x hx=>htl x (by omega), ?_⟩ ?_⟩
   ·rw[hft _ hp,←hta,List.take_succ_eq_append_getElem (by simp[hM];omega),List.take_set_of_le (Nat.le_refl _)]
    simp
   ·rw[List.getElem?_set_ne (by omega)]
    exact htl x (by omega)
   ·simp[wrapS (show j<9223372036854775807 by omega),wrapS (show a<9223372036854775807 by omega),mColS,List.map_set,eCol]
   ·simp[wrapS (show j<9223372036854775807 by omega)];omega
   ·rw[hft _ hp,←hta]
    simp
   ·simp[wrapS (show j<9223372036854775807 by omega),mColS]
   ·simp[wrapS (show j<9223372036854775807 by omega)];omega
  ·have:j=l.length:=by omega
   subst this
   refine ⟨by omega,by omega,by omega,.of _ (Gh.trunc (t:=4) (r:=900) (n:=a) (sz:=7) rfl rfl (by simp;omega)) ?_⟩
   rw[List.take_length] at hta
   simp[←hta]
   rw[List.take_append_of_le_length (by simp[hM];omega),List.take_take,Nat.min_self]
end Go.Proofs.YteeolohhmfjafaaGreat
namespace Go.Proofs.YteeolohhmfjafaaGreat
open Go Go.Proofs Go.Sm
attribute [local simp] ti eStr eInt eByte eVal cVal vVal eValS vValS eRow cRow vRow eCol cCol vCol vColS eStrS vStrS eDdl cDdl vDdl cStmt vStmt ePart vPart vPartS eTable cTable vTable vTableS cCat vCat vRowS eRows vRows vRowsS eDb cDb vDb eFol vFol eSnap cSnap vSnap
set_option linter.unusedVariables false
set_option linter.unusedSimpArgs false
set_option maxRecDepth 8000
theorem ddlApply1_ok (d:GDdl) (c:GCol):VC Tryz.prog 392 [vCol c,.p (.ps (eDdl d))] [(false,[(.s,.sc (.bool (c.fName.toList==d.fName.toList)))])]:=by
 refine vc_of_ew good hm [0,1,2,3] Tryz.func392 rfl (by kernel_rfl) (by kernel_rfl) rfl ?_
 simp[Tryz.f392,eDdl]
theorem renC_no {a b:ByteArray} {c:GCol} (h:c.fName≠a):renC a b c=c:=by
 have:(c.fName.toList==a.toList)=false:=Bool.eq_false_iff.2 fun e=>h ((tl_beq _ _).1 e)
 simp[renC,this]
theorem ren_cols (a b:ByteArray): ∀ {l:List GCol},(cnm l).Nodup→a∈cnm l→l.map (renC a b)=l.set (pos (cnm l) a) ⟨b,(l[pos (cnm l) a]?.getD dCol).fTy,(l[pos (cnm l) a]?.getD dCol).fNot,(l[pos (cnm l) a]?.getD dCol).fHas,(l[pos (cnm l) a]?.getD dCol).fDef⟩
 | [],_,h=>by cases h
 |x::l,hn,h=>by
  have hc:cnm (x::l)=x.fName::cnm l:=rfl
  rw[hc] at hn h⊢
  rw[List.nodup_cons] at hn
  rw[pos_cons]
  by_cases e:x.fName=a
  ·rw[if_pos e]
   have h1:renC a b x=⟨b,x.fTy,x.fNot,x.fHas,x.fDef⟩:=by
    have:(x.fName.toList==a.toList)=true:=(tl_beq _ _).2 e
    simp[renC,this]
   have h2:l.map (renC a b)=l:=by
    conv=>rhs;rw[←List.map_id l]
    refine List.map_congr_left fun y hy=>renC_no fun e2=> ?_
    exact hn.1 (by rw[e,←e2];exact List.mem_map.2 ⟨y,hy,rfl⟩)
   rw[List.map_cons,h1,h2]
   rfl
  ·rw[if_neg e,List.map_cons,renC_no e,ren_cols a b hn.2 ((List.mem_cons.1 h).resolve_left fun e2=>e e2.symm)]
   rfl
theorem ren_keys (a b:ByteArray): ∀ {l:List ByteArray},l.Nodup→l.map (renS a b)=l.set (l.findIdx (fun x=>a.toList==x.toList)) b
 | [],_=>rfl
 |x::l,hn=>by
  rw[List.nodup_cons] at hn
  by_cases e:x=a
  ·subst e
   have h2:l.map (renS x b)=l:=by
    conv=>rhs;rw[←List.map_id l]
    exact List.map_congr_left fun y hy=>(renS_eq x b y).2 fun e2=>hn.1 (e2▸hy)
   rw[List.map_cons,h2,(renS_eq x b x).1 rfl,List.findIdx_cons]
   simp
  ·have h1:(a.toList==x.toList)=false:=Bool.eq_false_iff.2 fun e2=>e (((tl_beq _ _).1 e2).symm)
   rw[List.map_cons,ren_keys a b hn.2,(renS_eq a b x).2 e,List.findIdx_cons,h1]
   rfl
theorem idxF_find {α:Type} (p:α→Bool) (l:List α):(idxF p l= -1∧l.findIdx p=l.length)∨idxF p l=l.findIdx p:=by
 unfold idxF
 split
 ·exact .inr rfl
 ·rename_i h
  refine .inl ⟨rfl, ?_⟩
  rw[List.findIdx_eq_length]
  simpa using h
theorem ddlApplyI_ok (c:GCat) (d:GDdl) (hc:okCat c) (hd:okDdl d) (h1:d.fCols.length≤1048576) (h2:d.fKeys.length≤1048576):VC Tryz.prog 312 [vCat c,vDdl d] [(true,mCat (ddlApply c d).1),(false,[(.s,.sc (.int .i64 (ddlApply c d).2))])]:=by
 refine vc_of_ew good hm [0,1,2,3,4,5,20,6,26,7,8,36,37,9,54,65,74,93,10,108,11,12,136] Tryz.func312 rfl (by kernel_rfl) (by kernel_rfl) rfl ?_
 simp[Tryz.f312,mCat]
 refine .of (catOkI_ok c hc) ?_
 simp
 refine .of (fun g=>⟨g,ddlOkI_ok d hd h1 h2⟩) ?_
 simp
 have hE:ddlApply c d=if catOk c=false∨ddlOk d=false then (⟨[]⟩,1) else if ddlCode c d≠0 then (⟨[]⟩,ddlCode c d) else (catCh c d,0):=rfl
 refine ⟨fun h=>by rw[hE,if_pos h];simp,fun h3 h4=> ?_⟩
 rw[if_neg (by simp[h3,h4])] at hE
 obtain ⟨hcl,hct⟩:=(catOk_ok h3).2
 refine .of (ddlCodeI_ok c d hc hd h4) ?_
 simp
 refine ⟨fun h=>by rw[hE,if_pos h];simp,fun h5=> .of (copyCat_ok c (by omega) (fun t ht=>(hct t ht).2)) ?_⟩
 rw[if_neg (by simp[h5])] at hE
 rw[hE]
 simp[mCat]
 have hz:=ddlCode_0 h5
 by_cases k1:d.fKind=1
 ·refine .of (at_ok c d.fTable hc.1.1) ?_
  simp (maxSteps:=1000000) [k1]
  refine ew_loop (fun E=> ∃i:Nat,i≤(c.fTables.takeWhile (fun y=>tabLt y (madeT d))).length∧E= {nt:=146,sl:= [(3,.p (.bx 3 0)),(4,.p (.bx 4 0)),(7,.p (.bx 7 0)),(9,int .i64 i)],bx:= [(3,cDdl d),(4,[.n [.sc (.string ⟨#[]⟩),.ls [.sc (.string ⟨#[]⟩),.sc (.int .i64 0),.sc (.bool false),.sc (.bool false),.sc (.int .i64 0),.sc (.int .i64 0),.sc (.string ⟨#[]⟩)] [],.ls [.sc (.string ⟨#[]⟩)] []]]),(7,[.r [30]])],rt:=(mTableS c.fTables).map fun y=>(30,y)}) (fun E=>c.fTables.length- (E.num 9).toNat) _ (Gh.kb _ [3,4,7,9] [3,4,7] [30]) ⟨0,by omega,by simp[mTableS,k1]⟩ ?_
  rintro E1 ⟨i,hi,rfl⟩
  have htw:=takeW_len (fun y=>tabLt y (madeT d)) c.fTables
  have hat:=takeW_at (fun y=>tabLt y (madeT d)) dTable hi
  simp[mTableS,md,lf,eTable]
  refine ⟨fun q1 q2=> .of _ (Gh.kb _ [3,4,7,9] [3,4,7] [30]) ⟨i+1,hat.2 ⟨q1,q2⟩, ?_⟩ ?_,fun q2=> ?_⟩
  ·simp[wrapS (show i<9223372036854775807 by omega),mTableS]
  ·simp[wrapS (show i<9223372036854775807 by omega)];omega
  ·have hiq:i=(c.fTables.takeWhile (fun y=>tabLt y (madeT d))).length:=by
    rcases Nat.lt_or_ge i (c.fTables.takeWhile (fun y=>tabLt y (madeT d))).length with hlt|hge
    ·obtain ⟨g1,g2⟩:=hat.1 hlt
     have:=q2 g1
     rw[show Op.bytesLess (c.fTables[i]?.getD dTable).fName.toList d.fTable.toList=true from g2] at this
     cases this
    ·omega
   refine .of (made_ok d h1 h2) ?_
   simp[mTable]
   refine ⟨of_eq_true (full_TableS [madeT d]),.use (vx_ins (i:=i) (rows:=c.fTables.map eTable) (row:=eTable (madeT d)) (z:= [.sc (.string ⟨#[]⟩),.ls [.sc (.string ⟨#[]⟩),.sc (.int .i64 0),.sc (.bool false),.sc (.bool false),.sc (.int .i64 0),.sc (.int .i64 0),.sc (.string ⟨#[]⟩)] [],.ls [.sc (.string ⟨#[]⟩)] []]) (cols:=fun _=> [.s,.o 236 (fun _=> [.s,.s,.s,.s,.s,.s,.s]),.o 9 (fun _=> [.s])]) (cols':=fun _=> [.s,.o 236 (fun _=> [.s,.s,.s,.s,.s,.s,.s]),.o 9 (fun _=> [.s])]) ⟨_,_,Tryz.func389,rfl,by kernel_rfl⟩ rawIns_Table (by decide) (by decide) rfl (by simp;omega) (by simp;omega)) ?_⟩
   simp[colsI_const]
   unfold catCh
   rw[if_pos k1,insW_at,←hiq]
   simp[eTable]
 ·obtain ⟨z1,z2⟩:=hz.2 k1
  obtain ⟨k,hk⟩: ∃k:Nat,tabAt c.fTables d.fTable=k:=⟨_,(Int.toNat_of_nonneg z1).symm⟩
  have hat:=at_ok c d.fTable hc.1.1
  have hb:=tabAt_bd c.fTables d.fTable
  have hkl:k<c.fTables.length:=by omega
  rw[hk] at hat
  refine .of hat ?_
  simp (maxSteps:=1000000) [k1,md,lf,eTable,List.range',hkl]
  have htk:tabOf c d.fTable=c.fTables[k]:=by
   unfold tabOf
   rw[hk]
   simp[hkl]
  have hm:c.fTables[k]∈c.fTables:=List.getElem_mem hkl
  have hbt:=(hct _ hm).2
  have hok:=(hct _ hm).1
  have hset:d.fKind≠2→(catCh c d).fTables=c.fTables.set k (tabCh c.fTables[k] d):=fun k2=>by
   unfold catCh
   rw[if_neg k1,if_neg k2,hk,htk]
   rfl
  have hmd:(fun k_1=>if k_1=k then [Md.s,Md.o 236 fun x=> [Md.s,Md.s,Md.s,Md.s,Md.s,Md.s,Md.s],Md.o 9 fun x=> [Md.s]] else if k_1=k then [Md.s,Md.x,Md.o 9 fun x=> [Md.s]] else [Md.s,Md.o 236 fun x=> [Md.s,Md.s,Md.s,Md.s,Md.s,Md.s,Md.s],Md.o 9 fun x=> [Md.s]])=fun x=> [Md.s,Md.o 236 fun x=> [Md.s,Md.s,Md.s,Md.s,Md.s,Md.s,Md.s],Md.o 9 fun x=> [Md.s]]:=by
   funext j
   by_cases hj:j=k<;>simp[hj]
  obtain ⟨cd3,cd5,cd4⟩:=tabCode_0 (htk▸z2)
  refine ⟨fun k2=> ?_,fun k2=>⟨fun k3=>⟨by have:=(ddlOk_3 h4 k3).1;omega,by have:=hbt.1;omega,hmd, ?_⟩,fun k3=>⟨fun k4=> ?_,fun k4=> ?_⟩⟩⟩
  ·simp[wrapS (show k<9223372036854775807 by omega)]
   refine .use (vx_del (i:=k) (rows:=c.fTables.map eTable) (z:= [.sc (.string ⟨#[]⟩),.ls [.sc (.string ⟨#[]⟩),.sc (.int .i64 0),.sc (.bool false),.sc (.bool false),.sc (.int .i64 0),.sc (.int .i64 0),.sc (.string ⟨#[]⟩)] [],.ls [.sc (.string ⟨#[]⟩)] []]) (cols:=fun _=> [.s,.o 236 (fun _=> [.s,.s,.s,.s,.s,.s,.s]),.o 9 (fun _=> [.s])]) ⟨_,_,Tryz.func390,rfl,by kernel_rfl⟩ rawDel_Table (by decide) rfl (by simp;omega)) ?_
   simp[colsD_const]
   unfold catCh
   rw[if_neg k1,if_pos k2,hk,Int.toNat_natCast,List.eraseIdx_eq_take_drop_succ]
   simp
  ·rw[hset k2,List.map_set]
   unfold tabCh
   rw[if_pos k3]
   simp[eTable,eCol,col0]
  ·refine .use (delFuncCol_ok _ _ (eDdl d) _ hbt.1 (fun x _=>ddlApply1_ok d x)) ?_
   simp[mColS,md,lf,eTable,List.range',hkl]
   refine ⟨hmd, ?_⟩
   rw[hset k2,List.map_set]
   unfold tabCh
   rw[if_neg k3,if_pos k4]
   simp[eTable]
  ·have k5:d.fKind=5:=by have:=ddlOk_kind h4;omega
   obtain ⟨q1,q2⟩:=cd5 k5
   have hj1:0≤colAt c.fTables[k] d.fName:=colAt_nn.2 q2
   have hj2:=pos_lt q2
   obtain ⟨j,hj⟩: ∃j:Nat,colAt c.fTables[k] d.fName=j:=⟨_,(Int.toNat_of_nonneg hj1).symm⟩
   have hca:=colAtI_ok c.fTables[k] d.fName (by have:=hbt.1;unfold okM;omega)
   rw[hj] at hca
   refine ⟨fun _=> .of hca ?_,fun h=>absurd k5 h⟩
   simp[md,lf,eTable,List.range',hkl]
   have hcb:colAt c.fTables[k] d.fName<c.fTables[k].fCols.length:=(idxF_bd _ _).2
   have hjl:j<c.fTables[k].fCols.length:=by omega
   refine ⟨hjl,.of (indexStr_ok c.fTables[k].fKeys d.fName (by have:=hbt.2;unfold okM;omega)) ?_⟩
   have hib:=idxF_bd (fun x:ByteArray=>d.fName.toList==x.toList) c.fTables[k].fKeys
   have hid:=idxF_find (fun x:ByteArray=>d.fName.toList==x.toList) c.fTables[k].fKeys
   generalize idxF (fun x:ByteArray=>d.fName.toList==x.toList) c.fTables[k].fKeys=r at hib hid⊢
   simp[md,lf,eTable,List.range',hkl,hjl]
   have hjp:j=pos (cnm c.fTables[k].fCols) d.fName:=by
    have:=colAt_toNat q2
    rw[hj] at this
    exact this
   have hto:=(tableOk_iff _).1 hok
   have hrc:=ren_cols d.fName d.fTo hto.2.2.2.2.2.1 q2
   rw[←hjp,List.getElem?_eq_getElem hjl] at hrc
   have hrk:=ren_keys d.fName d.fTo (hto.2.2.2.2.2.2.1.nodup hto.2.2.2.2.2.1)
   have hfin: ∀ks:List ByteArray,ks=c.fTables[k].fKeys.map (renS d.fName d.fTo)→(c.fTables.map eTable).set k (eTable ⟨c.fTables[k].fName,c.fTables[k].fCols.set j ⟨d.fTo,c.fTables[k].fCols[j].fTy,c.fTables[k].fCols[j].fNot,c.fTables[k].fCols[j].fHas,c.fTables[k].fCols[j].fDef⟩,ks⟩)=(catCh c d).fTables.map eTable:=fun ks hks=>by
    rw[hset k2,List.map_set]
    unfold tabCh
    rw[if_neg k3,if_neg k4,if_pos k5,hks,hrc]
    rfl
   refine ⟨fun hr=>⟨⟨hr,hib.2⟩,by omega, ?_⟩,fun hr=> ?_⟩
   ·have:=hfin (c.fTables[k].fKeys.set r.toNat d.fTo) (by
     rw[hrk]
     congr 1
     omega)
    rw[←this]
    simp[eTable,List.map_set,eCol,eStr]
   ·have:=hfin c.fTables[k].fKeys (by
     rw[hrk,List.set_eq_of_length_le]
     omega)
    rw[←this]
    simp[eTable,List.map_set,eCol]
end Go.Proofs.YteeolohhmfjafaaGreat
namespace Go.Proofs.YteeolohhmfjafaaGreat
open Go Go.Proofs Go.Sm
attribute [local simp] ti eStr eInt eByte eVal cVal vVal eValS vValS eRow cRow vRow eCol cCol vCol vColS eStrS vStrS eDdl cDdl vDdl cStmt vStmt ePart vPart vPartS eTable cTable vTable vTableS cCat vCat vRowS eRows vRows vRowsS eDb cDb vDb eFol vFol eSnap cSnap vSnap
set_option linter.unusedVariables false
set_option linter.unusedSimpArgs false
set_option maxRecDepth 8000
def chTo {α:Type} (f:α→α) (l:List α) (i:Nat):List α:=(l.take i).map f++l.drop i
theorem chTo_zero {α:Type} (f:α→α) (l:List α):chTo f l 0=l:=by simp[chTo]
theorem chTo_all {α:Type} (f:α→α) (l:List α):chTo f l l.length=l.map f:=by simp[chTo]
theorem chTo_len {α:Type} (f:α→α) (l:List α) (i:Nat):(chTo f l i).length=l.length:=by simp[chTo];omega
theorem chTo_get {α:Type} (f:α→α) (l:List α) (i:Nat):(chTo f l i)[i]? =l[i]? :=by
 unfold chTo
 rcases Nat.lt_or_ge i l.length with h|h
 ·rw[List.getElem?_append_right (by simp;omega)]
  simp
  congr 1
  omega
 ·simp[List.getElem?_eq_none,h]
theorem chTo_succ {α:Type} (f:α→α) (d:α) {l:List α} {i:Nat} (h:i<l.length):chTo f l (i+1)=(chTo f l i).set i (f (l[i]?.getD d)):=by
 unfold chTo
 rw[List.map_take,take_rowM d h,List.map_take,List.set_append_right _ _ (by simp;omega)]
 have:i- (List.take i (List.map f l)).length=0:=by simp;omega
 rw[this,List.drop_eq_getElem_cons (i:=i) h,List.getElem?_eq_getElem h]
 show _++ [_]++_=_
 rw[List.append_assoc]
 rfl
theorem rowsDdlI_ok (t:GTable) (l:List GRow) (d:GDdl) (ht:okTable t) (hk:t.fKeys.length≤1048576) (hl:okRowS l) (hd:okDdl d) (h1:d.fCols.length≤1048576) (h2:d.fKeys.length≤1048576):VC Tryz.prog 315 [vTable t,vRowS l,vDdl d] [(false,mRowS (rowsDdl t l d).1),(false,[(.s,.sc (.int .i64 (rowsDdl t l d).2))])]:=by
 refine vc_of_ew good hm [0,1,2,3,5,6,7,33,8,40,9,45,46,48,51,52,53,10,72,11,79,80,81,12] Tryz.func315 rfl (by kernel_rfl) (by kernel_rfl) rfl ?_
 simp[Tryz.f315,mRowS]
 refine .of (rowsOkI_ok t l ht hl hk) ?_
 simp
 refine .of (fun g=>⟨g,ddlOkI_ok d hd h1 h2⟩) ?_
 simp
 have hE:rowsDdl t l d=if rowsOk t l=false∨ddlOk d=false∨(d.fTable.toList==t.fName.toList)=false∨d.fKind=1 then ([],1) else if ddlCode ⟨[t]⟩ d≠0 then ([],ddlCode ⟨[t]⟩ d) else (if d.fKind=2 then [] else l.map (rowCh t d),0):=rfl
 refine ⟨fun h=>by rw[hE,if_pos (by simp only[beq_eq_false_iff_ne];grind)];simp,fun h3 h4 h5 k1=> ?_⟩
 rw[if_neg (by simp[h3,h4,h5,k1])] at hE
 have hn:d.fTable=t.fName:=tl_inj h5
 obtain ⟨g2,g3,g4,g5,g6⟩:=rowsOk_inv h3
 have htl:=tableOk_len g2
 have hoc:okCat ⟨[t]⟩:=⟨⟨by simp[okM],by simpa using ht⟩,trivial⟩
 refine .of (ddlCodeI_ok ⟨[t]⟩ d hoc hd h4) ?_
 simp
 refine ⟨fun h=>by rw[hE,if_pos h];simp,fun h6=> .of (copyRows_ok l (by omega) g6) ?_⟩
 rw[if_neg (by simp[h6])] at hE
 rw[hE]
 rw[ddlCode_one k1 hn] at h6
 simp[mRowS]
 refine ⟨fun k2=>by simp[k2],fun k2=> ?_⟩
 rw[if_neg k2]
 have hmd: ∀i:Nat,(fun k=>if k=i then [Md.o 234 fun x=> [Md.s,Md.s,Md.s]] else if k=i then [Md.x] else [Md.o 234 fun x=> [Md.s,Md.s,Md.s]])=fun x=> [Md.o 234 fun x=> [Md.s,Md.s,Md.s]]:=fun i=>by
  funext k
  by_cases hj:k=i<;>simp[hj]
 refine ⟨fun k3=> ?_,fun k3=>⟨fun k4=> ?_,fun k4=> ?_⟩⟩
 ·refine ew_loop (fun E=> ∃i:Nat,i≤l.length∧E= {nt:=98,sl:= [(5,.p (.bx 5 0)),(9,.v false [.r [43]]),(51,int .i64 l.length),(52,int .i64 i)],bx:= [(5,cDdl d)],rt:=(mRowS (chTo (rowCh t d) l i)).map fun y=>(43,y)}) (fun E=>l.length- (E.num 52).toNat) _ (Gh.kb _ [5,9,51,52] [5] [43]) ⟨0,by omega,by simp[mRowS,chTo_zero]⟩ ?_
  rintro E1 ⟨i,hi,rfl⟩
  have hlen:=chTo_len (rowCh t d) l i
  have hget:=chTo_get (rowCh t d) l i
  have hsu:=fun h=>chTo_succ (rowCh t d) dRow (l:=l) (i:=i) h
  have hal:=chTo_all (rowCh t d) l
  generalize hM:chTo (rowCh t d) l i=M at hlen hget hsu
  simp[mRowS]
  refine ⟨fun h=> ?_,fun h=> ?_⟩
  ·have hMi:M[i]'(by omega)=l[i]:=by
    rw[List.getElem?_eq_getElem (by omega),List.getElem?_eq_getElem h] at hget
    exact Option.some.inj hget
   simp[md,lf,eRow,List.range',hlen,h,hMi]
   have hrl:=rowFit_len (g4 _ (List.getElem_mem h))
   refine ⟨by have:=(ddlOk_3 h4 k3).1;omega,by omega,.of _ (Gh.kb _ [5,9,51,52] [5] [43]) ⟨i+1,by omega, ?_⟩ ?_⟩
   ·rw[hsu h,List.map_set]
    simp[wrapS (show i<9223372036854775807 by omega),hmd,h,rowCh,k3,eRow,eVal,col0]
   ·simp[wrapS (show i<9223372036854775807 by omega)];omega
  ·have:i=l.length:=by omega
   subst this
   rw[←hM,hal]
   simp
 ·have hj1:0≤colAt t d.fName:=colAt_nn.2 ((tabCode_0 h6).2.2 k4).1
  obtain ⟨j,hj⟩: ∃j:Nat,colAt t d.fName=j:=⟨_,(Int.toNat_of_nonneg hj1).symm⟩
  have hcb:colAt t d.fName<t.fCols.length:=(idxF_bd _ _).2
  have hca:=colAtI_ok t d.fName ht.2.1.1
  rw[hj] at hca
  refine .of hca ?_
  simp
  refine ew_loop (fun E=> ∃i:Nat,i≤l.length∧E= {nt:=98,sl:= [(9,.v false [.r [43]]),(11,int .i64 j),(79,int .i64 l.length),(80,int .i64 i)],bx:= [],rt:=(mRowS (chTo (rowCh t d) l i)).map fun y=>(43,y)}) (fun E=>l.length- (E.num 80).toNat) _ (Gh.kb _ [9,11,79,80] [] [43]) ⟨0,by omega,by simp[mRowS,chTo_zero]⟩ ?_
  rintro E1 ⟨i,hi,rfl⟩
  have hlen:=chTo_len (rowCh t d) l i
  have hget:=chTo_get (rowCh t d) l i
  have hsu:=fun h=>chTo_succ (rowCh t d) dRow (l:=l) (i:=i) h
  have hal:=chTo_all (rowCh t d) l
  generalize hM:chTo (rowCh t d) l i=M at hlen hget hsu
  simp[mRowS]
  refine ⟨fun h=> ?_,fun h=> ?_⟩
  ·have hMi:M[i]'(by omega)=l[i]:=by
    rw[List.getElem?_eq_getElem (by omega),List.getElem?_eq_getElem h] at hget
    exact Option.some.inj hget
   simp[md,lf,eRow,List.range',hlen,h,hMi,wrapS (show j<9223372036854775807 by omega)]
   have hrl:=rowFit_len (g4 _ (List.getElem_mem h))
   refine .use (vx_del (i:=j) (rows:=l[i].fVals.map eVal) (z:= [.sc (.int .i64 0),.sc (.int .i64 0),.sc (.string ⟨#[]⟩)]) (cols:=fun _=> [.s,.s,.s]) ⟨_,_,Tryz.func395,rfl,by kernel_rfl⟩ rawDel_Val (by decide) rfl (by simp;omega)) ?_
   simp[md,lf,eRow,List.range',hlen,h,hMi,colsD_const]
   refine .of _ (Gh.kb _ [9,11,79,80] [] [43]) ⟨i+1,by omega, ?_⟩ ?_
   ·rw[hsu h,List.map_set]
    simp[wrapS (show i<9223372036854775807 by omega),hmd,h,rowCh,k4,eRow,hj,List.eraseIdx_eq_take_drop_succ]
   ·simp[wrapS (show i<9223372036854775807 by omega)];omega
  ·have:i=l.length:=by omega
   subst this
   rw[←hM,hal]
   simp
 ·have:rowCh t d=fun r=>r:=by
   funext r
   simp[rowCh,k3,k4]
  rw[this]
  simp
end Go.Proofs.YteeolohhmfjafaaGreat
