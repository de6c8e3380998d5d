import Derived.Test.YteeolohhmfjafaaGreatG5
import Derived.Test.YteeolohhmfjafaaGreatG4
import Derived.Shelf.Spec.SlicesInsertGrow
import Derived.Shelf.RegionOpenPlain
import Derived.Lib.Overlaps
import Derived.WalkKit
import Derived.Deep.LoopGhost
import Derived.Deep.RegionLaw
import Derived.Lib.Walk
import Derived.Sort.WalkB12
import Derived.Lib.SliceRun
import Derived.Test.YteeolohhmfjafaaGreatG7
import Derived.Test.YteeolohhmfjafaaGreatG6
set_option maxHeartbeats 8000000
set_option maxRecDepth 8000
namespace Go.Proofs.YteeolohhmfjafaaGreat
open Go Go.Proofs Go.Sm Go.RowKit Go.Lib
set_option linter.unusedVariables false
set_option linter.unusedSimpArgs false
set_option maxRecDepth 100000 in
theorem delA_Rows (b n c i:Nat) (news:List Value) (w:World) (hin:i<n) (hnc:n≤c) (hc63:c≤9223372036854775807) (hlen:news.length=(n- (i+1))*1)
  (hcs0: ∀j v,news[j]? =some v→w.cell? ⟨b,(i+1)*1+j,none⟩=some v) (h1c: ∀v∈news,v.oneCell'=true) (hsp: ∀j,j<n*1→(w.cell? ⟨b,j,none⟩).isSome=true) (hfz: ∀j,w.frozen? ⟨b,j,none⟩=false):
  Calls Tryz.prog 314 #[.slice (some ⟨b,0,none⟩) n c,.int .i64 i,.int .i64 ((i+1:Nat):Int)] w fun e w'=>e= .returned (.slice (some ⟨b,0,none⟩) (n-1) c)∧w'=(w.drew.setCells b (i*1) news).setCells b ((n-1)*1) (.agg #[.slice none 0 0]:Value).cells.toList:=by
 have tS:Tryz.prog.underlying 37=some (.slice 205):=by kernel_rfl
 have t3:Tryz.prog.underlying 3=some (.int .i64):=by kernel_rfl
 have t4:Tryz.prog.underlying 4=some .bool:=by kernel_rfl
 have uS:=run_underlying tS;have u3:=run_underlying t3;have u4:=run_underlying t4
 obtain ⟨i0,hi0,hz0,hzs,hzb⟩:=info_parts (show (Tryz.prog.info? 205).map (fun i=>(i.zero,i.size,i.bytes))=some (some (.agg #[.slice none 0 0]:Value),1,24) by kernel_rfl)
 have zE: ∀w,(Go.sizeOf 205).run Tryz.prog w= .ok 1 w:=fun w=>by simp[Go.sizeOf,typeInfo,hi0,hzs]
 have zV: ∀w,(zeroValue 205).run Tryz.prog w= .ok (.agg #[.slice none 0 0]:Value) w:=fun w=>by simp[zeroValue,typeInfo,hi0,hz0]
 have mixed:=hm
 have hcs: ∀j v,news[j]? =some v→w.cell? ⟨b,i+1+j,none⟩=some v:=fun j v h=>by have:=hcs0 j v h;rwa [show (i+1)*1=i+1 by omega] at this
 have hzc:(.agg #[.slice none 0 0]:Value).cells.size=1:=by kernel_rfl
 have hb0:(0:Int)≤(i:Int)+1:=by omega
 have hb1:(i:Int)+1≤(n:Int):=by omega
 have htn:((i:Int)+1).toNat=i+1:=by omega
 have hne: ¬((i:Int)=(i:Int)+1):=by omega
 obtain ⟨A,hA,hsrc⟩: ∃A:Addr,(if c=i+1 then (some ⟨b,0,none⟩:Option Addr) else some ⟨b,i+1,none⟩)=some A∧Hid (∀t u,news[t]? =some u→w.drew.cell? (A.add t)=some u):=by
  by_cases h:c=i+1
  ·refine ⟨⟨b,0,none⟩,by simp[h],fun t u hu=> ?_⟩
   have h0:news.length=0:=by rw[hlen,show n- (i+1)=0 by omega,Nat.zero_mul]
   rw[List.length_eq_zero_iff.1 h0] at hu
   simp at hu
  ·refine ⟨⟨b,i+1,none⟩,by simp[h],fun t u hu=> ?_⟩
   rw[Addr.add_lit]
   exact hcs t u (by simpa using hu)
 have s1:Hid (news.length=(n- (i+1))*1):=hlen
 have s2:Hid (∀u∈news,u.oneCell'=true):=h1c
 have hnl:news.length+i*1+1=n*1:=by rw[hlen,Nat.sub_mul,Nat.add_mul];have:(i+1)*1≤n*1:=Nat.mul_le_mul_right _ hin;omega
 have s3:Hid (∀t,t<news.length→(w.drew.cell? ⟨b,0+i*1+t,none⟩).isSome=true∧w.drew.frozen? ⟨b,0+i*1+t,none⟩=false):=by
  intro t ht
  rw[Nat.zero_add]
  exact ⟨hsp _ (by omega),hfz _⟩
 obtain ⟨W1,hW1⟩: ∃W1,W1=w.drew.setCells b (0+i*1) news:=⟨_,rfl⟩
 have hn1:n-1=i+(n- (i+1)):=by omega
 have hcl: ∀ty,(Builtin.clear_ #[37] ty #[.slice (some ⟨b,i+(n- (i+1)),none⟩) (n- (i+(n- (i+1)))) (c- (i+(n- (i+1))))]).run Tryz.prog W1= .ok (.tuple #[]) (W1.setCells b (i+(n- (i+1))) (.agg #[.slice none 0 0]:Value).cells.toList):=fun ty=>by
  rw[show n- (i+(n- (i+1)))=1 by omega]
  exact run_clear1 tS zV b (i+(n- (i+1))) _ W1 (fun j hj=>by
   rw[hzc] at hj
   rw[hW1]
   exact isSome_setCells b news (0+i*1) w.drew (fun t ht=>(s3.out t ht).1) _ (hsp _ (by have:=mulLt (show n-1<n by omega) hj;omega))) (fun j hj=>by rw[hW1,World.frozen?_setCells];exact hfz _) (by decide) ty
 have hW:Hid (W1=w.drew.setCells b (0+i*1) news):=hW1
 have hic:i≤c:=by omega
 have hjc:i+1≤c:=by omega
 have hzero:(0:Nat)+i*1=i*1:=Nat.zero_add _
 rw[hn1,show (i+(n- (i+1)))*1=i+(n- (i+1)) by omega]
 clear hW1 hzc hnl hsp hfz hcs hcs0 hlen h1c hz0 hzb
 go_enter Tryz.func314,Tryz.ntmps314
 go_wp2_with fail
 go_region_law_o (refine step_append_room rfl (.tmp 22) (.tmp 25) 37 rfl 205 i0 1 tS hi0 hzs b 0 i c (by simp[Act.eval,Act.put]) A (n- (i+1)) (c- (i+1)) news (by simp[Act.eval,Act.put]) s1.out hsrc.out s2.out (by omega) s3.out ?_;rw[←hW.out])
 go_wp2
 go_ret
 refine ⟨rfl, ?_⟩
 rw[hW.out,hzero]
 rfl
theorem rawDel_Rows:RawDel Tryz.prog 314 205 1:=rawDel_of (.agg #[.slice none 0 0]:Value) (by decide) (by kernel_rfl) (fun b n c i news w=>delA_Rows b n c i news w)
set_option maxRecDepth 100000 in
theorem delA_Row (b n c i:Nat) (news:List Value) (w:World) (hin:i<n) (hnc:n≤c) (hc63:c≤9223372036854775807) (hlen:news.length=(n- (i+1))*1)
  (hcs0: ∀j v,news[j]? =some v→w.cell? ⟨b,(i+1)*1+j,none⟩=some v) (h1c: ∀v∈news,v.oneCell'=true) (hsp: ∀j,j<n*1→(w.cell? ⟨b,j,none⟩).isSome=true) (hfz: ∀j,w.frozen? ⟨b,j,none⟩=false):
  Calls Tryz.prog 320 #[.slice (some ⟨b,0,none⟩) n c,.int .i64 i,.int .i64 ((i+1:Nat):Int)] w fun e w'=>e= .returned (.slice (some ⟨b,0,none⟩) (n-1) c)∧w'=(w.drew.setCells b (i*1) news).setCells b ((n-1)*1) (.agg #[.slice none 0 0]:Value).cells.toList:=by
 have tS:Tryz.prog.underlying 203=some (.slice 120):=by kernel_rfl
 have t3:Tryz.prog.underlying 3=some (.int .i64):=by kernel_rfl
 have t4:Tryz.prog.underlying 4=some .bool:=by kernel_rfl
 have uS:=run_underlying tS;have u3:=run_underlying t3;have u4:=run_underlying t4
 obtain ⟨i0,hi0,hz0,hzs,hzb⟩:=info_parts (show (Tryz.prog.info? 120).map (fun i=>(i.zero,i.size,i.bytes))=some (some (.agg #[.slice none 0 0]:Value),1,24) by kernel_rfl)
 have zE: ∀w,(Go.sizeOf 120).run Tryz.prog w= .ok 1 w:=fun w=>by simp[Go.sizeOf,typeInfo,hi0,hzs]
 have zV: ∀w,(zeroValue 120).run Tryz.prog w= .ok (.agg #[.slice none 0 0]:Value) w:=fun w=>by simp[zeroValue,typeInfo,hi0,hz0]
 have mixed:=hm
 have hcs: ∀j v,news[j]? =some v→w.cell? ⟨b,i+1+j,none⟩=some v:=fun j v h=>by have:=hcs0 j v h;rwa [show (i+1)*1=i+1 by omega] at this
 have hzc:(.agg #[.slice none 0 0]:Value).cells.size=1:=by kernel_rfl
 have hb0:(0:Int)≤(i:Int)+1:=by omega
 have hb1:(i:Int)+1≤(n:Int):=by omega
 have htn:((i:Int)+1).toNat=i+1:=by omega
 have hne: ¬((i:Int)=(i:Int)+1):=by omega
 obtain ⟨A,hA,hsrc⟩: ∃A:Addr,(if c=i+1 then (some ⟨b,0,none⟩:Option Addr) else some ⟨b,i+1,none⟩)=some A∧Hid (∀t u,news[t]? =some u→w.drew.cell? (A.add t)=some u):=by
  by_cases h:c=i+1
  ·refine ⟨⟨b,0,none⟩,by simp[h],fun t u hu=> ?_⟩
   have h0:news.length=0:=by rw[hlen,show n- (i+1)=0 by omega,Nat.zero_mul]
   rw[List.length_eq_zero_iff.1 h0] at hu
   simp at hu
  ·refine ⟨⟨b,i+1,none⟩,by simp[h],fun t u hu=> ?_⟩
   rw[Addr.add_lit]
   exact hcs t u (by simpa using hu)
 have s1:Hid (news.length=(n- (i+1))*1):=hlen
 have s2:Hid (∀u∈news,u.oneCell'=true):=h1c
 have hnl:news.length+i*1+1=n*1:=by rw[hlen,Nat.sub_mul,Nat.add_mul];have:(i+1)*1≤n*1:=Nat.mul_le_mul_right _ hin;omega
 have s3:Hid (∀t,t<news.length→(w.drew.cell? ⟨b,0+i*1+t,none⟩).isSome=true∧w.drew.frozen? ⟨b,0+i*1+t,none⟩=false):=by
  intro t ht
  rw[Nat.zero_add]
  exact ⟨hsp _ (by omega),hfz _⟩
 obtain ⟨W1,hW1⟩: ∃W1,W1=w.drew.setCells b (0+i*1) news:=⟨_,rfl⟩
 have hn1:n-1=i+(n- (i+1)):=by omega
 have hcl: ∀ty,(Builtin.clear_ #[203] ty #[.slice (some ⟨b,i+(n- (i+1)),none⟩) (n- (i+(n- (i+1)))) (c- (i+(n- (i+1))))]).run Tryz.prog W1= .ok (.tuple #[]) (W1.setCells b (i+(n- (i+1))) (.agg #[.slice none 0 0]:Value).cells.toList):=fun ty=>by
  rw[show n- (i+(n- (i+1)))=1 by omega]
  exact run_clear1 tS zV b (i+(n- (i+1))) _ W1 (fun j hj=>by
   rw[hzc] at hj
   rw[hW1]
   exact isSome_setCells b news (0+i*1) w.drew (fun t ht=>(s3.out t ht).1) _ (hsp _ (by have:=mulLt (show n-1<n by omega) hj;omega))) (fun j hj=>by rw[hW1,World.frozen?_setCells];exact hfz _) (by decide) ty
 have hW:Hid (W1=w.drew.setCells b (0+i*1) news):=hW1
 have hic:i≤c:=by omega
 have hjc:i+1≤c:=by omega
 have hzero:(0:Nat)+i*1=i*1:=Nat.zero_add _
 rw[hn1,show (i+(n- (i+1)))*1=i+(n- (i+1)) by omega]
 clear hW1 hzc hnl hsp hfz hcs hcs0 hlen h1c hz0 hzb
 go_enter Tryz.func320,Tryz.ntmps320
 go_wp2_with fail
 go_region_law_o (refine step_append_room rfl (.tmp 22) (.tmp 25) 203 rfl 120 i0 1 tS hi0 hzs b 0 i c (by simp[Act.eval,Act.put]) A (n- (i+1)) (c- (i+1)) news (by simp[Act.eval,Act.put]) s1.out hsrc.out s2.out (by omega) s3.out ?_;rw[←hW.out])
 go_wp2
 go_ret
 refine ⟨rfl, ?_⟩
 rw[hW.out,hzero]
 rfl
theorem rawDel_Row:RawDel Tryz.prog 320 120 1:=rawDel_of (.agg #[.slice none 0 0]:Value) (by decide) (by kernel_rfl) (fun b n c i news w=>delA_Row b n c i news w)
set_option maxRecDepth 100000 in
theorem delA_Table (b n c i:Nat) (news:List Value) (w:World) (hin:i<n) (hnc:n≤c) (hc63:c≤9223372036854775807) (hlen:news.length=(n- (i+1))*3)
  (hcs0: ∀j v,news[j]? =some v→w.cell? ⟨b,(i+1)*3+j,none⟩=some v) (h1c: ∀v∈news,v.oneCell'=true) (hsp: ∀j,j<n*3→(w.cell? ⟨b,j,none⟩).isSome=true) (hfz: ∀j,w.frozen? ⟨b,j,none⟩=false):
  Calls Tryz.prog 390 #[.slice (some ⟨b,0,none⟩) n c,.int .i64 i,.int .i64 ((i+1:Nat):Int)] w fun e w'=>e= .returned (.slice (some ⟨b,0,none⟩) (n-1) c)∧w'=(w.drew.setCells b (i*3) news).setCells b ((n-1)*3) (.agg #[.string ⟨#[]⟩,.slice none 0 0,.slice none 0 0]:Value).cells.toList:=by
 have tS:Tryz.prog.underlying 34=some (.slice 201):=by kernel_rfl
 have t3:Tryz.prog.underlying 3=some (.int .i64):=by kernel_rfl
 have t4:Tryz.prog.underlying 4=some .bool:=by kernel_rfl
 have uS:=run_underlying tS;have u3:=run_underlying t3;have u4:=run_underlying t4
 obtain ⟨i0,hi0,hz0,hzs,hzb⟩:=info_parts (show (Tryz.prog.info? 201).map (fun i=>(i.zero,i.size,i.bytes))=some (some (.agg #[.string ⟨#[]⟩,.slice none 0 0,.slice none 0 0]:Value),3,64) by kernel_rfl)
 have zE: ∀w,(Go.sizeOf 201).run Tryz.prog w= .ok 3 w:=fun w=>by simp[Go.sizeOf,typeInfo,hi0,hzs]
 have zV: ∀w,(zeroValue 201).run Tryz.prog w= .ok (.agg #[.string ⟨#[]⟩,.slice none 0 0,.slice none 0 0]:Value) w:=fun w=>by simp[zeroValue,typeInfo,hi0,hz0]
 have mixed:=hm
 have hcs: ∀j v,news[j]? =some v→w.cell? ⟨b,(i+1)*3+j,none⟩=some v:=fun j v h=>by have:=hcs0 j v h;rwa [show (i+1)*3=(i+1)*3 by omega] at this
 have hzc:(.agg #[.string ⟨#[]⟩,.slice none 0 0,.slice none 0 0]:Value).cells.size=3:=by kernel_rfl
 have hb0:(0:Int)≤(i:Int)+1:=by omega
 have hb1:(i:Int)+1≤(n:Int):=by omega
 have htn:((i:Int)+1).toNat=i+1:=by omega
 have hne: ¬((i:Int)=(i:Int)+1):=by omega
 obtain ⟨A,hA,hsrc⟩: ∃A:Addr,(if c=i+1 then (some ⟨b,0,none⟩:Option Addr) else some ⟨b,(i+1)*3,none⟩)=some A∧Hid (∀t u,news[t]? =some u→w.drew.cell? (A.add t)=some u):=by
  by_cases h:c=i+1
  ·refine ⟨⟨b,0,none⟩,by simp[h],fun t u hu=> ?_⟩
   have h0:news.length=0:=by rw[hlen,show n- (i+1)=0 by omega,Nat.zero_mul]
   rw[List.length_eq_zero_iff.1 h0] at hu
   simp at hu
  ·refine ⟨⟨b,(i+1)*3,none⟩,by simp[h],fun t u hu=> ?_⟩
   rw[Addr.add_lit]
   exact hcs t u (by simpa using hu)
 have s1:Hid (news.length=(n- (i+1))*3):=hlen
 have s2:Hid (∀u∈news,u.oneCell'=true):=h1c
 have hnl:news.length+i*3+3=n*3:=by rw[hlen,Nat.sub_mul,Nat.add_mul];have:(i+1)*3≤n*3:=Nat.mul_le_mul_right _ hin;omega
 have s3:Hid (∀t,t<news.length→(w.drew.cell? ⟨b,0+i*3+t,none⟩).isSome=true∧w.drew.frozen? ⟨b,0+i*3+t,none⟩=false):=by
  intro t ht
  rw[Nat.zero_add]
  exact ⟨hsp _ (by omega),hfz _⟩
 obtain ⟨W1,hW1⟩: ∃W1,W1=w.drew.setCells b (0+i*3) news:=⟨_,rfl⟩
 have hn1:n-1=i+(n- (i+1)):=by omega
 have hcl: ∀ty,(Builtin.clear_ #[34] ty #[.slice (some ⟨b,(i+(n- (i+1)))*3,none⟩) (n- (i+(n- (i+1)))) (c- (i+(n- (i+1))))]).run Tryz.prog W1= .ok (.tuple #[]) (W1.setCells b ((i+(n- (i+1)))*3) (.agg #[.string ⟨#[]⟩,.slice none 0 0,.slice none 0 0]:Value).cells.toList):=fun ty=>by
  rw[show n- (i+(n- (i+1)))=1 by omega]
  exact run_clear1 tS zV b ((i+(n- (i+1)))*3) _ W1 (fun j hj=>by
   rw[hzc] at hj
   rw[hW1]
   exact isSome_setCells b news (0+i*3) w.drew (fun t ht=>(s3.out t ht).1) _ (hsp _ (by have:=mulLt (show n-1<n by omega) hj;omega))) (fun j hj=>by rw[hW1,World.frozen?_setCells];exact hfz _) (by decide) ty
 have hW:Hid (W1=w.drew.setCells b (0+i*3) news):=hW1
 have hic:i≤c:=by omega
 have hjc:i+1≤c:=by omega
 have hzero:(0:Nat)+i*3=i*3:=Nat.zero_add _
 rw[hn1,show (i+(n- (i+1)))*3=(i+(n- (i+1)))*3 by omega]
 clear hW1 hzc hnl hsp hfz hcs hcs0 hlen h1c hz0 hzb
 go_enter Tryz.func390,Tryz.ntmps390
 go_wp2_with fail
 go_region_law_o (refine step_append_room rfl (.tmp 22) (.tmp 25) 34 rfl 201 i0 3 tS hi0 hzs b 0 i c (by simp[Act.eval,Act.put]) A (n- (i+1)) (c- (i+1)) news (by simp[Act.eval,Act.put]) s1.out hsrc.out s2.out (by omega) s3.out ?_;rw[←hW.out])
 go_wp2
 go_ret
 refine ⟨rfl, ?_⟩
 rw[hW.out,hzero]
 rfl
theorem rawDel_Table:RawDel Tryz.prog 390 201 3:=rawDel_of (.agg #[.string ⟨#[]⟩,.slice none 0 0,.slice none 0 0]:Value) (by decide) (by kernel_rfl) (fun b n c i news w=>delA_Table b n c i news w)
set_option maxRecDepth 100000 in
theorem delA_Val (b n c i:Nat) (news:List Value) (w:World) (hin:i<n) (hnc:n≤c) (hc63:c≤9223372036854775807) (hlen:news.length=(n- (i+1))*3)
  (hcs0: ∀j v,news[j]? =some v→w.cell? ⟨b,(i+1)*3+j,none⟩=some v) (h1c: ∀v∈news,v.oneCell'=true) (hsp: ∀j,j<n*3→(w.cell? ⟨b,j,none⟩).isSome=true) (hfz: ∀j,w.frozen? ⟨b,j,none⟩=false):
  Calls Tryz.prog 395 #[.slice (some ⟨b,0,none⟩) n c,.int .i64 i,.int .i64 ((i+1:Nat):Int)] w fun e w'=>e= .returned (.slice (some ⟨b,0,none⟩) (n-1) c)∧w'=(w.drew.setCells b (i*3) news).setCells b ((n-1)*3) (.agg #[.int .i64 0,.int .i64 0,.string ⟨#[]⟩]:Value).cells.toList:=by
 have tS:Tryz.prog.underlying 118=some (.slice 234):=by kernel_rfl
 have t3:Tryz.prog.underlying 3=some (.int .i64):=by kernel_rfl
 have t4:Tryz.prog.underlying 4=some .bool:=by kernel_rfl
 have uS:=run_underlying tS;have u3:=run_underlying t3;have u4:=run_underlying t4
 obtain ⟨i0,hi0,hz0,hzs,hzb⟩:=info_parts (show (Tryz.prog.info? 234).map (fun i=>(i.zero,i.size,i.bytes))=some (some (.agg #[.int .i64 0,.int .i64 0,.string ⟨#[]⟩]:Value),3,32) by kernel_rfl)
 have zE: ∀w,(Go.sizeOf 234).run Tryz.prog w= .ok 3 w:=fun w=>by simp[Go.sizeOf,typeInfo,hi0,hzs]
 have zV: ∀w,(zeroValue 234).run Tryz.prog w= .ok (.agg #[.int .i64 0,.int .i64 0,.string ⟨#[]⟩]:Value) w:=fun w=>by simp[zeroValue,typeInfo,hi0,hz0]
 have mixed:=hm
 have hcs: ∀j v,news[j]? =some v→w.cell? ⟨b,(i+1)*3+j,none⟩=some v:=fun j v h=>by have:=hcs0 j v h;rwa [show (i+1)*3=(i+1)*3 by omega] at this
 have hzc:(.agg #[.int .i64 0,.int .i64 0,.string ⟨#[]⟩]:Value).cells.size=3:=by kernel_rfl
 have hb0:(0:Int)≤(i:Int)+1:=by omega
 have hb1:(i:Int)+1≤(n:Int):=by omega
 have htn:((i:Int)+1).toNat=i+1:=by omega
 have hne: ¬((i:Int)=(i:Int)+1):=by omega
 obtain ⟨A,hA,hsrc⟩: ∃A:Addr,(if c=i+1 then (some ⟨b,0,none⟩:Option Addr) else some ⟨b,(i+1)*3,none⟩)=some A∧Hid (∀t u,news[t]? =some u→w.drew.cell? (A.add t)=some u):=by
  by_cases h:c=i+1
  ·refine ⟨⟨b,0,none⟩,by simp[h],fun t u hu=> ?_⟩
   have h0:news.length=0:=by rw[hlen,show n- (i+1)=0 by omega,Nat.zero_mul]
   rw[List.length_eq_zero_iff.1 h0] at hu
   simp at hu
  ·refine ⟨⟨b,(i+1)*3,none⟩,by simp[h],fun t u hu=> ?_⟩
   rw[Addr.add_lit]
   exact hcs t u (by simpa using hu)
 have s1:Hid (news.length=(n- (i+1))*3):=hlen
 have s2:Hid (∀u∈news,u.oneCell'=true):=h1c
 have hnl:news.length+i*3+3=n*3:=by rw[hlen,Nat.sub_mul,Nat.add_mul];have:(i+1)*3≤n*3:=Nat.mul_le_mul_right _ hin;omega
 have s3:Hid (∀t,t<news.length→(w.drew.cell? ⟨b,0+i*3+t,none⟩).isSome=true∧w.drew.frozen? ⟨b,0+i*3+t,none⟩=false):=by
  intro t ht
  rw[Nat.zero_add]
  exact ⟨hsp _ (by omega),hfz _⟩
 obtain ⟨W1,hW1⟩: ∃W1,W1=w.drew.setCells b (0+i*3) news:=⟨_,rfl⟩
 have hn1:n-1=i+(n- (i+1)):=by omega
 have hcl: ∀ty,(Builtin.clear_ #[118] ty #[.slice (some ⟨b,(i+(n- (i+1)))*3,none⟩) (n- (i+(n- (i+1)))) (c- (i+(n- (i+1))))]).run Tryz.prog W1= .ok (.tuple #[]) (W1.setCells b ((i+(n- (i+1)))*3) (.agg #[.int .i64 0,.int .i64 0,.string ⟨#[]⟩]:Value).cells.toList):=fun ty=>by
  rw[show n- (i+(n- (i+1)))=1 by omega]
  exact run_clear1 tS zV b ((i+(n- (i+1)))*3) _ W1 (fun j hj=>by
   rw[hzc] at hj
   rw[hW1]
   exact isSome_setCells b news (0+i*3) w.drew (fun t ht=>(s3.out t ht).1) _ (hsp _ (by have:=mulLt (show n-1<n by omega) hj;omega))) (fun j hj=>by rw[hW1,World.frozen?_setCells];exact hfz _) (by decide) ty
 have hW:Hid (W1=w.drew.setCells b (0+i*3) news):=hW1
 have hic:i≤c:=by omega
 have hjc:i+1≤c:=by omega
 have hzero:(0:Nat)+i*3=i*3:=Nat.zero_add _
 rw[hn1,show (i+(n- (i+1)))*3=(i+(n- (i+1)))*3 by omega]
 clear hW1 hzc hnl hsp hfz hcs hcs0 hlen h1c hz0 hzb
 go_enter Tryz.func395,Tryz.ntmps395
 go_wp2_with fail
 go_region_law_o (refine step_append_room rfl (.tmp 22) (.tmp 25) 118 rfl 234 i0 3 tS hi0 hzs b 0 i c (by simp[Act.eval,Act.put]) A (n- (i+1)) (c- (i+1)) news (by simp[Act.eval,Act.put]) s1.out hsrc.out s2.out (by omega) s3.out ?_;rw[←hW.out])
 go_wp2
 go_ret
 refine ⟨rfl, ?_⟩
 rw[hW.out,hzero]
 rfl
theorem rawDel_Val:RawDel Tryz.prog 395 234 3:=rawDel_of (.agg #[.int .i64 0,.int .i64 0,.string ⟨#[]⟩]:Value) (by decide) (by kernel_rfl) (fun b n c i news w=>delA_Val b n c i news w)
end Go.Proofs.YteeolohhmfjafaaGreat
namespace Go.Proofs.YteeolohhmfjafaaGreat
open Go Go.Proofs Go.Sm
attribute [local simp] ti eStr eInt eByte eVal vVal eValS vValS eRow cRow vRow eCol vCol vColS vStrS eDdl cDdl vDdl eStmt cStmt vStmt ePart vPart vPartS eBatch vBatch eTable cTable vTable vTableS cCat vCat vRowS eRows vRows vRowsS cDb vDb eRec vRec vRecS eTail cTail vTail vBatchS vStmtS
set_option linter.unusedVariables false
set_option linter.unusedSimpArgs false
set_option maxRecDepth 8000
theorem equalVal_ok (a b:List GVal) (ha:okM a.length):VC Tryz.prog 319 [vValS a,vValS b] [(false,[(.s,.sc (.bool (eqRows veq dVal a b)))])]:=by
 unfold okM at ha
 refine vc_of_ew good hm [0,1,4,10,12,13,14,5,24] Tryz.func319 rfl (by kernel_rfl) (by kernel_rfl) rfl ?_
 simp[Tryz.f319]
 refine ⟨fun h=>by simp[eqRows,h],fun hl=> ?_⟩
 refine ew_loop (fun E=> ∃i:Nat,i≤a.length∧eqTo veq dVal a b i=true∧E= {nt:=26,sl:= [(0,vValS a),(1,vValS b),(12,int .i64 a.length),(13,int .i64 i)],bx:= [],rt:= []}) (fun E=>a.length- (E.num 13).toNat) _ (Gh.kb _ [0,1,12,13] [] []) ⟨0,by omega,by simp[eqTo],by simp⟩ ?_
 rintro E1 ⟨i,hi,hall,rfl⟩
 simp
 have hat:veq (a[i]?.getD dVal) (b[i]?.getD dVal)=((a[i]?.getD dVal).fTy==(b[i]?.getD dVal).fTy&& ((a[i]?.getD dVal).fN==(b[i]?.getD dVal).fN&& (a[i]?.getD dVal).fS.toList==(b[i]?.getD dVal).fS.toList)):=rfl
 refine ⟨fun h=>⟨h,by omega, ?_⟩,fun h=> ?_⟩
 ·refine ⟨fun hb=> ?_,fun h1 h2 h3=> .of _ (Gh.kb _ [0,1,12,13] [] []) ⟨i+1,by omega,by rw[eqTo_succ,hall,hat];simp[h1,h2,h3], ?_⟩ ?_⟩
  ·have:=eqTo_no (eq:=veq) (d:=dVal) (a:=a) (b:=b) h (by rw[hat];grind)
   simp[eqRows,this]
  ·simp[wrapS (show i<9223372036854775807 by omega)]
  ·simp[wrapS (show i<9223372036854775807 by omega)];omega
 ·have:i=a.length:=by omega
  subst this
  simp[eqRows,hall,hl]
theorem rowAt1_ok (t:GTable) (key:List GVal) (r:GRow) (ht:okTable t) (hk:t.fKeys.length≤1048576) (hin:keysIn t r):VC Tryz.prog 397 [vRow r,.p (.ps (eTable t)),.p (.ps (eValS key))] [(false,[(.s,.sc (.bool (eqRows veq dVal (keyOf t r) key)))])]:=by
 refine vc_of_ew good hm [0,1,2,3,4] Tryz.func397 rfl (by kernel_rfl) (by kernel_rfl) rfl ?_
 simp[Tryz.f397,eValS]
 refine .of (keyI_ok t r ht hk hin) ?_
 simp[mValS]
 refine .of (equalVal_ok (keyOf t r) key (by rw[keyOf_len];unfold okM;omega)) ?_
 simp
theorem rowAt_ok (t:GTable) (l:List GRow) (key:List GVal) (ht:okTable t) (hk:t.fKeys.length≤1048576) (hl:okM l.length) (hin: ∀r∈l,keysIn t r):VC Tryz.prog 316 [vTable t,vRowS l,vValS key] [(false,[(.s,.sc (.int .i64 (keyAt t l key)))])]:=by
 refine vc_of_ew good hm [0,1,2,3,5,6] Tryz.func316 rfl (by kernel_rfl) (by kernel_rfl) rfl ?_
 simp[Tryz.f316]
 refine .of (idxRow2_ok l _ _ _ (fun r=>eqRows veq dVal (keyOf t r) key) hl (fun x hx=>rowAt1_ok t key x ht hk (hin x hx))) ?_
 simp[keyAt]
theorem take_row {α:Type} {l:List α} {i:Nat} (d:α) (h:i<l.length):l.take (i+1)=l.take i++ [l[i]?.getD d]:=by
 rw[List.take_succ_eq_append_getElem h,List.getElem?_eq_getElem h]
 rfl
theorem take_rowM {α β:Type} {f:α→β} {l:List α} {i:Nat} (d:α) (h:i<l.length):(l.map f).take (i+1)=(l.map f).take i++ [f (l[i]?.getD d)]:=by
 rw[←List.map_take,take_row d h,List.map_append,List.map_take]
 rfl
theorem copyRows_ok (l:List GRow) (hl:l.length≤1048576) (hb: ∀r∈l,r.fVals.length≤1048576):VC Tryz.prog 253 [vRowS l] [(false,mRowS l)]:=by
 refine vc_of_ew good hm [0,2,3,6,7,8,9,5] Tryz.func253 rfl (by kernel_rfl) (by kernel_rfl) rfl ?_
 simp[Tryz.f253,mRowS]
 refine ew_loop (fun E=> ∃i:Nat,i≤l.length∧E= {nt:=21,sl:= [(3,.v false [.r [990]]),(6,vRowS l),(7,int .i64 l.length),(8,int .i64 i)],bx:= [],rt:=(mRowS (l.take i)).map fun y=>(990,y)}) (fun E=>l.length- (E.num 8).toNat) _ ((Gh.nlS _ 3 0 990 120 (fun _=> [.o 234 (fun _=> [.s,.s,.s])]) [.ls [.sc (.int .i64 0),.sc (.int .i64 0),.sc (.string ⟨#[]⟩)] []]).trans (Gh.kb _ [3,6,7,8] [] [990])) ⟨0,by omega,by simp[mRowS]⟩ ?_
 rintro E1 ⟨i,hi,rfl⟩
 simp[mRowS]
 refine ⟨fun h=>⟨h,.of (copyVals_ok _ (hb _ (getD_mem dRow h))) ?_⟩,fun h=> ?_⟩
 ·simp[mValS]
  refine ⟨by omega,.of _ ((Gh.kb _ [3,6,7,8] [] [18]).trans (Gh.rn _ 18 990)) ⟨i+1,by omega, ?_⟩ ?_⟩
  ·rw[take_rowM dRow h]
   simp[wrapS (show i<9223372036854775807 by omega),mRowS]
  ·simp[wrapS (show i<9223372036854775807 by omega)];omega
 ·have:i=l.length:=by omega
  subst this
  rw[←List.map_take,List.take_length]
theorem colsI_const (i:Nat) (c:List Md):colsI i (fun _=>c) (fun _=>c)=fun _=>c:=by
 funext k
 simp[colsI]
theorem colsD_const (i:Nat) (c:List Md):colsD i (fun _=>c)=fun _=>c:=by
 funext k
 simp[colsD]
theorem rowFit_len {t:GTable} {r:GRow} (h:rowFit t r=true):r.fVals.length=t.fCols.length:=((rowFit_iff t r).1 h).1
theorem tableOk_len {t:GTable} (h:tableOk t=true):t.fCols.length≤8∧t.fKeys.length≤8:=by
 rw[tableOk_iff] at h
 have:=h.2.2.2.2.2.2.1.length_le
 simp only[cnm,List.length_map] at this
 omega
theorem rowsOk_inv {t:GTable} {l:List GRow} (h:rowsOk t l=true):tableOk t=true∧l.length≤60∧(∀x∈l,rowFit t x=true)∧(∀x∈l,keysIn t x)∧(∀x∈l,x.fVals.length≤1048576):=by
 have h0:=h
 rw[rowsOk_iff] at h
 exact ⟨h.1,h.2.1,h.2.2.1,fun x hx=>tableOk_keys h.1 (h.2.2.1 x hx),fun x hx=>by have:=(rowsOk_ok h0).2.2 x hx;omega⟩
theorem placed_ok (t:GTable) (l:List GRow) (r:GRow) (ht:okTable t) (hto:tableOk t=true) (hl:l.length≤60) (hf: ∀x∈l,rowFit t x=true) (hr:rowFit t r=true):VC Tryz.prog 317 [vTable t,vRowS l,vRow r] [(false,mRowS (insW (fun x=>rowLt t x r) r l))]:=by
 have htl:=tableOk_len hto
 have hk:t.fKeys.length≤1048576:=by omega
 have hrl:=rowFit_len hr
 refine vc_of_ew good hm [0,1,2,3,5,6,7,23] Tryz.func317 rfl (by kernel_rfl) (by kernel_rfl) rfl ?_
 simp[Tryz.f317,mRowS]
 refine ew_loop (fun E=> ∃i:Nat,i≤(l.takeWhile (fun x=>rowLt t x r)).length∧E= {nt:=35,sl:= [(1,vRowS l),(3,.p (.bx 3 0)),(5,.p (.bx 5 0)),(7,int .i64 i)],bx:= [(3,cTable t),(5,cRow r)],rt:= []}) (fun E=>l.length- (E.num 7).toNat) _ (Gh.kb _ [1,3,5,7] [3,5] []) ⟨0,by omega,by simp⟩ ?_
 rintro E1 ⟨i,hi,rfl⟩
 have htw:=takeW_len (fun x=>rowLt t x r) l
 have hat:=takeW_at (fun x=>rowLt t x r) dRow hi
 simp
 have hd8:t.fKeys.length=(keyOf t r).length:=(keyOf_len t r).symm
 have hb8: ∀x,okM (keyOf t x).length:=fun x=>by rw[keyOf_len];unfold okM;omega
 refine .of (fun g=>⟨g,keyI_ok t _ ht hk (tableOk_keys hto (hf _ (getD_mem dRow g)))⟩) ?_
 simp[mValS]
 refine .of (fun g=>⟨g,keyI_ok t r ht hk (tableOk_keys hto hr)⟩) ?_
 simp[mValS]
 refine .of (fun g=>⟨by grind,keyLessI_ok (keyOf t _) (keyOf t r) (hb8 _) (hb8 _)⟩) ?_
 simp
 refine ⟨fun h1 h2=> .of _ (Gh.kb _ [1,3,5,7] [3,5] []) ⟨i+1,hat.2 ⟨h1,h2⟩, ?_⟩ ?_,fun h2=> ?_⟩
 ·simp[wrapS (show i<9223372036854775807 by omega)]
 ·simp[wrapS (show i<9223372036854775807 by omega)];omega
 ·have hiq:i=(l.takeWhile (fun x=>rowLt t x r)).length:=by
   rcases Nat.lt_or_ge i (l.takeWhile (fun x=>rowLt t x r)).length with hlt|hge
   ·obtain ⟨g1,g2⟩:=hat.1 hlt
    have:=h2 g1
    rw[show keyLess (keyOf t (l[i]?.getD dRow)) (keyOf t r)=true from g2] at this
    cases this
   ·omega
  refine .of (copyRows_ok l (by omega) (fun x hx=>by have:=rowFit_len (hf x hx);omega)) ?_
  simp[mRowS]
  refine .of (copyVals_ok _ (by omega)) ?_
  simp[mValS]
  refine ⟨of_eq_true (full_RowS [r]),.use (vx_ins (i:=i) (rows:=l.map eRow) (row:=eRow r) (z:= [.ls [.sc (.int .i64 0),.sc (.int .i64 0),.sc (.string ⟨#[]⟩)] []]) (cols:=fun _=> [.o 234 (fun _=> [.s,.s,.s])]) (cols':=fun _=> [.o 234 (fun _=> [.s,.s,.s])]) ⟨_,_,Tryz.func398,rfl,by kernel_rfl⟩ rawIns_Row (by decide) (by decide) rfl (by simp;omega) (by simp;omega)) ?_⟩
  simp[colsI_const]
  rw[insW_at,←hiq]
  simp
theorem rowPutI_ok (t:GTable) (l:List GRow) (r:GRow) (ht:okTable t) (hk:t.fKeys.length≤1048576) (hl:okRowS l) (hr:okRow r):VC Tryz.prog 203 [vTable t,vRowS l,vRow r] [(false,mRowS (rowPut t l r).1),(false,[(.s,.sc (.int .i64 (rowPut t l r).2))])]:=by
 refine vc_of_ew good hm [0,1,2,3,5,6,7,8,13,18,26] Tryz.func203 rfl (by kernel_rfl) (by kernel_rfl) rfl ?_
 simp[Tryz.f203,mRowS]
 refine .of (rowsOkI_ok t l ht hl hk) ?_
 simp
 refine ⟨fun h=>by simp[rowPut,h],fun h1=> .of (rowOkI_ok t r ht hr.1.1) ?_⟩
 obtain ⟨h2,h3,h4,h5,h6⟩:=rowsOk_inv h1
 simp
 refine ⟨fun h=>by simp[rowPut,h1,h],fun h7=> .of (keyI_ok t r ht hk (tableOk_keys h2 h7)) ?_⟩
 simp[mValS]
 refine .of (rowAt_ok t l (keyOf t r) ht hk (by unfold okM;omega) h5) ?_
 simp
 have hat:rowPut t l r=if 0≤keyAt t l (keyOf t r) then ([],3) else if l.length=60 then ([],4) else (insW (fun x=>rowLt t x r) r l,0):=by simp[rowPut,h1,h7]
 refine ⟨fun h=>by simp[hat,h],fun h8=>⟨fun h=>by rw[hat,if_neg (by omega),if_pos (by omega)];simp,fun h=> .of (placed_ok t l r ht h2 h3 h4 h7) ?_⟩⟩
 rw[hat,if_neg (by omega),if_neg (by omega)]
 simp[mRowS]
theorem rowSetI_ok (t:GTable) (l:List GRow) (key:List GVal) (r:GRow) (ht:okTable t) (hk:t.fKeys.length≤1048576) (hl:okRowS l) (hkey:okM key.length) (hr:okRow r):VC Tryz.prog 204 [vTable t,vRowS l,vValS key,vRow r] [(false,mRowS (rowSet t l key r).1),(false,[(.s,.sc (.int .i64 (rowSet t l key r).2))])]:=by
 refine vc_of_ew good hm [0,1,2,3,4,7,8,9,12,17,22,10,47,11] Tryz.func204 rfl (by kernel_rfl) (by kernel_rfl) rfl ?_
 simp[Tryz.f204,mRowS]
 refine .of (rowsOkI_ok t l ht hl hk) ?_
 simp
 refine ⟨fun h=>by simp[rowSet,h],fun h1=> .of (rowOkI_ok t r ht hr.1.1) ?_⟩
 obtain ⟨h2,h3,h4,h5,h6⟩:=rowsOk_inv h1
 have hM:okM l.length:=by unfold okM;omega
 simp
 refine ⟨fun h=>by simp[rowSet,h1,h],fun h7=> .of (keyOkI_ok t key ht hkey) ?_⟩
 simp
 refine .of (fun g=>⟨g,rowAt_ok t l key ht hk hM h5⟩) ?_
 simp
 refine ⟨fun h=> ?_,fun g1 g2=> .of (keyI_ok t r ht hk (tableOk_keys h2 h7)) ?_⟩
 ·have:rowSet t l key r=([],5):=by
   unfold rowSet
   rw[if_neg (by simp[h1]),if_neg (by simp[h7]),if_pos h]
  simp[this]
 obtain ⟨k,hk'⟩: ∃k:Nat,keyAt t l key=k:=⟨_,(Int.toNat_of_nonneg g2).symm⟩
 have hb:=keyAt_bd t l key
 have hset:rowSet t l key r=if eqRows veq dVal (keyOf t r) key=false∧0≤keyAt t l (keyOf t r) then ([],3) else (insW (fun x=>rowLt t x r) r (l.eraseIdx (keyAt t l key).toNat),0):=by
  unfold rowSet
  rw[if_neg (by simp[h1]),if_neg (by simp[h7]),if_neg (by simp[g1];omega)]
 simp[mValS]
 refine .of (equalVal_ok (keyOf t r) key (by rw[keyOf_len];unfold okM;omega)) ?_
 simp
 refine .of (fun g=>⟨g,rowAt_ok t l (keyOf t r) ht hk hM h5⟩) ?_
 simp
 refine ⟨fun q1 q2=>by rw[hset,if_pos ⟨q1,q2⟩];simp,fun q=> ?_⟩
 have hat:=rowAt_ok t l key ht hk hM h5
 rw[hk'] at hat
 refine .of hat ?_
 simp
 refine .of (copyRows_ok l (by omega) h6) ?_
 simp[mRowS,wrapS (show k<9223372036854775807 by omega)]
 refine .use (vx_del (i:=k) (rows:=l.map eRow) (z:= [.ls [.sc (.int .i64 0),.sc (.int .i64 0),.sc (.string ⟨#[]⟩)] []]) (cols:=fun _=> [.o 234 (fun _=> [.s,.s,.s])]) ⟨_,_,Tryz.func320,rfl,by kernel_rfl⟩ rawDel_Row (by decide) rfl (by simp;omega)) ?_
 simp[colsD_const]
 have hrest:rowsOk t (l.eraseIdx k)=true:=rowsOk_erase h1 k
 obtain ⟨e2,e3,e4,e5,e6⟩:=rowsOk_inv hrest
 have he:l.take k++l.drop (k+1)=l.eraseIdx k:=(List.eraseIdx_eq_take_drop_succ l k).symm
 have hpl:=placed_ok t (l.eraseIdx k) r ht h2 e3 e4 h7
 have hme:(l.map eRow).take k++(l.map eRow).drop (k+1)=(l.eraseIdx k).map eRow:=by rw[←he,List.map_append,List.map_take,List.map_drop]
 rw[hme]
 refine ⟨of_eq_true (full_RowS _),.of hpl ?_⟩
 simp[mRowS]
 rw[hset,if_neg (fun h=>by have:=q h.1;omega),hk']
 simp
theorem rowOutI_ok (t:GTable) (l:List GRow) (key:List GVal) (ht:okTable t) (hk:t.fKeys.length≤1048576) (hl:okRowS l) (hkey:okM key.length):VC Tryz.prog 205 [vTable t,vRowS l,vValS key] [(false,mRowS (rowOut t l key).1),(false,[(.s,.sc (.int .i64 (rowOut t l key).2))])]:=by
 refine vc_of_ew good hm [0,1,2,3,6,7,9,14,8] Tryz.func205 rfl (by kernel_rfl) (by kernel_rfl) rfl ?_
 simp[Tryz.f205,mRowS]
 refine .of (rowsOkI_ok t l ht hl hk) ?_
 simp
 refine ⟨fun h=>by simp[rowOut,h],fun h1=> .of (keyOkI_ok t key ht hkey) ?_⟩
 obtain ⟨h2,h3,h4,h5,h6⟩:=rowsOk_inv h1
 have hM:okM l.length:=by unfold okM;omega
 simp
 refine .of (fun g=>⟨g,rowAt_ok t l key ht hk hM h5⟩) ?_
 simp
 refine ⟨fun h=> ?_,fun g1 g2=> ?_⟩
 ·have:rowOut t l key=([],5):=by
   unfold rowOut
   rw[if_neg (by simp[h1]),if_pos h]
  simp[this]
 ·obtain ⟨k,hk'⟩: ∃k:Nat,keyAt t l key=k:=⟨_,(Int.toNat_of_nonneg g2).symm⟩
  have hb:=keyAt_bd t l key
  have hat:=rowAt_ok t l key ht hk hM h5
  rw[hk'] at hat
  have hout:rowOut t l key=(l.eraseIdx k,0):=by
   unfold rowOut
   rw[if_neg (by simp[h1]),if_neg (by simp[g1];omega),hk']
   rfl
  refine .of hat ?_
  simp
  refine .of (copyRows_ok l (by omega) h6) ?_
  simp[mRowS,wrapS (show k<9223372036854775807 by omega)]
  refine .use (vx_del (i:=k) (rows:=l.map eRow) (z:= [.ls [.sc (.int .i64 0),.sc (.int .i64 0),.sc (.string ⟨#[]⟩)] []]) (cols:=fun _=> [.o 234 (fun _=> [.s,.s,.s])]) ⟨_,_,Tryz.func320,rfl,by kernel_rfl⟩ rawDel_Row (by decide) rfl (by simp;omega)) ?_
  simp[colsD_const]
  rw[hout,List.eraseIdx_eq_take_drop_succ]
  simp
end Go.Proofs.YteeolohhmfjafaaGreat
namespace Go.Proofs.YteeolohhmfjafaaGreat
open Go Go.Proofs Go.Sm
attribute [local simp] ti eStr eInt eByte eVal vVal eValS vValS eRow cRow vRow eCol vCol vColS vStrS eDdl cDdl vDdl eStmt cStmt vStmt ePart vPart vPartS eBatch vBatch eTable cTable vTable vTableS cCat vCat vRowS eRows vRows vRowsS cDb vDb eRec vRec vRecS eTail cTail vTail vBatchS vStmtS
set_option linter.unusedVariables false
set_option linter.unusedSimpArgs false
set_option maxRecDepth 8000
theorem sameVals_ok (a b:List GVal) (ha:okM a.length):VC Tryz.prog 336 [vValS a,vValS b] [(false,[(.s,.sc (.bool (eqRows veq dVal a b)))])]:=by
 unfold okM at ha
 refine vc_of_ew good hm [0,1,4,10,12,13,14,5,24] Tryz.func336 rfl (by kernel_rfl) (by kernel_rfl) rfl ?_
 simp[Tryz.f336]
 refine ⟨fun h=>by simp[eqRows,h],fun hl=> ?_⟩
 refine ew_loop (fun E=> ∃i:Nat,i≤a.length∧eqTo veq dVal a b i=true∧E= {nt:=26,sl:= [(0,vValS a),(1,vValS b),(12,int .i64 a.length),(13,int .i64 i)],bx:= [],rt:= []}) (fun E=>a.length- (E.num 13).toNat) _ (Gh.kb _ [0,1,12,13] [] []) ⟨0,by omega,by simp[eqTo],by simp⟩ ?_
 rintro E1 ⟨i,hi,hall,rfl⟩
 simp
 have hat:veq (a[i]?.getD dVal) (b[i]?.getD dVal)=((a[i]?.getD dVal).fTy==(b[i]?.getD dVal).fTy&& ((a[i]?.getD dVal).fN==(b[i]?.getD dVal).fN&& (a[i]?.getD dVal).fS.toList==(b[i]?.getD dVal).fS.toList)):=rfl
 refine ⟨fun h=>⟨h,by omega, ?_⟩,fun h=> ?_⟩
 ·refine ⟨fun hb=> ?_,fun h1 h2 h3=> .of _ (Gh.kb _ [0,1,12,13] [] []) ⟨i+1,by omega,by rw[eqTo_succ,hall,hat];simp[h1,h2,h3], ?_⟩ ?_⟩
  ·have:=eqTo_no (eq:=veq) (d:=dVal) (a:=a) (b:=b) h (by rw[hat];grind)
   simp[eqRows,this]
  ·simp[wrapS (show i<9223372036854775807 by omega)]
  ·simp[wrapS (show i<9223372036854775807 by omega)];omega
 ·have:i=a.length:=by omega
  subst this
  simp[eqRows,hall,hl]
theorem l03Copy_ok (l:List GRow) (hl:l.length≤1048576) (hb: ∀r∈l,r.fVals.length≤1048576):VC Tryz.prog 245 [vRowS l] [(false,mRowS l)]:=by
 refine vc_of_ew good hm [0,2,3,7,8,9,10,5] Tryz.func245 rfl (by kernel_rfl) (by kernel_rfl) rfl ?_
 simp[Tryz.f245,mRowS]
 refine ew_loop (fun E=> ∃i:Nat,i≤l.length∧E= {nt:=20,sl:= [(3,.v false [.r [6]]),(7,vRowS l),(8,int .i64 l.length),(9,int .i64 i)],bx:= [],rt:=(mRowS (l.take i)).map fun y=>(6,y)}) (fun E=>l.length- (E.num 9).toNat) _ (Gh.kb _ [3,7,8,9] [] [6]) ⟨0,by omega,by simp[mRowS]⟩ ?_
 rintro E1 ⟨i,hi,rfl⟩
 simp[mRowS]
 refine ⟨fun h=>⟨h,.of (l03Row_ok _ (hb _ (getD_mem dRow h))) ?_⟩,fun h=> ?_⟩
 ·simp[mRow]
  refine ⟨by omega,.of _ ((Gh.kb _ [3,7,8,9] [] [17]).trans (Gh.rn _ 17 6)) ⟨i+1,by omega, ?_⟩ ?_⟩
  ·rw[take_rowM dRow h]
   simp[wrapS (show i<9223372036854775807 by omega),mRowS]
  ·simp[wrapS (show i<9223372036854775807 by omega)];omega
 ·have:i=l.length:=by omega
  subst this
  rw[←List.map_take,List.take_length]
theorem l03Lay_ok (t:GTable) (l:List GRow) (r:GRow) (ht:okTable t) (hk:t.fKeys.length≤1048576) (hl:l.length≤1048576) (hb: ∀x∈l,x.fVals.length≤1048576) (hbr:r.fVals.length≤1048576) (hin: ∀x∈l,keysIn t x) (hir:keysIn t r):VC Tryz.prog 334 [vTable t,vRowS l,vRow r] [(false,mRowS (insW (fun y=> !rowLt t r y) r l))]:=by
 refine vc_of_ew good hm [0,1,2,3,5,6,7,8,12,13,14,15,10,28,41] Tryz.func334 rfl (by kernel_rfl) (by kernel_rfl) rfl ?_
 simp[Tryz.f334,mRowS]
 refine ew_loop (fun E=> ∃i:Nat,i≤l.length∧E= {nt:=48,sl:= [(3,.p (.bx 3 0)),(5,.p (.bx 5 0)),(7,.v false [.r [11]]),(8,bool (anyT (fun y=>rowLt t r y) l i)),(12,vRowS l),(13,int .i64 l.length),(14,int .i64 i)],bx:= [(3,cTable t),(5,cRow r)],rt:=(mRowS (layTo (fun y=>rowLt t r y) r l i)).map fun y=>(11,y)}) (fun E=>l.length- (E.num 14).toNat) _ (Gh.kb _ [3,5,7,8,12,13,14] [3,5] [11]) ⟨0,by omega,by simp[mRowS,layTo_zero,anyT_zero]⟩ ?_
 rintro E1 ⟨i,hi,rfl⟩
 have hL:=layTo_len (fun y=>rowLt t r y) r l i
 simp[mRowS]
 have hb8: ∀x,okM (keyOf t x).length:=fun x=>by rw[keyOf_len];unfold okM;omega
 refine ⟨fun h=>⟨h,.of (fun g=>⟨g,keyS_ok t r ht hk hir⟩) ?_⟩,fun h=> ?_⟩
 ·simp[mValS]
  refine .of (fun g=>⟨g,keyS_ok t (l[i]?.getD dRow) ht hk (hin _ (getD_mem dRow h))⟩) ?_
  simp[mValS]
  refine .of (fun g=>⟨g,keyLessS_ok (keyOf t r) (keyOf t (l[i]?.getD dRow)) (hb8 _) (hb8 _)⟩) ?_
  simp
  have hs:=layTo_succ (fun y=>rowLt t r y) r dRow h
  have ha:=anyT_succ (fun y=>rowLt t r y) dRow h
  refine ⟨fun q1 q2=> .of (l03Row_ok r hbr) ?_,fun q=> .of (l03Row_ok (l[i]?.getD dRow) (hb _ (getD_mem dRow h))) ?_⟩
  ·rw[if_pos ⟨q1,q2⟩] at hs
   rw[q1,show rowLt t r (l[i]?.getD dRow)=true from q2] at ha
   simp[mRow]
   refine ⟨by omega,.of (l03Row_ok (l[i]?.getD dRow) (hb _ (getD_mem dRow h))) ?_⟩
   simp[mRow]
   refine ⟨by omega,.of _ ((Gh.kb _ [3,5,7,8,12,13,14] [3,5] [38]).trans (Gh.rn _ 38 11)) ⟨i+1,by omega, ?_⟩ ?_⟩
   ·rw[hs,ha]
    simp[wrapS (show i<9223372036854775807 by omega),mRowS]
   ·simp[wrapS (show i<9223372036854775807 by omega)];omega
  ·have hq: ¬((l.take i).any (fun y=>rowLt t r y)=false∧rowLt t r (l[i]?.getD dRow)=true):=fun ⟨q1,q2⟩=>by
    have:=q q1
    rw[show keyLess (keyOf t r) (keyOf t (l[i]?.getD dRow))=true from q2] at this
    cases this
   rw[if_neg hq] at hs
   have ha2:anyT (fun y=>rowLt t r y) l (i+1)=anyT (fun y=>rowLt t r y) l i:=by
    rw[ha]
    cases hx:anyT (fun y=>rowLt t r y) l i with
    |true=>rfl
    |false=>
     rw[Bool.false_or]
     exact q hx
   simp[mRow]
   refine ⟨by omega,.of _ ((Gh.kb _ [3,5,7,8,12,13,14] [3,5] [38]).trans (Gh.rn _ 38 11)) ⟨i+1,by omega, ?_⟩ ?_⟩
   ·rw[hs,ha2]
    simp[wrapS (show i<9223372036854775807 by omega),mRowS]
   ·simp[wrapS (show i<9223372036854775807 by omega)];omega
 ·have:i=l.length:=by omega
  subst this
  have he:=layTo_end (fun y=>rowLt t r y) r l
  refine ⟨fun q=> .of (l03Row_ok r hbr) ?_,fun q=> ?_⟩
  ·rw[anyT_all] at q
   rw[q] at he
   simp[mRow]
   refine ⟨by omega, ?_⟩
   rw[he]
   simp
  ·rw[anyT_all] at q
   rw[q,if_pos rfl] at he
   rw[he]
theorem rowAtS_ok (t:GTable) (l:List GRow) (key:List GVal) (ht:okTable t) (hk:t.fKeys.length≤1048576) (hl:okRowS l):VC Tryz.prog 350 [vTable t,vRowS l,vValS key] [(false,[(.s,.sc (.int .i64 (if rowsOk t l=true then keyAt t l key else-1)))])]:=by
 refine vc_of_ew good hm [0,1,2,3,6,12,13,14,15,16,8,7,24] Tryz.func350 rfl (by kernel_rfl) (by kernel_rfl) rfl ?_
 simp[Tryz.f350]
 refine .of (rowsOkS_ok t l ht hl hk) ?_
 simp
 refine ⟨fun h=>by simp[h],fun h1=> ?_⟩
 obtain ⟨h2,h3,h4,h5,h6⟩:=rowsOk_inv h1
 rw[if_pos h1]
 refine ew_loop (fun E=> ∃i:Nat,i≤l.length∧anyT (fun r=>eqRows veq dVal (keyOf t r) key) l i=false∧E= {nt:=27,sl:= [(2,vValS key),(3,.p (.bx 3 0)),(13,vRowS l),(14,int .i64 l.length),(15,int .i64 i)],bx:= [(3,cTable t)],rt:= []}) (fun E=>l.length- (E.num 15).toNat) _ (Gh.kb _ [2,3,13,14,15] [3] []) ⟨0,by omega,anyT_zero _ _,by simp⟩ ?_
 rintro E1 ⟨i,hi,hall,rfl⟩
 simp
 refine ⟨fun h=>⟨h,.of (keyS_ok t (l[i]?.getD dRow) ht hk (h5 _ (getD_mem dRow h))) ?_⟩,fun h=> ?_⟩
 ·simp[mValS]
  refine .of (sameVals_ok (keyOf t (l[i]?.getD dRow)) key (by rw[keyOf_len];unfold okM;omega)) ?_
  simp
  refine ⟨fun hp=>(idxF_at _ dRow h hall hp).symm,fun hp=> .of _ (Gh.kb _ [2,3,13,14,15] [3] []) ⟨i+1,by omega,by rw[anyT_succ _ dRow h,hall,hp];rfl, ?_⟩ ?_⟩
  ·simp[wrapS (show i<9223372036854775807 by omega)]
  ·simp[wrapS (show i<9223372036854775807 by omega)];omega
 ·have:i=l.length:=by omega
  subst this
  rw[anyT_all] at hall
  exact (idxF_no _ hall).symm
theorem rowPutS_ok (t:GTable) (l:List GRow) (r:GRow) (ht:okTable t) (hk:t.fKeys.length≤1048576) (hl:okRowS l) (hr:okRow r):VC Tryz.prog 290 [vTable t,vRowS l,vRow r] [(false,mRowS (rowPut t l r).1),(false,[(.s,.sc (.int .i64 (rowPut t l r).2))])]:=by
 refine vc_of_ew good hm [0,1,2,3,5,6,7,11,15,22,25] Tryz.func290 rfl (by kernel_rfl) (by kernel_rfl) rfl ?_
 simp[Tryz.f290,mRowS]
 refine .of (rowsOkS_ok t l ht hl hk) ?_
 simp
 refine ⟨fun h=>by simp[rowPut,h],fun h1=> .of (rowOkS_ok t r ht hr.1.1) ?_⟩
 obtain ⟨h2,h3,h4,h5,h6⟩:=rowsOk_inv h1
 rw[h2,Bool.true_and]
 simp
 refine ⟨fun h=>by simp[rowPut,h1,h],fun h7=> .of (keyS_ok t r ht hk (tableOk_keys h2 h7)) ?_⟩
 simp[mValS]
 refine .of (rowAtS_ok t l (keyOf t r) ht hk hl) ?_
 rw[if_pos h1]
 simp
 have hat:rowPut t l r=if 0≤keyAt t l (keyOf t r) then ([],3) else if l.length=60 then ([],4) else (insW (fun x=>rowLt t x r) r l,0):=by simp[rowPut,h1,h7]
 have hrb:=(rowFit_ok h2 h7).2
 refine ⟨fun h=>by simp[hat,h],fun h8=>⟨fun h=>by rw[hat,if_neg (by omega),if_pos (by omega)];simp,fun h=> .of (l03Lay_ok t l r ht hk (by omega) h6 (by omega) h5 (tableOk_keys h2 h7)) ?_⟩⟩
 rw[hat,if_neg (by omega),if_neg (by omega),lay_ins h4 h7 (fun x hx e=>by have:=(keyAt_nn t l (keyOf t r)).2 ⟨x,hx,e⟩;omega)]
 simp[mRowS]
end Go.Proofs.YteeolohhmfjafaaGreat
namespace Go.Proofs.YteeolohhmfjafaaGreat
open Go Go.Proofs Go.Sm
attribute [local simp] ti eStr eInt eByte eVal vVal eValS vValS eRow cRow vRow eCol vCol vColS vStrS eDdl cDdl vDdl eStmt cStmt vStmt ePart vPart vPartS eBatch vBatch eTable cTable vTable vTableS cCat vCat vRowS eRows vRows vRowsS cDb vDb eRec vRec vRecS eTail cTail vTail vBatchS vStmtS
set_option linter.unusedVariables false
set_option linter.unusedSimpArgs false
set_option maxRecDepth 8000
theorem erTo {α:Type} (d:α) {l:List α} {i k:Nat} (h:i<l.length):(l.take (i+1)).eraseIdx k=if (i:Int)=k then (l.take i).eraseIdx k else (l.take i).eraseIdx k++ [l[i]?.getD d]:=by
 rw[take_row d h]
 split
 ·rename_i e
  have:i=k:=by omega
  subst this
  have h1:(l.take i).length=i:=by simp;omega
  rw[List.eraseIdx_append_of_length_le (by omega),List.eraseIdx_of_length_le (l:=l.take i) (by omega),h1]
  simp
 ·rename_i e
  rcases Nat.lt_or_ge i k with h1|h1
  ·rw[List.eraseIdx_of_length_le (by simp;omega),List.eraseIdx_of_length_le (by simp;omega)]
  ·rw[List.eraseIdx_append_of_lt_length (by simp;omega)]
theorem l03Without_ok (l:List GRow) (k:Nat) (hl:l.length≤1048576) (hb: ∀r∈l,r.fVals.length≤1048576):VC Tryz.prog 383 [vRowS l,int .i64 k] [(false,mRowS (l.eraseIdx k))]:=by
 refine vc_of_ew good hm [0,1,4,5,9,10,11,12,7,6,18] Tryz.func383 rfl (by kernel_rfl) (by kernel_rfl) rfl ?_
 simp[Tryz.f383,mRowS]
 refine ew_loop (fun E=> ∃i:Nat,i≤l.length∧E= {nt:=26,sl:= [(1,int .i64 k),(5,.v false [.r [8]]),(9,vRowS l),(10,int .i64 l.length),(11,int .i64 i)],bx:= [],rt:=(mRowS ((l.take i).eraseIdx k)).map fun y=>(8,y)}) (fun E=>l.length- (E.num 11).toNat) _ (Gh.kb _ [1,5,9,10,11] [] [8]) ⟨0,by omega,by simp[mRowS]⟩ ?_
 rintro E1 ⟨i,hi,rfl⟩
 simp[mRowS]
 have hle:((l.take i).eraseIdx k).length≤i:=Nat.le_trans (List.eraseIdx_sublist ..).length_le (by simp;omega)
 refine ⟨fun h=>⟨h, ?_⟩,fun h=> ?_⟩
 ·refine ⟨fun hq=> .of (l03Row_ok _ (hb _ (getD_mem dRow h))) ?_,fun hq=> .of _ (Gh.kb _ [1,5,9,10,11] [] [8]) ⟨i+1,by omega, ?_⟩ ?_⟩
  ·simp[mRow]
   refine ⟨by omega,.of _ ((Gh.kb _ [1,5,9,10,11] [] [23]).trans (Gh.rn _ 23 8)) ⟨i+1,by omega, ?_⟩ ?_⟩
   ·rw[erTo dRow h,if_neg (by omega)]
    simp[wrapS (show i<9223372036854775807 by omega),mRowS]
   ·simp[wrapS (show i<9223372036854775807 by omega)];omega
  ·rw[erTo dRow h,if_pos (by omega)]
   simp[wrapS (show i<9223372036854775807 by omega),mRowS]
  ·simp[wrapS (show i<9223372036854775807 by omega)];omega
 ·have:i=l.length:=by omega
  subst this
  rw[List.take_length]
theorem rowSetS_ok (t:GTable) (l:List GRow) (key:List GVal) (r:GRow) (ht:okTable t) (hk:t.fKeys.length≤1048576) (hl:okRowS l) (hkey:okM key.length) (hr:okRow r):VC Tryz.prog 291 [vTable t,vRowS l,vValS key,vRow r] [(false,mRowS (rowSet t l key r).1),(false,[(.s,.sc (.int .i64 (rowSet t l key r).2))])]:=by
 refine vc_of_ew good hm [0,1,2,3,4,7,8,9,15,19,10,31,11,41] Tryz.func291 rfl (by kernel_rfl) (by kernel_rfl) rfl ?_
 simp[Tryz.f291,mRowS]
 refine .of (rowsOkS_ok t l ht hl hk) ?_
 simp
 refine ⟨fun h=>by simp[rowSet,h],fun h1=> .of (rowOkS_ok t r ht hr.1.1) ?_⟩
 obtain ⟨h2,h3,h4,h5,h6⟩:=rowsOk_inv h1
 rw[h2,Bool.true_and]
 simp
 refine ⟨fun h=>by simp[rowSet,h1,h],fun h7=> .of (rowAtS_ok t l key ht hk hl) ?_⟩
 rw[if_pos h1]
 simp
 refine .of (keyOkS_ok t key ht hkey) ?_
 simp
 refine ⟨fun h=> ?_,fun g1 g2=> ?_⟩
 ·have:rowSet t l key r=([],5):=by
   unfold rowSet
   rw[if_neg (by simp[h1]),if_neg (by simp[h7]),if_pos (by grind)]
  simp[this]
 obtain ⟨k,hk'⟩: ∃k:Nat,keyAt t l key=k:=⟨_,(Int.toNat_of_nonneg (by grind)).symm⟩
 have hb:=keyAt_bd t l key
 have hset:rowSet t l key r=if eqRows veq dVal (keyOf t r) key=false∧0≤keyAt t l (keyOf t r) then ([],3) else (insW (fun x=>rowLt t x r) r (l.eraseIdx (keyAt t l key).toNat),0):=by
  unfold rowSet
  rw[if_neg (by simp[h1]),if_neg (by simp[h7]),if_neg (by simp[g1];omega)]
 rw[hk']
 refine .of (l03Without_ok l k (by omega) h6) ?_
 simp[mRowS]
 have hrest:rowsOk t (l.eraseIdx k)=true:=rowsOk_erase h1 k
 obtain ⟨e2,e3,e4,e5,e6⟩:=rowsOk_inv hrest
 refine .of (keyS_ok t r ht hk (tableOk_keys h2 h7)) ?_
 simp[mValS]
 refine .of (rowAtS_ok t (l.eraseIdx k) (keyOf t r) ht hk (rowsOk_ok hrest).1) ?_
 rw[if_pos hrest]
 simp
 have hkr:=key_rest (key2:=keyOf t r) h1 (key:=key) (by omega)
 rw[←keyAt_nn,←keyAt_nn,hk',Int.toNat_natCast] at hkr
 have hne:eqRows veq dVal (keyOf t r) key=false↔keyOf t r≠key:=by
  rw[Bool.eq_false_iff,Ne,eqVs_iff]
 refine ⟨fun q=>by rw[hset,if_pos ⟨hne.2 (hkr.1 q).1,(hkr.1 q).2⟩];simp,fun q=> .of (l03Lay_ok t (l.eraseIdx k) r ht hk (by omega) e6 (by have:=(rowFit_ok h2 h7).2;omega) e5 (tableOk_keys h2 h7)) ?_⟩
 rw[hset,if_neg (fun g=>by have:=hkr.2 ⟨hne.1 g.1,g.2⟩;omega),lay_ins e4 h7 (fun x hx e=>by have:=(keyAt_nn t (l.eraseIdx k) (keyOf t r)).2 ⟨x,hx,e⟩;omega),hk']
 simp[mRowS]
theorem rowOutS_ok (t:GTable) (l:List GRow) (key:List GVal) (ht:okTable t) (hk:t.fKeys.length≤1048576) (hl:okRowS l) (hkey:okM key.length):VC Tryz.prog 292 [vTable t,vRowS l,vValS key] [(false,mRowS (rowOut t l key).1),(false,[(.s,.sc (.int .i64 (rowOut t l key).2))])]:=by
 refine vc_of_ew good hm [0,1,2,3,6,7,12,8,24] Tryz.func292 rfl (by kernel_rfl) (by kernel_rfl) rfl ?_
 simp[Tryz.f292,mRowS]
 refine .of (rowsOkS_ok t l ht hl hk) ?_
 simp
 refine ⟨fun h=>by simp[rowOut,h],fun h1=> .of (rowAtS_ok t l key ht hk hl) ?_⟩
 obtain ⟨h2,h3,h4,h5,h6⟩:=rowsOk_inv h1
 rw[if_pos h1]
 simp
 refine .of (keyOkS_ok t key ht hkey) ?_
 simp
 refine ⟨fun h=> ?_,fun g1 g2=> ?_⟩
 ·have:rowOut t l key=([],5):=by
   unfold rowOut
   rw[if_neg (by simp[h1]),if_pos (by grind)]
  simp[this]
 ·obtain ⟨k,hk'⟩: ∃k:Nat,keyAt t l key=k:=⟨_,(Int.toNat_of_nonneg (by grind)).symm⟩
  have hout:rowOut t l key=(l.eraseIdx k,0):=by
   unfold rowOut
   rw[if_neg (by simp[h1]),if_neg (by simp[g1];omega),hk']
   rfl
  rw[hk']
  refine .of (l03Without_ok l k (by omega) h6) ?_
  rw[hout]
  simp[mRowS]
end Go.Proofs.YteeolohhmfjafaaGreat
namespace Go.Proofs.YteeolohhmfjafaaGreat
open Go Go.Proofs Go.Sm
attribute [local simp] ti eStr eInt eByte eVal vVal eValS vValS eRow cRow vRow eCol vCol vColS vStrS eDdl cDdl vDdl eStmt cStmt vStmt ePart vPart vPartS eBatch vBatch eTable cTable vTable vTableS cCat vCat vRowS eRows vRows vRowsS cDb vDb eRec vRec vRecS eTail cTail vTail vBatchS vStmtS
set_option linter.unusedVariables false
set_option linter.unusedSimpArgs false
set_option maxRecDepth 8000
theorem copyCat_ok (c:GCat) (hl:c.fTables.length≤1048576) (hb: ∀t∈c.fTables,bdTable t):VC Tryz.prog 252 [vCat c] [(true,mCat c)]:=by
 refine vc_of_ew good hm [0,1,2,3,8,9,10,11,5] Tryz.func252 rfl (by kernel_rfl) (by kernel_rfl) rfl ?_
 simp[Tryz.f252,mCat]
 refine ew_loop (fun E=> ∃i:Nat,i≤c.fTables.length∧E= {nt:=23,sl:= [(2,.p (.bx 2 0)),(3,.p (.bx 3 0)),(8,vTableS c.fTables),(9,int .i64 c.fTables.length),(10,int .i64 i)],bx:= [(2,[.n [.sc (.string ⟨#[]⟩),.ls [.sc (.string ⟨#[]⟩),.sc (.int .i64 0),.sc (.bool false),.sc (.bool false),.sc (.int .i64 0),.sc (.int .i64 0),.sc (.string ⟨#[]⟩)] [],.ls [.sc (.string ⟨#[]⟩)] []]]),(3,[.r [990]])],rt:=(mTableS (c.fTables.take i)).map fun y=>(990,y)}) (fun E=>c.fTables.length- (E.num 10).toNat) _ ((Gh.nlB _ 3 0 990 201 (fun _=> [.s,.o 236 (fun _=> [.s,.s,.s,.s,.s,.s,.s]),.o 9 (fun _=> [.s])]) [.sc (.string ⟨#[]⟩),.ls [.sc (.string ⟨#[]⟩),.sc (.int .i64 0),.sc (.bool false),.sc (.bool false),.sc (.int .i64 0),.sc (.int .i64 0),.sc (.string ⟨#[]⟩)] [],.ls [.sc (.string ⟨#[]⟩)] []]).trans (Gh.kb _ [2,3,8,9,10] [2,3] [990])) ⟨0,by omega,by simp[mTableS]⟩ ?_
 rintro E1 ⟨i,hi,rfl⟩
 simp[mTableS]
 refine ⟨fun h=>⟨h,.of (copyTable_ok _ (hb _ (getD_mem dTable h)).1 (hb _ (getD_mem dTable h)).2) ?_⟩,fun h=> ?_⟩
 ·simp[mTable]
  refine ⟨by omega,.of _ ((Gh.kb _ [2,3,8,9,10] [2,3] [19]).trans (Gh.rn _ 19 990)) ⟨i+1,by omega, ?_⟩ ?_⟩
  ·rw[take_rowM dTable h]
   simp[wrapS (show i<9223372036854775807 by omega),mTableS]
  ·simp[wrapS (show i<9223372036854775807 by omega)];omega
 ·have:i=c.fTables.length:=by omega
  subst this
  rw[←List.map_take,List.take_length]
theorem has_flip2 (l:List ByteArray) (s:ByteArray):l.any (fun x=>s.toList==x.toList)=has l s:=rfl
theorem ddlCodeI_ok (c:GCat) (d:GDdl) (hc:okCat c) (hd:okDdl d) (hd2:ddlOk d=true):VC Tryz.prog 388 [vCat c,vDdl d] [(false,[(.s,.sc (.int .i64 (ddlCode c d)))])]:=by
 refine vc_of_ew good hm [0,1,2,3,4,5,13,14,17,23,6,29,55,65,81] Tryz.func388 rfl (by kernel_rfl) (by kernel_rfl) rfl ?_
 simp[Tryz.f388]
 refine .of (at_ok c d.fTable hc.1.1) ?_
 simp
 have hb:=tabAt_bd c.fTables d.fTable
 have hE1:d.fKind=1→ddlCode c d=if 0≤tabAt c.fTables d.fTable then 2 else if c.fTables.length=6 then 3 else 0:=fun h=>by simp[ddlCode,h]
 have hE2:d.fKind≠1→ddlCode c d=if tabAt c.fTables d.fTable<0 then 4 else tabCode (tabOf c d.fTable) d:=fun h=>by simp[ddlCode,h]
 refine ⟨fun h1=>⟨fun h2=>by rw[hE1 h1,if_pos h2],fun h2=>⟨fun h3=>by rw[hE1 h1,if_neg (by omega),if_pos (by omega)],fun h3=>by rw[hE1 h1,if_neg (by omega),if_neg (by omega)]⟩⟩,fun h1=>⟨fun h2=>by rw[hE2 h1,if_pos h2],fun h2=>⟨⟨h2,hb.2⟩,fun h3=>⟨h3,by have:=(ddlOk_3 hd2 h3).1;omega⟩, ?_⟩⟩⟩
 rw[hE2 h1,if_neg (by omega)]
 have hot:=hc.1.2 _ (getD_mem dTable (show (tabAt c.fTables d.fTable).toNat<c.fTables.length by omega))
 show CallG _ _ _ _ [vTable (tabOf c d.fTable),str (col0 d).fName] _
 refine .of (fun g=>⟨g,colAtI_ok (tabOf c d.fTable) (col0 d).fName hot.2.1.1⟩) ?_
 simp
 refine .of (fun g=>⟨g,colAtI_ok (tabOf c d.fTable) d.fTo hot.2.1.1⟩) ?_
 simp
 have hT:tabCode (tabOf c d.fTable) d=if (d.fKind=3∧0≤colAt (tabOf c d.fTable) (col0 d).fName)∨(d.fKind=5∧0≤colAt (tabOf c d.fTable) d.fTo) then 5 else
  if d.fKind=3∧(tabOf c d.fTable).fCols.length=8 then 6 else
  if (d.fKind=4∨d.fKind=5)∧colAt (tabOf c d.fTable) d.fName<0 then 7 else
  if d.fKind=4∧has (tabOf c d.fTable).fKeys d.fName=true then 8 else 0:=rfl
 refine ⟨by grind,by grind,fun q=>by rw[hT,if_pos q],fun q1 q2=> ?_⟩
 rw[if_neg (by grind)] at hT
 refine ⟨fun q3 q4=> ?_,fun q3=> ?_⟩
 ·rw[hT,if_pos ⟨q3,by show (c.fTables[(tabAt c.fTables d.fTable).toNat]?.getD dTable).fCols.length=8;omega⟩]
 rw[if_neg (fun q=>q3 q.1 (by have:=q.2;show ((c.fTables[(tabAt c.fTables d.fTable).toNat]?.getD dTable).fCols.length:Int)=8;unfold tabOf at this;omega))] at hT
 refine .of (fun g=>⟨g,colAtI_ok (tabOf c d.fTable) d.fName hot.2.1.1⟩) ?_
 simp
 refine ⟨fun q4 q5=>by rw[hT,if_pos ⟨q4,q5⟩],fun q4=> ?_⟩
 rw[if_neg (by grind)] at hT
 refine .of (fun g=>⟨g,containsStr_ok (tabOf c d.fTable).fKeys d.fName hot.2.2.1.1⟩) ?_
 simp[has_flip2]
 refine ⟨fun q5 q6=>by rw[hT,if_pos ⟨q5,q6⟩],fun q5=>by rw[hT,if_neg (by grind)]⟩
end Go.Proofs.YteeolohhmfjafaaGreat
namespace Go.Proofs.YteeolohhmfjafaaGreat
open Go Go.Proofs Go.Sm
attribute [local simp] ti eStr eInt eByte eVal vVal eValS vValS eRow cRow vRow eCol vCol vColS vStrS eDdl cDdl vDdl eStmt cStmt vStmt ePart vPart vPartS eBatch vBatch eTable cTable vTable vTableS cCat vCat vRowS eRows vRows vRowsS cDb vDb eRec vRec vRecS eTail cTail vTail vBatchS vStmtS
set_option linter.unusedVariables false
set_option linter.unusedSimpArgs false
set_option maxRecDepth 8000
theorem idxF_specC (p:GCol→Bool) (l:List GCol) (h:l.any p=true): ∃i:Nat,idxF p l=i∧i<l.length∧p (l[i]?.getD dCol)=true∧(l.take i).filter (fun x=> !p x)=l.take i:=by
 have hi:l.findIdx p<l.length:=List.findIdx_lt_length.2 (List.any_eq_true.1 h)
 refine ⟨l.findIdx p,by simp[idxF,h],hi, ?_, ?_⟩
 ·rw[List.getElem?_eq_getElem hi,Option.getD_some]
  exact List.findIdx_getElem
 ·rw[List.filter_eq_self]
  intro x hx
  obtain ⟨j,hj,rfl⟩:=List.getElem_of_mem hx
  rw[List.length_take] at hj
  rw[List.getElem_take]
  have:=List.not_of_lt_findIdx (p:=p) (xs:=l) (i:=j) (by omega)
  simpa using this
theorem delFuncCol_ok (l:List GCol) (k:Nat) (ds:List Lf) (p:GCol→Bool) (hl:l.length≤1048576) (hk: ∀x∈l,VC Tryz.prog k [vCol x,.p (.ps ds)] [(false,[(.s,.sc (.bool (p x)))])]):
  VX Tryz.prog 391 [.v false [.r [900]],.fn k [.ps ds]] (mColS l) [(false,mColS (l.filter fun x=> !p x))]:=by
 refine vx_of_ew good hm [0,1,4,5,12,6,19,7,29] Tryz.func391 rfl (by kernel_rfl) (by kernel_rfl) rfl ?_
 simp[Tryz.f391,mColS]
 refine .of (idxCol1_ok l k ds p (by unfold okM;omega) hk) ?_
 simp
 refine ⟨fun h=> ?_,fun h=> ?_⟩
 ·have ha:l.any p=false:=by
   have:=idxF_ge p l
   rw[h] at this
   exact this.symm
  have hf:l.filter (fun x=> !p x)=l:=by
   rw[List.filter_eq_self]
   intro x hx
   have:=List.any_eq_false.1 ha x hx
   simpa using this
  refine .of _ (Gh.refl _) ?_
  simp[hf]
 ·have ha:l.any p=true:=by
   cases hx:l.any p with
   |true=>rfl
   |false=>exact absurd (idxF_no p hx) h
  obtain ⟨i0,e0,hi0,hp0,hf0⟩:=idxF_specC p l ha
  rw[e0]
  refine ew_loop (fun E=> ∃ (a j:Nat) (M:List GCol),a<j∧j≤l.length∧M.length=l.length∧M.take a=(l.take j).filter (fun x=> !p x)∧(∀x,j≤x→M[x]? =l[x]?)∧E= {nt:=42,sl:= [(0,.v false [.r [900]]),(1,.fn k [.ps ds]),(5,int .i64 a),(6,int .i64 j)],bx:= [],rt:=(mColS M).map fun y=>(900,y)}) (fun E=>l.length- (E.num 6).toNat) _ (Gh.kb _ [0,1,5,6] [] [900]) ⟨i0,i0+1,l,by omega,by omega,rfl, ?_,fun _ _=>rfl, ?_⟩ ?_
  ·rw[List.take_succ_eq_append_getElem hi0,List.filter_append,hf0]
   rw[List.getElem?_eq_getElem hi0,Option.getD_some] at hp0
   simp[hp0]
  ·simp[wrapS (show i0<9223372036854775807 by omega),mColS]
  rintro E1 ⟨a,j,M,haj,hj,hM,hta,htl,rfl⟩
  simp[mColS,hM]
  refine ⟨fun h1=> ?_,fun h1=> ?_⟩
  ·have hmj:M[j]? =l[j]? :=htl j (Nat.le_refl _)
   have hg: ∀h',M[j]'h'=l[j]'h1:=fun h'=>by
    rw[List.getElem?_eq_getElem h',List.getElem?_eq_getElem h1] at hmj
    exact Option.some.inj hmj
   simp[md,lf,hM,h1,hg,List.range',eCol]
   refine .of (hk l[j] (List.getElem_mem h1)) ?_
   simp[md,lf,hM,h1,List.range',eCol]
   have hft: ∀b,p l[j]=b→(l.take (j+1)).filter (fun x=> !p x)=(l.take j).filter (fun x=> !p x)++(if b=true then [] else [l[j]]):=fun b hb=>by
    rw[List.take_succ_eq_append_getElem h1,List.filter_append]
    congr 1
    cases b<;>simp[hb]
   refine ⟨fun hp=>⟨by omega,.of _ (Gh.kb _ [0,1,5,6] [] [900]) ⟨a+1,j+1,by omega,by omega,M.set a l[j],by simp[hM], ?_,fun x hx=> ?_, ?_⟩ ?_⟩,fun hp=> .of _ (Gh.kb _ [0,1,5,6] [] [900]) ⟨a,j+1,by omega,by omega,M,hM, ?_,fun x hx=>htl x (by omega), ?_⟩ ?_⟩
   ·rw[hft _ hp,←hta,List.take_succ_eq_append_getElem (by simp[hM];omega),List.take_set_of_le (Nat.le_refl _)]
    simp
   ·rw[List.getElem?_set_ne (by omega)]
    exact htl x (by omega)
   ·simp[wrapS (show j<9223372036854775807 by omega),wrapS (show a<9223372036854775807 by omega),mColS,List.map_set,eCol]
   ·simp[wrapS (show j<9223372036854775807 by omega)];omega
   ·rw[hft _ hp,←hta]
    simp
   ·simp[wrapS (show j<9223372036854775807 by omega),mColS]
   ·simp[wrapS (show j<9223372036854775807 by omega)];omega
  ·have:j=l.length:=by omega
   subst this
   refine ⟨by omega,by omega,by omega,.of _ (Gh.trunc (t:=4) (r:=900) (n:=a) (sz:=7) rfl rfl (by simp;omega)) ?_⟩
   rw[List.take_length] at hta
   simp[←hta]
   rw[List.take_append_of_le_length (by simp[hM];omega),List.take_take,Nat.min_self]
end Go.Proofs.YteeolohhmfjafaaGreat
namespace Go.Proofs.YteeolohhmfjafaaGreat
open Go Go.Proofs Go.Sm
attribute [local simp] ti eStr eInt eByte eVal vVal eValS vValS eRow cRow vRow eCol vCol vColS vStrS eDdl cDdl vDdl eStmt cStmt vStmt ePart vPart vPartS eBatch vBatch eTable cTable vTable vTableS cCat vCat vRowS eRows vRows vRowsS cDb vDb eRec vRec vRecS eTail cTail vTail vBatchS vStmtS
set_option linter.unusedVariables false
set_option linter.unusedSimpArgs false
set_option maxRecDepth 8000
theorem ddlApply1_ok (d:GDdl) (c:GCol):VC Tryz.prog 392 [vCol c,.p (.ps (eDdl d))] [(false,[(.s,.sc (.bool (c.fName.toList==d.fName.toList)))])]:=by
 refine vc_of_ew good hm [0,1,2,3] Tryz.func392 rfl (by kernel_rfl) (by kernel_rfl) rfl ?_
 simp[Tryz.f392,eDdl]
theorem renC_no {a b:ByteArray} {c:GCol} (h:c.fName≠a):renC a b c=c:=by
 have:(c.fName.toList==a.toList)=false:=Bool.eq_false_iff.2 fun e=>h ((tl_beq _ _).1 e)
 simp[renC,this]
theorem ren_cols (a b:ByteArray): ∀ {l:List GCol},(cnm l).Nodup→a∈cnm l→l.map (renC a b)=l.set (pos (cnm l) a) ⟨b,(l[pos (cnm l) a]?.getD dCol).fTy,(l[pos (cnm l) a]?.getD dCol).fNot,(l[pos (cnm l) a]?.getD dCol).fHas,(l[pos (cnm l) a]?.getD dCol).fDef⟩
 | [],_,h=>by cases h
 |x::l,hn,h=>by
  have hc:cnm (x::l)=x.fName::cnm l:=rfl
  rw[hc] at hn h⊢
  rw[List.nodup_cons] at hn
  rw[pos_cons]
  by_cases e:x.fName=a
  ·rw[if_pos e]
   have h1:renC a b x=⟨b,x.fTy,x.fNot,x.fHas,x.fDef⟩:=by
    have:(x.fName.toList==a.toList)=true:=(tl_beq _ _).2 e
    simp[renC,this]
   have h2:l.map (renC a b)=l:=by
    conv=>rhs;rw[←List.map_id l]
    refine List.map_congr_left fun y hy=>renC_no fun e2=> ?_
    exact hn.1 (by rw[e,←e2];exact List.mem_map.2 ⟨y,hy,rfl⟩)
   rw[List.map_cons,h1,h2]
   rfl
  ·rw[if_neg e,List.map_cons,renC_no e,ren_cols a b hn.2 ((List.mem_cons.1 h).resolve_left fun e2=>e e2.symm)]
   rfl
theorem ren_keys (a b:ByteArray): ∀ {l:List ByteArray},l.Nodup→l.map (renS a b)=l.set (l.findIdx (fun x=>a.toList==x.toList)) b
 | [],_=>rfl
 |x::l,hn=>by
  rw[List.nodup_cons] at hn
  by_cases e:x=a
  ·subst e
   have h2:l.map (renS x b)=l:=by
    conv=>rhs;rw[←List.map_id l]
    exact List.map_congr_left fun y hy=>(renS_eq x b y).2 fun e2=>hn.1 (e2▸hy)
   rw[List.map_cons,h2,(renS_eq x b x).1 rfl,List.findIdx_cons]
   simp
  ·have h1:(a.toList==x.toList)=false:=Bool.eq_false_iff.2 fun e2=>e (((tl_beq _ _).1 e2).symm)
   rw[List.map_cons,ren_keys a b hn.2,(renS_eq a b x).2 e,List.findIdx_cons,h1]
   rfl
theorem idxF_find {α:Type} (p:α→Bool) (l:List α):(idxF p l= -1∧l.findIdx p=l.length)∨idxF p l=l.findIdx p:=by
 unfold idxF
 split
 ·exact .inr rfl
 ·rename_i h
  refine .inl ⟨rfl, ?_⟩
  rw[List.findIdx_eq_length]
  simpa using h
theorem ddlApplyI_ok (c:GCat) (d:GDdl) (hc:okCat c) (hd:okDdl d) (h1:d.fCols.length≤1048576) (h2:d.fKeys.length≤1048576):VC Tryz.prog 312 [vCat c,vDdl d] [(true,mCat (ddlApply c d).1),(false,[(.s,.sc (.int .i64 (ddlApply c d).2))])]:=by
 refine vc_of_ew good hm [0,1,2,3,4,5,20,6,26,7,8,36,37,9,54,65,74,93,10,108,11,12,136] Tryz.func312 rfl (by kernel_rfl) (by kernel_rfl) rfl ?_
 simp[Tryz.f312,mCat]
 refine .of (catOkI_ok c hc) ?_
 simp
 refine .of (fun g=>⟨g,ddlOkI_ok d hd h1 h2⟩) ?_
 simp
 have hE:ddlApply c d=if catOk c=false∨ddlOk d=false then (⟨[]⟩,1) else if ddlCode c d≠0 then (⟨[]⟩,ddlCode c d) else (catCh c d,0):=rfl
 refine ⟨fun h=>by rw[hE,if_pos h];simp,fun h3 h4=> ?_⟩
 rw[if_neg (by simp[h3,h4])] at hE
 obtain ⟨hcl,hct⟩:=(catOk_ok h3).2
 refine .of (ddlCodeI_ok c d hc hd h4) ?_
 simp
 refine ⟨fun h=>by rw[hE,if_pos h];simp,fun h5=> .of (copyCat_ok c (by omega) (fun t ht=>(hct t ht).2)) ?_⟩
 rw[if_neg (by simp[h5])] at hE
 rw[hE]
 simp[mCat]
 have hz:=ddlCode_0 h5
 by_cases k1:d.fKind=1
 ·refine .of (at_ok c d.fTable hc.1.1) ?_
  simp (maxSteps:=1000000) [k1]
  refine ew_loop (fun E=> ∃i:Nat,i≤(c.fTables.takeWhile (fun y=>tabLt y (madeT d))).length∧E= {nt:=146,sl:= [(3,.p (.bx 3 0)),(4,.p (.bx 4 0)),(7,.p (.bx 7 0)),(9,int .i64 i)],bx:= [(3,cDdl d),(4,[.n [.sc (.string ⟨#[]⟩),.ls [.sc (.string ⟨#[]⟩),.sc (.int .i64 0),.sc (.bool false),.sc (.bool false),.sc (.int .i64 0),.sc (.int .i64 0),.sc (.string ⟨#[]⟩)] [],.ls [.sc (.string ⟨#[]⟩)] []]]),(7,[.r [30]])],rt:=(mTableS c.fTables).map fun y=>(30,y)}) (fun E=>c.fTables.length- (E.num 9).toNat) _ (Gh.kb _ [3,4,7,9] [3,4,7] [30]) ⟨0,by omega,by simp[mTableS,k1]⟩ ?_
  rintro E1 ⟨i,hi,rfl⟩
  have htw:=takeW_len (fun y=>tabLt y (madeT d)) c.fTables
  have hat:=takeW_at (fun y=>tabLt y (madeT d)) dTable hi
  simp[mTableS,md,lf,eTable]
  refine ⟨fun q1 q2=> .of _ (Gh.kb _ [3,4,7,9] [3,4,7] [30]) ⟨i+1,hat.2 ⟨q1,q2⟩, ?_⟩ ?_,fun q2=> ?_⟩
  ·simp[wrapS (show i<9223372036854775807 by omega),mTableS]
  ·simp[wrapS (show i<9223372036854775807 by omega)];omega
  ·have hiq:i=(c.fTables.takeWhile (fun y=>tabLt y (madeT d))).length:=by
    rcases Nat.lt_or_ge i (c.fTables.takeWhile (fun y=>tabLt y (madeT d))).length with hlt|hge
    ·obtain ⟨g1,g2⟩:=hat.1 hlt
     have:=q2 g1
     rw[show Op.bytesLess (c.fTables[i]?.getD dTable).fName.toList d.fTable.toList=true from g2] at this
     cases this
    ·omega
   refine .of (made_ok d h1 h2) ?_
   simp[mTable]
   refine ⟨of_eq_true (full_TableS [madeT d]),.use (vx_ins (i:=i) (rows:=c.fTables.map eTable) (row:=eTable (madeT d)) (z:= [.sc (.string ⟨#[]⟩),.ls [.sc (.string ⟨#[]⟩),.sc (.int .i64 0),.sc (.bool false),.sc (.bool false),.sc (.int .i64 0),.sc (.int .i64 0),.sc (.string ⟨#[]⟩)] [],.ls [.sc (.string ⟨#[]⟩)] []]) (cols:=fun _=> [.s,.o 236 (fun _=> [.s,.s,.s,.s,.s,.s,.s]),.o 9 (fun _=> [.s])]) (cols':=fun _=> [.s,.o 236 (fun _=> [.s,.s,.s,.s,.s,.s,.s]),.o 9 (fun _=> [.s])]) ⟨_,_,Tryz.func389,rfl,by kernel_rfl⟩ rawIns_Table (by decide) (by decide) rfl (by simp;omega) (by simp;omega)) ?_⟩
   simp[colsI_const]
   unfold catCh
   rw[if_pos k1,insW_at,←hiq]
   simp[eTable]
 ·obtain ⟨z1,z2⟩:=hz.2 k1
  obtain ⟨k,hk⟩: ∃k:Nat,tabAt c.fTables d.fTable=k:=⟨_,(Int.toNat_of_nonneg z1).symm⟩
  have hat:=at_ok c d.fTable hc.1.1
  have hb:=tabAt_bd c.fTables d.fTable
  have hkl:k<c.fTables.length:=by omega
  rw[hk] at hat
  refine .of hat ?_
  simp (maxSteps:=1000000) [k1,md,lf,eTable,List.range',hkl]
  have htk:tabOf c d.fTable=c.fTables[k]:=by
   unfold tabOf
   rw[hk]
   simp[hkl]
  have hm:c.fTables[k]∈c.fTables:=List.getElem_mem hkl
  have hbt:=(hct _ hm).2
  have hok:=(hct _ hm).1
  have hset:d.fKind≠2→(catCh c d).fTables=c.fTables.set k (tabCh c.fTables[k] d):=fun k2=>by
   unfold catCh
   rw[if_neg k1,if_neg k2,hk,htk]
   rfl
  have hmd:(fun k_1=>if k_1=k then [Md.s,Md.o 236 fun x=> [Md.s,Md.s,Md.s,Md.s,Md.s,Md.s,Md.s],Md.o 9 fun x=> [Md.s]] else if k_1=k then [Md.s,Md.x,Md.o 9 fun x=> [Md.s]] else [Md.s,Md.o 236 fun x=> [Md.s,Md.s,Md.s,Md.s,Md.s,Md.s,Md.s],Md.o 9 fun x=> [Md.s]])=fun x=> [Md.s,Md.o 236 fun x=> [Md.s,Md.s,Md.s,Md.s,Md.s,Md.s,Md.s],Md.o 9 fun x=> [Md.s]]:=by
   funext j
   by_cases hj:j=k<;>simp[hj]
  obtain ⟨cd3,cd5,cd4⟩:=tabCode_0 (htk▸z2)
  refine ⟨fun k2=> ?_,fun k2=>⟨fun k3=>⟨by have:=(ddlOk_3 h4 k3).1;omega,by have:=hbt.1;omega,hmd, ?_⟩,fun k3=>⟨fun k4=> ?_,fun k4=> ?_⟩⟩⟩
  ·simp[wrapS (show k<9223372036854775807 by omega)]
   refine .use (vx_del (i:=k) (rows:=c.fTables.map eTable) (z:= [.sc (.string ⟨#[]⟩),.ls [.sc (.string ⟨#[]⟩),.sc (.int .i64 0),.sc (.bool false),.sc (.bool false),.sc (.int .i64 0),.sc (.int .i64 0),.sc (.string ⟨#[]⟩)] [],.ls [.sc (.string ⟨#[]⟩)] []]) (cols:=fun _=> [.s,.o 236 (fun _=> [.s,.s,.s,.s,.s,.s,.s]),.o 9 (fun _=> [.s])]) ⟨_,_,Tryz.func390,rfl,by kernel_rfl⟩ rawDel_Table (by decide) rfl (by simp;omega)) ?_
   simp[colsD_const]
   unfold catCh
   rw[if_neg k1,if_pos k2,hk,Int.toNat_natCast,List.eraseIdx_eq_take_drop_succ]
   simp
  ·rw[hset k2,List.map_set]
   unfold tabCh
   rw[if_pos k3]
   simp[eTable,eCol,col0]
  ·refine .use (delFuncCol_ok _ _ (eDdl d) _ hbt.1 (fun x _=>ddlApply1_ok d x)) ?_
   simp[mColS,md,lf,eTable,List.range',hkl]
   refine ⟨hmd, ?_⟩
   rw[hset k2,List.map_set]
   unfold tabCh
   rw[if_neg k3,if_pos k4]
   simp[eTable]
  ·have k5:d.fKind=5:=by have:=ddlOk_kind h4;omega
   obtain ⟨q1,q2⟩:=cd5 k5
   have hj1:0≤colAt c.fTables[k] d.fName:=colAt_nn.2 q2
   have hj2:=pos_lt q2
   obtain ⟨j,hj⟩: ∃j:Nat,colAt c.fTables[k] d.fName=j:=⟨_,(Int.toNat_of_nonneg hj1).symm⟩
   have hca:=colAtI_ok c.fTables[k] d.fName (by have:=hbt.1;unfold okM;omega)
   rw[hj] at hca
   refine ⟨fun _=> .of hca ?_,fun h=>absurd k5 h⟩
   simp[md,lf,eTable,List.range',hkl]
   have hcb:colAt c.fTables[k] d.fName<c.fTables[k].fCols.length:=(idxF_bd _ _).2
   have hjl:j<c.fTables[k].fCols.length:=by omega
   refine ⟨hjl,.of (indexStr_ok c.fTables[k].fKeys d.fName (by have:=hbt.2;unfold okM;omega)) ?_⟩
   have hib:=idxF_bd (fun x:ByteArray=>d.fName.toList==x.toList) c.fTables[k].fKeys
   have hid:=idxF_find (fun x:ByteArray=>d.fName.toList==x.toList) c.fTables[k].fKeys
   generalize idxF (fun x:ByteArray=>d.fName.toList==x.toList) c.fTables[k].fKeys=r at hib hid⊢
   simp[md,lf,eTable,List.range',hkl,hjl]
   have hjp:j=pos (cnm c.fTables[k].fCols) d.fName:=by
    have:=colAt_toNat q2
    rw[hj] at this
    exact this
   have hto:=(tableOk_iff _).1 hok
   have hrc:=ren_cols d.fName d.fTo hto.2.2.2.2.2.1 q2
   rw[←hjp,List.getElem?_eq_getElem hjl] at hrc
   have hrk:=ren_keys d.fName d.fTo (hto.2.2.2.2.2.2.1.nodup hto.2.2.2.2.2.1)
   have hfin: ∀ks:List ByteArray,ks=c.fTables[k].fKeys.map (renS d.fName d.fTo)→(c.fTables.map eTable).set k (eTable ⟨c.fTables[k].fName,c.fTables[k].fCols.set j ⟨d.fTo,c.fTables[k].fCols[j].fTy,c.fTables[k].fCols[j].fNot,c.fTables[k].fCols[j].fHas,c.fTables[k].fCols[j].fDef⟩,ks⟩)=(catCh c d).fTables.map eTable:=fun ks hks=>by
    rw[hset k2,List.map_set]
    unfold tabCh
    rw[if_neg k3,if_neg k4,if_pos k5,hks,hrc]
    rfl
   refine ⟨fun hr=>⟨⟨hr,hib.2⟩,by omega, ?_⟩,fun hr=> ?_⟩
   ·have:=hfin (c.fTables[k].fKeys.set r.toNat d.fTo) (by
     rw[hrk]
     congr 1
     omega)
    rw[←this]
    simp[eTable,List.map_set,eCol,eStr]
   ·have:=hfin c.fTables[k].fKeys (by
     rw[hrk,List.set_eq_of_length_le]
     omega)
    rw[←this]
    simp[eTable,List.map_set,eCol]
end Go.Proofs.YteeolohhmfjafaaGreat
namespace Go.Proofs.YteeolohhmfjafaaGreat
open Go Go.Proofs Go.Sm
attribute [local simp] ti eStr eInt eByte eVal vVal eValS vValS eRow cRow vRow eCol vCol vColS vStrS eDdl cDdl vDdl eStmt cStmt vStmt ePart vPart vPartS eBatch vBatch eTable cTable vTable vTableS cCat vCat vRowS eRows vRows vRowsS cDb vDb eRec vRec vRecS eTail cTail vTail vBatchS vStmtS
set_option linter.unusedVariables false
set_option linter.unusedSimpArgs false
set_option maxRecDepth 8000
def chTo {α:Type} (f:α→α) (l:List α) (i:Nat):List α:=(l.take i).map f++l.drop i
theorem chTo_zero {α:Type} (f:α→α) (l:List α):chTo f l 0=l:=by simp[chTo]
theorem chTo_all {α:Type} (f:α→α) (l:List α):chTo f l l.length=l.map f:=by simp[chTo]
theorem chTo_len {α:Type} (f:α→α) (l:List α) (i:Nat):(chTo f l i).length=l.length:=by simp[chTo];omega
theorem chTo_get {α:Type} (f:α→α) (l:List α) (i:Nat):(chTo f l i)[i]? =l[i]? :=by
 unfold chTo
 rcases Nat.lt_or_ge i l.length with h|h
 ·rw[List.getElem?_append_right (by simp;omega)]
  simp
  congr 1
  omega
 ·simp[List.getElem?_eq_none,h]
theorem chTo_succ {α:Type} (f:α→α) (d:α) {l:List α} {i:Nat} (h:i<l.length):chTo f l (i+1)=(chTo f l i).set i (f (l[i]?.getD d)):=by
 unfold chTo
 rw[List.map_take,take_rowM d h,List.map_take,List.set_append_right _ _ (by simp;omega)]
 have:i- (List.take i (List.map f l)).length=0:=by simp;omega
 rw[this,List.drop_eq_getElem_cons (i:=i) h,List.getElem?_eq_getElem h]
 show _++ [_]++_=_
 rw[List.append_assoc]
 rfl
theorem rowsDdlI_ok (t:GTable) (l:List GRow) (d:GDdl) (ht:okTable t) (hk:t.fKeys.length≤1048576) (hl:okRowS l) (hd:okDdl d) (h1:d.fCols.length≤1048576) (h2:d.fKeys.length≤1048576):VC Tryz.prog 315 [vTable t,vRowS l,vDdl d] [(false,mRowS (rowsDdl t l d).1),(false,[(.s,.sc (.int .i64 (rowsDdl t l d).2))])]:=by
 refine vc_of_ew good hm [0,1,2,3,5,6,7,33,8,40,9,45,46,48,51,52,53,10,72,11,79,80,81,12] Tryz.func315 rfl (by kernel_rfl) (by kernel_rfl) rfl ?_
 simp[Tryz.f315,mRowS]
 refine .of (rowsOkI_ok t l ht hl hk) ?_
 simp
 refine .of (fun g=>⟨g,ddlOkI_ok d hd h1 h2⟩) ?_
 simp
 have hE:rowsDdl t l d=if rowsOk t l=false∨ddlOk d=false∨(d.fTable.toList==t.fName.toList)=false∨d.fKind=1 then ([],1) else if ddlCode ⟨[t]⟩ d≠0 then ([],ddlCode ⟨[t]⟩ d) else (if d.fKind=2 then [] else l.map (rowCh t d),0):=rfl
 refine ⟨fun h=>by rw[hE,if_pos (by simp only[beq_eq_false_iff_ne];grind)];simp,fun h3 h4 h5 k1=> ?_⟩
 rw[if_neg (by simp[h3,h4,h5,k1])] at hE
 have hn:d.fTable=t.fName:=tl_inj h5
 obtain ⟨g2,g3,g4,g5,g6⟩:=rowsOk_inv h3
 have htl:=tableOk_len g2
 have hoc:okCat ⟨[t]⟩:=⟨⟨by simp[okM],by simpa using ht⟩,trivial⟩
 refine .of (ddlCodeI_ok ⟨[t]⟩ d hoc hd h4) ?_
 simp
 refine ⟨fun h=>by rw[hE,if_pos h];simp,fun h6=> .of (copyRows_ok l (by omega) g6) ?_⟩
 rw[if_neg (by simp[h6])] at hE
 rw[hE]
 rw[ddlCode_one k1 hn] at h6
 simp[mRowS]
 refine ⟨fun k2=>by simp[k2],fun k2=> ?_⟩
 rw[if_neg k2]
 have hmd: ∀i:Nat,(fun k=>if k=i then [Md.o 234 fun x=> [Md.s,Md.s,Md.s]] else if k=i then [Md.x] else [Md.o 234 fun x=> [Md.s,Md.s,Md.s]])=fun x=> [Md.o 234 fun x=> [Md.s,Md.s,Md.s]]:=fun i=>by
  funext k
  by_cases hj:k=i<;>simp[hj]
 refine ⟨fun k3=> ?_,fun k3=>⟨fun k4=> ?_,fun k4=> ?_⟩⟩
 ·refine ew_loop (fun E=> ∃i:Nat,i≤l.length∧E= {nt:=98,sl:= [(5,.p (.bx 5 0)),(9,.v false [.r [43]]),(51,int .i64 l.length),(52,int .i64 i)],bx:= [(5,cDdl d)],rt:=(mRowS (chTo (rowCh t d) l i)).map fun y=>(43,y)}) (fun E=>l.length- (E.num 52).toNat) _ (Gh.kb _ [5,9,51,52] [5] [43]) ⟨0,by omega,by simp[mRowS,chTo_zero]⟩ ?_
  rintro E1 ⟨i,hi,rfl⟩
  have hlen:=chTo_len (rowCh t d) l i
  have hget:=chTo_get (rowCh t d) l i
  have hsu:=fun h=>chTo_succ (rowCh t d) dRow (l:=l) (i:=i) h
  have hal:=chTo_all (rowCh t d) l
  generalize hM:chTo (rowCh t d) l i=M at hlen hget hsu
  simp[mRowS]
  refine ⟨fun h=> ?_,fun h=> ?_⟩
  ·have hMi:M[i]'(by omega)=l[i]:=by
    rw[List.getElem?_eq_getElem (by omega),List.getElem?_eq_getElem h] at hget
    exact Option.some.inj hget
   simp[md,lf,eRow,List.range',hlen,h,hMi]
   have hrl:=rowFit_len (g4 _ (List.getElem_mem h))
   refine ⟨by have:=(ddlOk_3 h4 k3).1;omega,by omega,.of _ (Gh.kb _ [5,9,51,52] [5] [43]) ⟨i+1,by omega, ?_⟩ ?_⟩
   ·rw[hsu h,List.map_set]
    simp[wrapS (show i<9223372036854775807 by omega),hmd,h,rowCh,k3,eRow,eVal,col0]
   ·simp[wrapS (show i<9223372036854775807 by omega)];omega
  ·have:i=l.length:=by omega
   subst this
   rw[←hM,hal]
   simp
 ·have hj1:0≤colAt t d.fName:=colAt_nn.2 ((tabCode_0 h6).2.2 k4).1
  obtain ⟨j,hj⟩: ∃j:Nat,colAt t d.fName=j:=⟨_,(Int.toNat_of_nonneg hj1).symm⟩
  have hcb:colAt t d.fName<t.fCols.length:=(idxF_bd _ _).2
  have hca:=colAtI_ok t d.fName ht.2.1.1
  rw[hj] at hca
  refine .of hca ?_
  simp
  refine ew_loop (fun E=> ∃i:Nat,i≤l.length∧E= {nt:=98,sl:= [(9,.v false [.r [43]]),(11,int .i64 j),(79,int .i64 l.length),(80,int .i64 i)],bx:= [],rt:=(mRowS (chTo (rowCh t d) l i)).map fun y=>(43,y)}) (fun E=>l.length- (E.num 80).toNat) _ (Gh.kb _ [9,11,79,80] [] [43]) ⟨0,by omega,by simp[mRowS,chTo_zero]⟩ ?_
  rintro E1 ⟨i,hi,rfl⟩
  have hlen:=chTo_len (rowCh t d) l i
  have hget:=chTo_get (rowCh t d) l i
  have hsu:=fun h=>chTo_succ (rowCh t d) dRow (l:=l) (i:=i) h
  have hal:=chTo_all (rowCh t d) l
  generalize hM:chTo (rowCh t d) l i=M at hlen hget hsu
  simp[mRowS]
  refine ⟨fun h=> ?_,fun h=> ?_⟩
  ·have hMi:M[i]'(by omega)=l[i]:=by
    rw[List.getElem?_eq_getElem (by omega),List.getElem?_eq_getElem h] at hget
    exact Option.some.inj hget
   simp[md,lf,eRow,List.range',hlen,h,hMi,wrapS (show j<9223372036854775807 by omega)]
   have hrl:=rowFit_len (g4 _ (List.getElem_mem h))
   refine .use (vx_del (i:=j) (rows:=l[i].fVals.map eVal) (z:= [.sc (.int .i64 0),.sc (.int .i64 0),.sc (.string ⟨#[]⟩)]) (cols:=fun _=> [.s,.s,.s]) ⟨_,_,Tryz.func395,rfl,by kernel_rfl⟩ rawDel_Val (by decide) rfl (by simp;omega)) ?_
   simp[md,lf,eRow,List.range',hlen,h,hMi,colsD_const]
   refine .of _ (Gh.kb _ [9,11,79,80] [] [43]) ⟨i+1,by omega, ?_⟩ ?_
   ·rw[hsu h,List.map_set]
    simp[wrapS (show i<9223372036854775807 by omega),hmd,h,rowCh,k4,eRow,hj,List.eraseIdx_eq_take_drop_succ]
   ·simp[wrapS (show i<9223372036854775807 by omega)];omega
  ·have:i=l.length:=by omega
   subst this
   rw[←hM,hal]
   simp
 ·have:rowCh t d=fun r=>r:=by
   funext r
   simp[rowCh,k3,k4]
  rw[this]
  simp
end Go.Proofs.YteeolohhmfjafaaGreat
namespace Go.Proofs.YteeolohhmfjafaaGreat
open Go Go.Proofs Go.Sm
attribute [local simp] ti eStr eInt eByte eVal vVal eValS vValS eRow cRow vRow eCol vCol vColS vStrS eDdl cDdl vDdl eStmt cStmt vStmt ePart vPart vPartS eBatch vBatch eTable cTable vTable vTableS cCat vCat vRowS eRows vRows vRowsS cDb vDb eRec vRec vRecS eTail cTail vTail vBatchS vStmtS
set_option linter.unusedVariables false
set_option linter.unusedSimpArgs false
set_option maxRecDepth 8000
def fDb (d:GDb):ML:= [(Md.s,Lf.ls [Lf.sc (Value.string ⟨#[]⟩),Lf.ls [Lf.sc (Value.string ⟨#[]⟩),Lf.sc (Value.int IntKind.i64 0),Lf.sc (Value.bool false),Lf.sc (Value.bool false),Lf.sc (Value.int IntKind.i64 0),Lf.sc (Value.int IntKind.i64 0),Lf.sc (Value.string ⟨#[]⟩)] [],Lf.ls [Lf.sc (Value.string ⟨#[]⟩)] []] (d.fCat.fTables.map eTable)),(Md.s,Lf.ls [Lf.ls [Lf.ls [Lf.sc (Value.int IntKind.i64 0),Lf.sc (Value.int IntKind.i64 0),Lf.sc (Value.string ⟨#[]⟩)] []] []] (d.fData.map eRows))]
def fCat (c:GCat):ML:= [(Md.s,Lf.ls [Lf.sc (Value.string ⟨#[]⟩),Lf.ls [Lf.sc (Value.string ⟨#[]⟩),Lf.sc (Value.int IntKind.i64 0),Lf.sc (Value.bool false),Lf.sc (Value.bool false),Lf.sc (Value.int IntKind.i64 0),Lf.sc (Value.int IntKind.i64 0),Lf.sc (Value.string ⟨#[]⟩)] [],Lf.ls [Lf.sc (Value.string ⟨#[]⟩)] []] (c.fTables.map eTable))]
def fRowS (l:List GRow):ML:= [(Md.s,Lf.ls [Lf.ls [Lf.sc (Value.int IntKind.i64 0),Lf.sc (Value.int IntKind.i64 0),Lf.sc (Value.string ⟨#[]⟩)] []] (l.map eRow))]
end Go.Proofs.YteeolohhmfjafaaGreat
namespace Go.Proofs.YteeolohhmfjafaaGreat
open Go Go.Proofs Go.Sm
attribute [local simp] ti eStr eInt eByte eVal vVal eValS vValS eRow cRow vRow eCol vCol vColS vStrS eDdl cDdl vDdl eStmt cStmt vStmt ePart vPart vPartS eBatch vBatch eTable cTable vTable vTableS cCat vCat vRowS eRows vRows vRowsS cDb vDb eRec vRec vRecS eTail cTail vTail vBatchS vStmtS
set_option linter.unusedVariables false
set_option linter.unusedSimpArgs false
set_option maxRecDepth 8000
theorem l02Copy_ok (c:GCat) (hl:c.fTables.length≤1048576) (hb: ∀t∈c.fTables,bdTable t):VC Tryz.prog 244 [vCat c] [(true,mCat c)]:=by
 refine vc_of_ew good hm [0,1,2,3,8,9,10,11,5] Tryz.func244 rfl (by kernel_rfl) (by kernel_rfl) rfl ?_
 simp[Tryz.f244,mCat]
 refine ew_loop (fun E=> ∃i:Nat,i≤c.fTables.length∧E= {nt:=23,sl:= [(2,.p (.bx 2 0)),(3,.p (.bx 3 0)),(8,vTableS c.fTables),(9,int .i64 c.fTables.length),(10,int .i64 i)],bx:= [(2,[.n [Lf.sc (Value.string ⟨#[]⟩),Lf.ls [Lf.sc (Value.string ⟨#[]⟩),Lf.sc (Value.int IntKind.i64 0),Lf.sc (Value.bool false),Lf.sc (Value.bool false),Lf.sc (Value.int IntKind.i64 0),Lf.sc (Value.int IntKind.i64 0),Lf.sc (Value.string ⟨#[]⟩)] [],Lf.ls [Lf.sc (Value.string ⟨#[]⟩)] []]]),(3,[.r [990]])],rt:=(mTableS (c.fTables.take i)).map fun y=>(990,y)}) (fun E=>c.fTables.length- (E.num 10).toNat) _ ((Gh.nlB _ 3 0 990 201 (fun _=> [.s,(Md.o 236 (fun _=> [Md.s,Md.s,Md.s,Md.s,Md.s,Md.s,Md.s])),.o 9 (fun _=> [.s])]) [Lf.sc (Value.string ⟨#[]⟩),Lf.ls [Lf.sc (Value.string ⟨#[]⟩),Lf.sc (Value.int IntKind.i64 0),Lf.sc (Value.bool false),Lf.sc (Value.bool false),Lf.sc (Value.int IntKind.i64 0),Lf.sc (Value.int IntKind.i64 0),Lf.sc (Value.string ⟨#[]⟩)] [],Lf.ls [Lf.sc (Value.string ⟨#[]⟩)] []]).trans (Gh.kb _ [2,3,8,9,10] [2,3] [990])) ⟨0,by omega,by simp[mTableS]⟩ ?_
 rintro E1 ⟨i,hi,rfl⟩
 simp[mTableS]
 refine ⟨fun h=>⟨h,.of (l02Table_ok _ (hb _ (getD_mem dTable h))) ?_⟩,fun h=> ?_⟩
 ·simp[mTable]
  refine ⟨by omega,.of _ ((Gh.kb _ [2,3,8,9,10] [2,3] [19]).trans (Gh.rn _ 19 990)) ⟨i+1,by omega, ?_⟩ ?_⟩
  ·rw[take_rowM dTable h]
   simp[wrapS (show i<9223372036854775807 by omega),mTableS]
  ·simp[wrapS (show i<9223372036854775807 by omega)];omega
 ·have:i=c.fTables.length:=by omega
  subst this
  rw[←List.map_take,List.take_length]
theorem l02Put_ok (c:GCat) (t:GTable) (hl:c.fTables.length≤1048576):VC Tryz.prog 379 [vCat c,vTable t] [(true,[(Md.s,Lf.ls [Lf.sc (Value.string ⟨#[]⟩),Lf.ls [Lf.sc (Value.string ⟨#[]⟩),Lf.sc (Value.int IntKind.i64 0),Lf.sc (Value.bool false),Lf.sc (Value.bool false),Lf.sc (Value.int IntKind.i64 0),Lf.sc (Value.int IntKind.i64 0),Lf.sc (Value.string ⟨#[]⟩)] [],Lf.ls [Lf.sc (Value.string ⟨#[]⟩)] []] ((insW (fun y=> !tabLt t y) t c.fTables).map eTable))])]:=by
 refine vc_of_ewF good hm [0,1,2,3,4,5,6,11,12,13,14,8,25,40] Tryz.func379 rfl (by kernel_rfl) (by kernel_rfl) rfl ?_
 simp[Tryz.f379]
 refine ew_loop (fun E=> ∃i:Nat,i≤c.fTables.length∧E= {nt:=48,sl:= [(3,.p (.bx 3 0)),(4,.p (.bx 4 0)),(5,.p (.bx 5 0)),(6,bool (anyT (fun y=>tabLt t y) c.fTables i)),(11,vTableS c.fTables),(12,int .i64 c.fTables.length),(13,int .i64 i)],bx:= [(3,cTable t),(4,[.n [Lf.sc (Value.string ⟨#[]⟩),Lf.ls [Lf.sc (Value.string ⟨#[]⟩),Lf.sc (Value.int IntKind.i64 0),Lf.sc (Value.bool false),Lf.sc (Value.bool false),Lf.sc (Value.int IntKind.i64 0),Lf.sc (Value.int IntKind.i64 0),Lf.sc (Value.string ⟨#[]⟩)] [],Lf.ls [Lf.sc (Value.string ⟨#[]⟩)] []]]),(5,[.r [990]])],rt:= [(990,.o 201 (fun _=> [.s,.s,.s]),.ls [Lf.sc (Value.string ⟨#[]⟩),Lf.ls [Lf.sc (Value.string ⟨#[]⟩),Lf.sc (Value.int IntKind.i64 0),Lf.sc (Value.bool false),Lf.sc (Value.bool false),Lf.sc (Value.int IntKind.i64 0),Lf.sc (Value.int IntKind.i64 0),Lf.sc (Value.string ⟨#[]⟩)] [],Lf.ls [Lf.sc (Value.string ⟨#[]⟩)] []] ((layTo (fun y=>tabLt t y) t c.fTables i).map eTable))]}) (fun E=>c.fTables.length- (E.num 13).toNat) _ ((Gh.nlB _ 5 0 990 201 (fun _=> [.s,.s,.s]) [Lf.sc (Value.string ⟨#[]⟩),Lf.ls [Lf.sc (Value.string ⟨#[]⟩),Lf.sc (Value.int IntKind.i64 0),Lf.sc (Value.bool false),Lf.sc (Value.bool false),Lf.sc (Value.int IntKind.i64 0),Lf.sc (Value.int IntKind.i64 0),Lf.sc (Value.string ⟨#[]⟩)] [],Lf.ls [Lf.sc (Value.string ⟨#[]⟩)] []]).trans (Gh.kb _ [3,4,5,6,11,12,13] [3,4,5] [990])) ⟨0,by omega,by simp[layTo_zero,anyT_zero]⟩ ?_
 rintro E1 ⟨i,hi,rfl⟩
 have hL:=layTo_len (fun y=>tabLt t y) t c.fTables i
 simp
 have hs:=layTo_succ (fun y=>tabLt t y) t dTable (l:=c.fTables) (i:=i)
 have ha:=anyT_succ (fun y=>tabLt t y) dTable (l:=c.fTables) (i:=i)
 refine ⟨fun h=>⟨h,fun q1 q2=>⟨by omega,by omega,.of _ ((Gh.kb _ [3,4,5,6,11,12,13] [3,4,5] [36]).trans (Gh.rn _ 36 990)) ⟨i+1,by omega, ?_⟩ ?_⟩,fun q=>⟨by omega,.of _ ((Gh.kb _ [3,4,5,6,11,12,13] [3,4,5] [36]).trans (Gh.rn _ 36 990)) ⟨i+1,by omega, ?_⟩ ?_⟩⟩,fun h=> ?_⟩
 ·replace hs:=hs h
  replace ha:=ha h
  rw[if_pos ⟨q1,q2⟩] at hs
  rw[q1,show tabLt t (c.fTables[i]?.getD dTable)=true from q2] at ha
  rw[hs,ha]
  simp[wrapS (show i<9223372036854775807 by omega),eTable]
 ·simp[wrapS (show i<9223372036854775807 by omega)];omega
 ·replace hs:=hs h
  replace ha:=ha h
  have hq: ¬((c.fTables.take i).any (fun y=>tabLt t y)=false∧tabLt t (c.fTables[i]?.getD dTable)=true):=fun ⟨q1,q2⟩=>by
   have:=q q1
   rw[show Op.bytesLess t.fName.toList (c.fTables[i]?.getD dTable).fName.toList=true from q2] at this
   cases this
  rw[if_neg hq] at hs
  have ha2:anyT (fun y=>tabLt t y) c.fTables (i+1)=anyT (fun y=>tabLt t y) c.fTables i:=by
   rw[ha]
   cases hx:anyT (fun y=>tabLt t y) c.fTables i with
   |true=>rfl
   |false=>
    rw[Bool.false_or]
    exact q hx
  rw[hs,ha2]
  simp[wrapS (show i<9223372036854775807 by omega),eTable]
 ·simp[wrapS (show i<9223372036854775807 by omega)];omega
 ·have:i=c.fTables.length:=by omega
  subst this
  have he:=layTo_end (fun y=>tabLt t y) t c.fTables
  have hfu: ∀l:List GTable,Full (Md.o 201 (fun _=> [Md.s,Md.s,Md.s])) (.ls [Lf.sc (Value.string ⟨#[]⟩),Lf.ls [Lf.sc (Value.string ⟨#[]⟩),Lf.sc (Value.int IntKind.i64 0),Lf.sc (Value.bool false),Lf.sc (Value.bool false),Lf.sc (Value.int IntKind.i64 0),Lf.sc (Value.int IntKind.i64 0),Lf.sc (Value.string ⟨#[]⟩)] [],Lf.ls [Lf.sc (Value.string ⟨#[]⟩)] []] (l.map eTable)):=fun l=>Full_rowsF (fun i x j hj=>match j,hj with|0,_=> .s|1,_=> .s|2,_=> .s|n+3,hj=>absurd hj (by simp)) l
  refine ⟨fun q=> ?_,fun q=> ?_⟩
  ·rw[anyT_all] at q
   rw[q] at he
   refine ⟨by omega, ?_⟩
   rw[he]
   simp[eTable]
  ·rw[anyT_all] at q
   rw[q,if_pos rfl] at he
   rw[he]
theorem l02Fault_ok (t:GTable) (d:GDdl) (ht:bdTable t) (hd2:ddlOk d=true):VC Tryz.prog 380 [vTable t,vDdl d] [(false,[(.s,.sc (.int .i64 (tabCode t d)))])]:=by
 have hc:okM t.fCols.length:=by have:=ht.1;unfold okM;omega
 have hk:okM t.fKeys.length:=by have:=ht.2;unfold okM;omega
 refine vc_of_ew good hm [0,1,2,3,4,5,11,12,21,25,26,29,34,35,41,43] Tryz.func380 rfl (by kernel_rfl) (by kernel_rfl) rfl ?_
 simp[Tryz.f380]
 refine .of (colAtS_ok t d.fName hc) ?_
 simp
 have hE:tabCode t d=if (d.fKind=3∧0≤colAt t (col0 d).fName)∨(d.fKind=5∧0≤colAt t d.fTo) then 5 else
  if d.fKind=3∧t.fCols.length=8 then 6 else
  if (d.fKind=4∨d.fKind=5)∧colAt t d.fName<0 then 7 else
  if d.fKind=4∧has t.fKeys d.fName=true then 8 else 0:=rfl
 by_cases k3:d.fKind=3
 ·have hl:=(ddlOk_3 hd2 k3).1
  simp[k3] at hE⊢
  refine ⟨by omega,.of (colAtS_ok t (col0 d).fName hc) ?_⟩
  simp
  grind
 by_cases k4:d.fKind=4
 ·simp[k3,k4] at hE⊢
  refine ⟨fun h=>by rw[hE,if_pos h],fun h=> .of (l02Has_ok t.fKeys d.fName hk) ?_⟩
  simp
  grind
 by_cases k5:d.fKind=5
 ·simp[k3,k4,k5] at hE⊢
  refine .of (colAtS_ok t d.fTo hc) ?_
  simp
  grind
 ·simp[k3,k4,k5] at hE⊢
  exact hE.symm
def colsCh (d:GDdl) (l:List GCol):List GCol:=if d.fKind=4 then l.filter (fun c=> !(c.fName.toList==d.fName.toList)) else if d.fKind=5 then l.map (renC d.fName d.fTo) else l
theorem colsCh_succ (d:GDdl) {l:List GCol} {i:Nat} (h:i<l.length):colsCh d (l.take (i+1))=if d.fKind=4∧(l[i]?.getD dCol).fName.toList=d.fName.toList then colsCh d (l.take i) else if d.fKind=5 then colsCh d (l.take i)++ [renC d.fName d.fTo (l[i]?.getD dCol)] else colsCh d (l.take i)++ [l[i]?.getD dCol]:=by
 rw[take_row dCol h]
 unfold colsCh
 by_cases k4:d.fKind=4
 ·simp only[k4,if_true,List.filter_append]
  by_cases e:(l[i]?.getD dCol).fName.toList=d.fName.toList
  ·simp[e]
  ·simp[e]
 ·by_cases k5:d.fKind=5<;>simp[k4,k5]
theorem colsCh_len (d:GDdl) (l:List GCol):(colsCh d l).length≤l.length:=by
 unfold colsCh
 split
 ·exact List.length_filter_le _ _
 split<;>simp
def fTable (t:GTable):ML:= [(Md.s,Lf.sc (Value.string t.fName)),(Md.s,Lf.ls [Lf.sc (Value.string ⟨#[]⟩),Lf.sc (Value.int IntKind.i64 0),Lf.sc (Value.bool false),Lf.sc (Value.bool false),Lf.sc (Value.int IntKind.i64 0),Lf.sc (Value.int IntKind.i64 0),Lf.sc (Value.string ⟨#[]⟩)] (t.fCols.map eCol)),(Md.s,Lf.ls [Lf.sc (Value.string ⟨#[]⟩)] (t.fKeys.map eStr))]
def keyCh (d:GDdl) (k:ByteArray):ByteArray:=if d.fKind=5 then renS d.fName d.fTo k else k
theorem tabCh_eq (t:GTable) (d:GDdl):tabCh t d=if d.fKind=3 then ⟨t.fName,colsCh d t.fCols++ [col0 d],t.fKeys.map (keyCh d)⟩ else ⟨t.fName,colsCh d t.fCols,t.fKeys.map (keyCh d)⟩:=by
 have hk: ∀l:List ByteArray,d.fKind≠5→l.map (keyCh d)=l:=fun l h5=>by
  conv=>rhs;rw[←List.map_id l]
  exact List.map_congr_left fun x _=>by simp[keyCh,h5]
 have hk5: ∀l:List ByteArray,d.fKind=5→l.map (keyCh d)=l.map (renS d.fName d.fTo):=fun l h5=>List.map_congr_left fun x _=>by simp[keyCh,h5]
 unfold tabCh colsCh
 by_cases k3:d.fKind=3
 ·simp[k3,hk]
 by_cases k4:d.fKind=4
 ·simp[k4,hk]
 by_cases k5:d.fKind=5
 ·simp[k5,hk5]
 ·simp[k3,k4,k5,hk]
theorem l02Change_ok (t:GTable) (d:GDdl) (ht:bdTable t) (hd2:ddlOk d=true) (k1:d.fKind≠1) (k2:d.fKind≠2):VC Tryz.prog 381 [vTable t,vDdl d] [(true,fTable (tabCh t d))]:=by
 obtain ⟨ht1,ht2⟩:=ht
 refine vc_of_ewF good hm [0,1,2,3,4,5,17,18,19,20,7,32,42,55,56,57,8,71,81] Tryz.func381 rfl (by kernel_rfl) (by kernel_rfl) rfl ?_
 simp[Tryz.f381,fTable]
 refine ⟨by omega, ?_⟩
 refine ew_loop (fun E=> ∃i:Nat,i≤t.fCols.length∧E= {nt:=92,sl:= [(3,.p (.bx 3 0)),(4,.p (.bx 4 0)),(5,.p (.pt [5] 3 0 0)),(17,vColS t.fCols),(18,int .i64 t.fCols.length),(19,int .i64 i)],bx:= [(3,cDdl d),(4,[.s (.sc (.string ⟨#[]⟩)),.n [Lf.sc (Value.string ⟨#[]⟩),Lf.sc (Value.int IntKind.i64 0),Lf.sc (Value.bool false),Lf.sc (Value.bool false),Lf.sc (Value.int IntKind.i64 0),Lf.sc (Value.int IntKind.i64 0),Lf.sc (Value.string ⟨#[]⟩)],.n [.sc (.string ⟨#[]⟩)]])],rt:= [(5,(Md.o 201 (fun _=> [Md.s,(Md.o 236 (fun _=> [Md.s,Md.s,Md.s,Md.s,Md.s,Md.s,Md.s])),Md.o 9 (fun _=> [Md.s])])),.ls [Lf.sc (Value.string ⟨#[]⟩),Lf.ls [Lf.sc (Value.string ⟨#[]⟩),Lf.sc (Value.int IntKind.i64 0),Lf.sc (Value.bool false),Lf.sc (Value.bool false),Lf.sc (Value.int IntKind.i64 0),Lf.sc (Value.int IntKind.i64 0),Lf.sc (Value.string ⟨#[]⟩)] [],Lf.ls [Lf.sc (Value.string ⟨#[]⟩)] []] [eTable ⟨t.fName,colsCh d (t.fCols.take i),t.fKeys⟩])]}) (fun E=>t.fCols.length- (E.num 19).toNat) _ (Gh.kb _ [3,4,5,17,18,19] [3,4] [5]) ⟨0,by omega,by simp[colsCh,eTable]⟩ ?_
 rintro E1 ⟨i,hi,rfl⟩
 have hcl:=colsCh_len d (t.fCols.take i)
 have hcs:=fun h=>colsCh_succ d (l:=t.fCols) (i:=i) h
 rw[List.length_take] at hcl
 simp[eTable,md,lf,List.range']
 have hmd:(fun k:Nat=>if k=0 then [Md.s,(Md.o 236 (fun _=> [Md.s,Md.s,Md.s,Md.s,Md.s,Md.s,Md.s])),Md.o 9 (fun _=> [Md.s])] else if k=0 then [Md.s,Md.x,Md.o 9 (fun _=> [Md.s])] else [Md.s,(Md.o 236 (fun _=> [Md.s,Md.s,Md.s,Md.s,Md.s,Md.s,Md.s])),Md.o 9 (fun _=> [Md.s])])=fun _=> [Md.s,(Md.o 236 (fun _=> [Md.s,Md.s,Md.s,Md.s,Md.s,Md.s,Md.s])),Md.o 9 (fun _=> [Md.s])]:=by
  funext k
  by_cases hj:k=0<;>simp[hj]
 refine ⟨fun h=>⟨h,fun k4 q=> .of _ (Gh.kb _ [3,4,5,17,18,19] [3,4] [5]) ⟨i+1,by omega, ?_⟩ ?_,fun q=>⟨fun k5 e=>⟨by omega,.of _ (Gh.kb _ [3,4,5,17,18,19] [3,4] [5]) ⟨i+1,by omega, ?_⟩ ?_⟩,fun e=>⟨by omega,.of _ (Gh.kb _ [3,4,5,17,18,19] [3,4] [5]) ⟨i+1,by omega, ?_⟩ ?_⟩⟩⟩,fun h=> ?_⟩
 ·rw[hcs h,if_pos ⟨k4,q⟩]
  simp[wrapS (show i<9223372036854775807 by omega),eTable]
 ·simp[wrapS (show i<9223372036854775807 by omega)];omega
 ·rw[hcs h,if_neg (fun g=>q g.1 g.2),if_pos k5]
  simp[wrapS (show i<9223372036854775807 by omega),eTable,renC,e,eCol,hmd]
 ·simp[wrapS (show i<9223372036854775807 by omega)];omega
 ·have:colsCh d (t.fCols.take (i+1))=colsCh d (t.fCols.take i)++ [t.fCols[i]?.getD dCol]:=by
   rw[hcs h,if_neg (fun g=>q g.1 g.2)]
   split
   ·rename_i k5
    rw[renC_no (fun e2=>e k5 (by rw[e2]))]
   ·rfl
  rw[this]
  simp[wrapS (show i<9223372036854775807 by omega),eTable,eCol,hmd]
 ·simp[wrapS (show i<9223372036854775807 by omega)];omega
 ·have:i=t.fCols.length:=by omega
  subst this
  rw[List.take_length] at hcl⊢
  refine ew_loop (fun E=> ∃j:Nat,j≤t.fKeys.length∧E= {nt:=92,sl:= [(3,.p (.bx 3 0)),(4,.p (.bx 4 0)),(5,.p (.pt [5] 3 0 0)),(55,int .i64 t.fKeys.length),(56,int .i64 j)],bx:= [(3,cDdl d),(4,[.s (.sc (.string ⟨#[]⟩)),.n [Lf.sc (Value.string ⟨#[]⟩),Lf.sc (Value.int IntKind.i64 0),Lf.sc (Value.bool false),Lf.sc (Value.bool false),Lf.sc (Value.int IntKind.i64 0),Lf.sc (Value.int IntKind.i64 0),Lf.sc (Value.string ⟨#[]⟩)],.n [.sc (.string ⟨#[]⟩)]])],rt:= [(5,(Md.o 201 (fun _=> [Md.s,(Md.o 236 (fun _=> [Md.s,Md.s,Md.s,Md.s,Md.s,Md.s,Md.s])),Md.o 9 (fun _=> [Md.s])])),.ls [Lf.sc (Value.string ⟨#[]⟩),Lf.ls [Lf.sc (Value.string ⟨#[]⟩),Lf.sc (Value.int IntKind.i64 0),Lf.sc (Value.bool false),Lf.sc (Value.bool false),Lf.sc (Value.int IntKind.i64 0),Lf.sc (Value.int IntKind.i64 0),Lf.sc (Value.string ⟨#[]⟩)] [],Lf.ls [Lf.sc (Value.string ⟨#[]⟩)] []] [eTable ⟨t.fName,colsCh d t.fCols,chTo (keyCh d) t.fKeys j⟩])]}) (fun E=>t.fKeys.length- (E.num 56).toNat) _ (Gh.kb _ [3,4,5,55,56] [3,4] [5]) ⟨0,by omega,by simp[chTo_zero,eTable]⟩ ?_
  rintro E1 ⟨j,hj,rfl⟩
  have hlen:=chTo_len (keyCh d) t.fKeys j
  have hget:=chTo_get (keyCh d) t.fKeys j
  have hsu:=fun h=>chTo_succ (keyCh d) (⟨#[]⟩:ByteArray) (l:=t.fKeys) (i:=j) h
  have hal:=chTo_all (keyCh d) t.fKeys
  generalize hM:chTo (keyCh d) t.fKeys j=M at hlen hget hsu
  simp[eTable,md,lf,List.range',hlen]
  have hg: ∀h:j<t.fKeys.length,M[j]?.getD ⟨#[]⟩=t.fKeys[j]?.getD ⟨#[]⟩:=fun _=>by rw[hget]
  refine ⟨fun h=>⟨fun k5=>⟨k5,h⟩,fun k5 e=>⟨h,.of _ (Gh.kb _ [3,4,5,55,56] [3,4] [5]) ⟨j+1,by omega, ?_⟩ ?_⟩,fun e=> .of _ (Gh.kb _ [3,4,5,55,56] [3,4] [5]) ⟨j+1,by omega, ?_⟩ ?_⟩,fun h=> ?_⟩
  ·rw[hsu h,List.map_set]
   rw[hg h] at e
   simp[wrapS (show j<9223372036854775807 by omega),eTable,hmd,keyCh,k5,renS,e]
  ·simp[wrapS (show j<9223372036854775807 by omega)];omega
  ·have:M.set j (keyCh d (t.fKeys[j]?.getD ⟨#[]⟩))=M:=by
    have h1:keyCh d (t.fKeys[j]?.getD ⟨#[]⟩)=M[j]'(by omega):=by
     have h2:=hg h
     rw[List.getElem?_eq_getElem (l:=M) (by omega)] at h2
     simp only[Option.getD_some] at h2
     unfold keyCh
     split
     ·rename_i k5
      rw[(renS_eq _ _ _).2 (fun e2=>e k5 (by rw[hg h,e2])),h2]
     ·exact h2.symm
    rw[h1]
    exact List.set_getElem_self ..
   rw[hsu h,this]
   simp[wrapS (show j<9223372036854775807 by omega),eTable]
  ·simp[wrapS (show j<9223372036854775807 by omega)];omega
  ·have:j=t.fKeys.length:=by omega
   subst this
   rw[hM] at hal
   rw[hal,tabCh_eq]
   refine ⟨fun k3=>⟨by have:=(ddlOk_3 hd2 k3).1;omega,by omega, ?_⟩,fun k3=> ?_⟩
   ·simp[k3,eCol,col0]
   ·simp[k3]
end Go.Proofs.YteeolohhmfjafaaGreat
namespace Go.Proofs.YteeolohhmfjafaaGreat
open Go Go.Proofs Go.Sm
attribute [local simp] ti eStr eInt eByte eVal vVal eValS vValS eRow cRow vRow eCol vCol vColS vStrS eDdl cDdl vDdl eStmt cStmt vStmt ePart vPart vPartS eBatch vBatch eTable cTable vTable vTableS cCat vCat vRowS eRows vRows vRowsS cDb vDb eRec vRec vRecS eTail cTail vTail vBatchS vStmtS
set_option linter.unusedVariables false
set_option linter.unusedSimpArgs false
set_option maxRecDepth 8000
theorem full_sT (cols:Nat→List Md) (hc: ∀i,cols i= [Md.s,(Md.o 236 (fun _=> [Md.s,Md.s,Md.s,Md.s,Md.s,Md.s,Md.s])),Md.o 9 (fun _=> [Md.s])]∨cols i= [Md.s,Md.s,Md.s]) (l:List GTable):Full (Md.o 201 cols) (.ls [Lf.sc (Value.string ⟨#[]⟩),Lf.ls [Lf.sc (Value.string ⟨#[]⟩),Lf.sc (Value.int IntKind.i64 0),Lf.sc (Value.bool false),Lf.sc (Value.bool false),Lf.sc (Value.int IntKind.i64 0),Lf.sc (Value.int IntKind.i64 0),Lf.sc (Value.string ⟨#[]⟩)] [],Lf.ls [Lf.sc (Value.string ⟨#[]⟩)] []] (l.map eTable)):=by
 refine Full_rowsF (fun i x j hj=> ?_) _
 rcases hc i with h|h<;>rw[h]
 ·exact (match j,hj with
  |0,_=> .s
  |1,_=>of_eq_true (full_ColS x.fCols)
  |2,_=>of_eq_true (full_StrS x.fKeys)
  |n+3,hj=>absurd hj (by simp))
 ·exact (match j,hj with
  |0,_=> .s
  |1,_=> .s
  |2,_=> .s
  |n+3,hj=>absurd hj (by simp))
theorem ddlApplyS_ok (c:GCat) (d:GDdl) (hc:okCat c) (hd:okDdl d) (h1:d.fCols.length≤1048576) (h2:d.fKeys.length≤1048576):VC Tryz.prog 289 [vCat c,vDdl d] [(true,fCat (ddlApply c d).1),(false,[(.s,.sc (.int .i64 (ddlApply c d).2))])]:=by
 refine vc_of_ewF good hm [0,1,2,3,4,5,16,6,7,26,28,33,46,8,56,61] Tryz.func289 rfl (by kernel_rfl) (by kernel_rfl) rfl ?_
 simp[Tryz.f289,fCat]
 refine .of (catOkS_ok c hc) ?_
 simp
 refine .of (fun g=>⟨g,ddlOkS_ok d hd⟩) ?_
 simp
 have hE:ddlApply c d=if catOk c=false∨ddlOk d=false then (⟨[]⟩,1) else if ddlCode c d≠0 then (⟨[]⟩,ddlCode c d) else (catCh c d,0):=rfl
 refine ⟨fun h=>by rw[hE,if_pos h];simp,fun h3 h4=> ?_⟩
 rw[if_neg (by simp[h3,h4])] at hE
 obtain ⟨hcl,hct⟩:=(catOk_ok h3).2
 have hat:=l02At_ok c d.fTable hc.1.1
 have hb:=tabAt_bd c.fTables d.fTable
 have hcp:=l02Copy_ok c (by omega) (fun t ht=>(hct t ht).2)
 have hE1:d.fKind=1→ddlCode c d=if 0≤tabAt c.fTables d.fTable then 2 else if c.fTables.length=6 then 3 else 0:=fun h=>by simp[ddlCode,h]
 have hE2:d.fKind≠1→ddlCode c d=if tabAt c.fTables d.fTable<0 then 4 else tabCode (tabOf c d.fTable) d:=fun h=>by simp[ddlCode,h]
 by_cases k1:d.fKind=1
 ·refine .of hat ?_
  simp
  refine .of (hcp.frz (by simp[FullRs,FullML,mCat])) ?_
  simp[mCat,k1]
  have hE1:=hE1 k1
  refine ⟨fun q=>by
   have:ddlCode c d=2:=by rw[hE1,if_pos q]
   rw[hE,this]
   simp,fun q=>⟨fun q2=>by
   have:ddlCode c d=3:=by rw[hE1,if_neg (by omega),if_pos (by omega)]
   rw[hE,this]
   simp,fun q2=> ?_⟩⟩
  rw[if_neg (by omega),if_neg (by omega)] at hE1
  rw[hE,hE1]
  refine .of ((l02Table_ok (madeT d) ⟨h1,h2⟩).frz (by simp[FullRs,FullML,mTable])) ?_
  simp[mTable]
  refine .of (l02Put_ok c (madeT d) (by omega)) ?_
  simp
  have hne:=(ddlCode_0 hE1).1 k1
  unfold catCh
  rw[if_pos k1]
  have:insW (fun y=> !tabLt (madeT d) y) (madeT d) c.fTables=insW (fun y=>tabLt y (madeT d)) (madeT d) c.fTables:=insW_congr _ fun y hy=>by
   rcases tabLt_total (a:=y) (b:=madeT d) (fun e=>hne.1 y hy e) with h|h
   ·rw[h,tabLt_asymm h];rfl
   ·rw[h,tabLt_asymm h];rfl
  rw[this]
 ·have hE2:=hE2 k1
  by_cases ht:tabAt c.fTables d.fTable<0
  ·rw[if_pos ht] at hE2
   refine .of hat ?_
   simp
   refine .of (hcp.frz (by simp[FullRs,FullML,mCat])) ?_
   simp[mCat,k1,ht]
   rw[hE,hE2]
   simp
  ·rw[if_neg ht] at hE2
   obtain ⟨k,hk⟩: ∃k:Nat,tabAt c.fTables d.fTable=k:=⟨_,(Int.toNat_of_nonneg (by omega)).symm⟩
   have hkl:k<c.fTables.length:=by omega
   have hk0: ¬((k:Int)<0):=by omega
   rw[hk] at hat
   have htk:tabOf c d.fTable=c.fTables[k]:=by
    unfold tabOf
    rw[hk]
    simp[hkl]
   rw[htk] at hE2
   have hm:c.fTables[k]∈c.fTables:=List.getElem_mem hkl
   have hbt:=(hct _ hm).2
   have hfa:=l02Fault_ok c.fTables[k] d hbt h4
   by_cases k2:d.fKind=2
   ·refine .of hat ?_
    simp
    refine .of (hcp.frz (by simp[FullRs,FullML,mCat])) ?_
    simp[mCat,k1,hk0,hkl,eTable]
    refine .of hfa ?_
    simp[k2]
    refine ⟨fun h=>by rw[hE,hE2,if_pos h];simp,fun h=> ?_⟩
    rw[hE,hE2,if_neg (by simp[h])]
    have hw:=wrapS (show k<9223372036854775807 by omega)
    have hcc:(catCh c d).fTables=c.fTables.eraseIdx k:=by
     unfold catCh
     rw[if_neg k1,if_pos k2,hk]
     rfl
    rw[hw]
    refine ⟨by omega,by omega,⟨by omega,by omega⟩,by omega, ?_,rfl⟩
    show _=(catCh c d).fTables.map eTable
    rw[hcc,List.eraseIdx_eq_take_drop_succ,List.take_of_length_le (l:=c.fTables.map eTable) (i:=c.fTables.length) (by simp)]
    simp
   ·refine .of hat ?_
    simp
    refine .of hcp ?_
    simp[mCat,k1,hk0,hkl,eTable]
    refine .of hfa ?_
    simp[k2]
    refine ⟨fun h=>by rw[hE,hE2,if_pos h];simp[FullRs,FullML],fun h=> ?_⟩
    rw[hE,hE2,if_neg (by simp[h])]
    refine ⟨hkl, ?_⟩
    have hlc:=l02Change_ok c.fTables[k] d hbt h4 k1 k2
    simp only[List.getElem?_eq_getElem hkl,Option.getD_some]
    refine .of hlc ?_
    simp[fTable,md,lf,eTable,List.range',hkl,FullRs,FullML]
    have hset:(catCh c d).fTables=c.fTables.set k (tabCh c.fTables[k] d):=by
     unfold catCh
     rw[if_neg k1,if_neg k2,hk,htk]
     rfl
    have hfin:(c.fTables.map eTable).set k (eTable (tabCh c.fTables[k] d))=(catCh c d).fTables.map eTable:=by
     rw[hset,List.map_set]
    refine ⟨?_,hfin⟩
    have hfu:=full_sT (fun j=>if j=k then [Md.s,Md.s,Md.s] else [Md.s,(Md.o 236 (fun _=> [Md.s,Md.s,Md.s,Md.s,Md.s,Md.s,Md.s])),Md.o 9 (fun _=> [Md.s])]) (fun i=>by by_cases h:i=k<;>simp[h]) (catCh c d).fTables
    rw[←hfin] at hfu
    exact hfu
end Go.Proofs.YteeolohhmfjafaaGreat
namespace Go.Proofs.YteeolohhmfjafaaGreat
open Go Go.Proofs Go.Sm
attribute [local simp] ti eStr eInt eByte eVal vVal eValS vValS eRow cRow vRow eCol vCol vColS vStrS eDdl cDdl vDdl eStmt cStmt vStmt ePart vPart vPartS eBatch vBatch eTable cTable vTable vTableS cCat vCat vRowS eRows vRows vRowsS cDb vDb eRec vRec vRecS eTail cTail vTail vBatchS vStmtS
set_option linter.unusedVariables false
set_option linter.unusedSimpArgs false
set_option maxRecDepth 8000
def bdDb (d:GDb):Prop:=(d.fCat.fTables.length≤1048576∧ ∀t∈d.fCat.fTables,bdTable t)∧d.fData.length≤1048576∧ ∀r∈d.fData,r.fRows.length≤1048576∧ ∀x∈r.fRows,x.fVals.length≤1048576
theorem dbOk_bd {d:GDb} (h:dbOk d=true):bdDb d:=by
 obtain ⟨_,h1,h2⟩:=catOk_ok (dbOk_cat h)
 refine ⟨⟨by omega,fun t ht=>(h2 t ht).2⟩,by have:=dbOk_len h;omega,fun r hr=> ?_⟩
 obtain ⟨t,ht,hr2⟩:=dbOk_rows h r hr
 have:=rowsOk_ok hr2
 exact ⟨by omega,fun x hx=>by have:=this.2.2 x hx;omega⟩
theorem copyDb_ok (d:GDb) (h:bdDb d):VC Tryz.prog 152 [vDb d] [(true,mDb d)]:=by
 obtain ⟨⟨h1,h2⟩,h3,h4⟩:=h
 refine vc_of_ew good hm [0,1,2,3,11,12,13,14,5] Tryz.func152 rfl (by kernel_rfl) (by kernel_rfl) rfl ?_
 simp[Tryz.f152,mDb]
 refine .of (copyCat_ok d.fCat h1 h2) ?_
 simp[mCat]
 refine ew_loop (fun E=> ∃i:Nat,i≤d.fData.length∧E= {nt:=28,sl:= [(2,.p (.bx 2 0)),(3,.p (.bx 3 0)),(11,vRowsS d.fData),(12,int .i64 d.fData.length),(13,int .i64 i)],bx:= [(2,[.n [Lf.sc (Value.string ⟨#[]⟩),Lf.ls [Lf.sc (Value.string ⟨#[]⟩),Lf.sc (Value.int IntKind.i64 0),Lf.sc (Value.bool false),Lf.sc (Value.bool false),Lf.sc (Value.int IntKind.i64 0),Lf.sc (Value.int IntKind.i64 0),Lf.sc (Value.string ⟨#[]⟩)] [],Lf.ls [Lf.sc (Value.string ⟨#[]⟩)] []],.n [Lf.ls [Lf.ls [Lf.sc (Value.int IntKind.i64 0),Lf.sc (Value.int IntKind.i64 0),Lf.sc (Value.string ⟨#[]⟩)] []] []]]),(3,[.r [8],.r [990]])],rt:=((mRowsS (d.fData.take i)).map fun y=>(990,y))++((mTableS d.fCat.fTables).map fun y=>(8,y))}) (fun E=>d.fData.length- (E.num 13).toNat) _ ((Gh.nlB _ 3 1 990 205 (fun _=> [(Md.o 120 (fun _=> [(Md.o 234 (fun _=> [Md.s,Md.s,Md.s]))]))]) [Lf.ls [Lf.ls [Lf.sc (Value.int IntKind.i64 0),Lf.sc (Value.int IntKind.i64 0),Lf.sc (Value.string ⟨#[]⟩)] []] []]).trans (Gh.kb _ [2,3,11,12,13] [2,3] [990,8])) ⟨0,by omega,by simp[mRowsS,mTableS]⟩ ?_
 rintro E1 ⟨i,hi,rfl⟩
 simp[mRowsS,mTableS]
 refine ⟨fun h=>⟨h,.of (copyRows_ok _ (h4 _ (getD_mem dRows h)).1 (h4 _ (getD_mem dRows h)).2) ?_⟩,fun h=> ?_⟩
 ·simp[mRowS]
  refine ⟨by omega,.of _ ((Gh.kb _ [2,3,11,12,13] [2,3] [24,8]).trans (Gh.rn _ 24 990)) ⟨i+1,by omega, ?_⟩ ?_⟩
  ·rw[take_rowM dRows h]
   simp[wrapS (show i<9223372036854775807 by omega),mRowsS,mTableS,eRows]
  ·simp[wrapS (show i<9223372036854775807 by omega)];omega
 ·have:i=d.fData.length:=by omega
  subst this
  rw[←List.map_take,List.take_length]
theorem changed_ok (d:GDb) (x:GDdl) (hd:dbOk d=true) (hx:okDdl x) (h1:x.fCols.length≤1048576) (h2:x.fKeys.length≤1048576):VC Tryz.prog 202 [vDb d,vDdl x] [(true,mDb (dbCh d x).1),(false,[(.s,.sc (.int .i64 (dbCh d x).2))])]:=by
 have hod:=dbOk_ok hd
 have hco:=catOk_ok (dbOk_cat hd)
 refine vc_of_ew good hm [0,1,2,3,4,5,6,7,20,8,9,31,55,67,10] Tryz.func202 rfl (by kernel_rfl) (by kernel_rfl) rfl ?_
 simp[Tryz.f202,mDb]
 refine .of (ddlApplyI_ok d.fCat x hco.1 hx h1 h2) ?_
 have hE:dbCh d x=if (ddlApply d.fCat x).2≠0 then (dDb,(ddlApply d.fCat x).2) else (⟨catCh d.fCat x,dataCh d x⟩,0):=rfl
 simp[mCat]
 refine ⟨fun h=>by rw[hE,if_pos h];simp[dDb,dCat],fun h3=> .of (copyDb_ok d (dbOk_bd hd)) ?_⟩
 rw[if_neg (by simp[h3])] at hE
 obtain ⟨q1,q2,q3,q4⟩:=ddlApply_ok h3
 rw[hE]
 have hz:=ddlCode_0 q3
 rw[q4]
 simp[mDb]
 have hl:=dbOk_len hd
 by_cases k1:x.fKind=1
 ·refine .of (at_ok d.fCat x.fTable hco.1.1.1) ?_
  simp[k1]
  have hcc:=catCh_ok q1 q2 q3
  have hca:=at_ok (catCh d.fCat x) x.fTable (by have:=(catOk_ok hcc).2.1;unfold okM;omega)
  have hn:(tabAt (catCh d.fCat x).fTables x.fTable)=((tabAt (catCh d.fCat x).fTables x.fTable).toNat:Nat):=by
   have h4:0≤tabAt (catCh d.fCat x).fTables x.fTable:=(tabAt_nn _ _).2 ⟨madeT x,by unfold catCh;rw[if_pos k1];exact insW_mem.2 (.inl rfl),rfl⟩
   omega
  have hnl:(tabAt (catCh d.fCat x).fTables x.fTable).toNat≤d.fData.length:=by
   rw[insW_tab q1 q2 k1 q3,hl]
   exact takeW_len _ _
  have hdc:dataCh d x=insAt d.fData (tabAt (catCh d.fCat x).fTables x.fTable).toNat ⟨[]⟩:=by unfold dataCh;rw[if_pos k1]
  generalize (tabAt (catCh d.fCat x).fTables x.fTable).toNat=n at hn hnl hdc
  rw[hn] at hca
  refine .of hca ?_
  simp
  refine ⟨of_eq_true (full_RowsS [⟨[]⟩]),.use (vx_ins (i:=n) (rows:=d.fData.map eRows) (row:=eRows ⟨[]⟩) (z:= [Lf.ls [Lf.ls [Lf.sc (Value.int IntKind.i64 0),Lf.sc (Value.int IntKind.i64 0),Lf.sc (Value.string ⟨#[]⟩)] []] []]) (cols:=fun _=> [(Md.o 120 (fun _=> [(Md.o 234 (fun _=> [Md.s,Md.s,Md.s]))]))]) (cols':=fun _=> [(Md.o 120 (fun _=> [(Md.o 234 (fun _=> [Md.s,Md.s,Md.s]))]))]) ⟨_,_,Tryz.func313,rfl,by kernel_rfl⟩ rawIns_Rows (by decide) (by decide) rfl (by simp;omega) (by simp;omega)) ?_⟩
  simp[colsI_const]
  rw[hdc]
  simp[insAt,eRows]
 ·obtain ⟨z1,z2⟩:=hz.2 k1
  obtain ⟨k,hk⟩: ∃k:Nat,tabAt d.fCat.fTables x.fTable=k:=⟨_,(Int.toNat_of_nonneg z1).symm⟩
  have hat:=at_ok d.fCat x.fTable hco.1.1.1
  have hb:=tabAt_bd d.fCat.fTables x.fTable
  have hkl:k<d.fCat.fTables.length:=by omega
  have hkd:k<d.fData.length:=by omega
  rw[hk] at hat
  refine .of hat ?_
  simp[k1]
  have htk:tabOf d.fCat x.fTable=d.fCat.fTables[k]:=by
   unfold tabOf
   rw[hk]
   simp[hkl]
  have hix:dbIx d x.fTable=k:=by unfold dbIx;rw[hk];rfl
  have hdk:dataOf d k=d.fData[k].fRows:=by unfold dataOf;simp[hkd]
  have hm:d.fCat.fTables[k]∈d.fCat.fTables:=List.getElem_mem hkl
  have hmd:d.fData[k]∈d.fData:=List.getElem_mem hkd
  refine ⟨fun k2=> ?_,fun k2=> ?_⟩
  ·simp[wrapS (show k<9223372036854775807 by omega)]
   refine .use (vx_del (i:=k) (rows:=d.fData.map eRows) (z:= [Lf.ls [Lf.ls [Lf.sc (Value.int IntKind.i64 0),Lf.sc (Value.int IntKind.i64 0),Lf.sc (Value.string ⟨#[]⟩)] []] []]) (cols:=fun _=> [(Md.o 120 (fun _=> [(Md.o 234 (fun _=> [Md.s,Md.s,Md.s]))]))]) ⟨_,_,Tryz.func314,rfl,by kernel_rfl⟩ rawDel_Rows (by decide) rfl (by simp;omega)) ?_
   simp[colsD_const]
   unfold dataCh
   rw[if_neg k1,if_pos k2,hix,List.eraseIdx_eq_take_drop_succ]
   simp
  ·have hro:rowsOk d.fCat.fTables[k] d.fData[k].fRows=true:=by
    have:=((dbOk_iff d).1 hd).2.2 k hkl
    simpa [hkl,hkd] using this
   have htab:=hco.1.1.2 _ hm
   refine ⟨hkl,hkd, ?_⟩
   have hrd:=rowsDdlI_ok d.fCat.fTables[k] d.fData[k].fRows x htab (by have:=(hco.2.2 _ hm).2.2;omega) (rowsOk_ok hro).1 hx h1 h2
   simp[hkl,hkd]
   refine .of hrd ?_
   simp[mRowS,md,lf,eRows,List.range',hkd]
   unfold dataCh
   rw[if_neg k1,if_neg k2,hix,htk,hdk,List.map_set]
   rfl
end Go.Proofs.YteeolohhmfjafaaGreat
namespace Go.Proofs.YteeolohhmfjafaaGreat
open Go Go.Proofs Go.Sm
attribute [local simp] ti eStr eInt eByte eVal vVal eValS vValS eRow cRow vRow eCol vCol vColS vStrS eDdl cDdl vDdl eStmt cStmt vStmt ePart vPart vPartS eBatch vBatch eTable cTable vTable vTableS cCat vCat vRowS eRows vRows vRowsS cDb vDb eRec vRec vRecS eTail cTail vTail vBatchS vStmtS
set_option linter.unusedVariables false
set_option linter.unusedSimpArgs false
set_option maxRecDepth 8000
theorem l04Copy_ok (d:GDb) (h:bdDb d):VC Tryz.prog 143 [vDb d] [(true,mDb d)]:=by
 obtain ⟨⟨h1,h2⟩,h3,h4⟩:=h
 refine vc_of_ew good hm [0,1,2,3,11,12,13,14,5] Tryz.func143 rfl (by kernel_rfl) (by kernel_rfl) rfl ?_
 simp[Tryz.f143,mDb]
 refine .of (l02Copy_ok d.fCat h1 h2) ?_
 simp[mCat]
 refine ew_loop (fun E=> ∃i:Nat,i≤d.fData.length∧E= {nt:=28,sl:= [(2,.p (.bx 2 0)),(3,.p (.bx 3 0)),(11,vRowsS d.fData),(12,int .i64 d.fData.length),(13,int .i64 i)],bx:= [(2,[.n [Lf.sc (Value.string ⟨#[]⟩),Lf.ls [Lf.sc (Value.string ⟨#[]⟩),Lf.sc (Value.int IntKind.i64 0),Lf.sc (Value.bool false),Lf.sc (Value.bool false),Lf.sc (Value.int IntKind.i64 0),Lf.sc (Value.int IntKind.i64 0),Lf.sc (Value.string ⟨#[]⟩)] [],Lf.ls [Lf.sc (Value.string ⟨#[]⟩)] []],.n [Lf.ls [Lf.ls [Lf.sc (Value.int IntKind.i64 0),Lf.sc (Value.int IntKind.i64 0),Lf.sc (Value.string ⟨#[]⟩)] []] []]]),(3,[.r [8],.r [990]])],rt:=((mRowsS (d.fData.take i)).map fun y=>(990,y))++((mTableS d.fCat.fTables).map fun y=>(8,y))}) (fun E=>d.fData.length- (E.num 13).toNat) _ ((Gh.nlB _ 3 1 990 205 (fun _=> [(Md.o 120 (fun _=> [(Md.o 234 (fun _=> [Md.s,Md.s,Md.s]))]))]) [Lf.ls [Lf.ls [Lf.sc (Value.int IntKind.i64 0),Lf.sc (Value.int IntKind.i64 0),Lf.sc (Value.string ⟨#[]⟩)] []] []]).trans (Gh.kb _ [2,3,11,12,13] [2,3] [990,8])) ⟨0,by omega,by simp[mRowsS,mTableS]⟩ ?_
 rintro E1 ⟨i,hi,rfl⟩
 simp[mRowsS,mTableS]
 refine ⟨fun h=>⟨h,.of (l03Copy_ok _ (h4 _ (getD_mem dRows h)).1 (h4 _ (getD_mem dRows h)).2) ?_⟩,fun h=> ?_⟩
 ·simp[mRowS]
  refine ⟨by omega,.of _ ((Gh.kb _ [2,3,11,12,13] [2,3] [24,8]).trans (Gh.rn _ 24 990)) ⟨i+1,by omega, ?_⟩ ?_⟩
  ·rw[take_rowM dRows h]
   simp[wrapS (show i<9223372036854775807 by omega),mRowsS,mTableS,eRows]
  ·simp[wrapS (show i<9223372036854775807 by omega)];omega
 ·have:i=d.fData.length:=by omega
  subst this
  rw[←List.map_take,List.take_length]
def stAll (t:GTable) (l:List GRow) (s:GStmt):List GRow×Int:=if s.fKind=5 then rowsDdl t l s.fDdl else stRows t l s
end Go.Proofs.YteeolohhmfjafaaGreat
namespace Go.Proofs.YteeolohhmfjafaaGreat
open Go Go.Proofs Go.Sm
attribute [local simp] ti eStr eInt eByte eVal vVal eValS vValS eRow cRow vRow eCol vCol vColS vStrS eDdl cDdl vDdl eStmt cStmt vStmt ePart vPart vPartS eBatch vBatch eTable cTable vTable vTableS cCat vCat vRowS eRows vRows vRowsS cDb vDb eRec vRec vRecS eTail cTail vTail vBatchS vStmtS
set_option linter.unusedVariables false
set_option linter.unusedSimpArgs false
set_option maxRecDepth 8000
def vch (d:GDdl) (k:Nat) (l:List GVal):List GVal:=if d.fKind=4 then l.eraseIdx k else l
theorem vch_len (d:GDdl) (k:Nat) (l:List GVal):(vch d k l).length≤l.length:=by
 unfold vch
 split
 ·exact (List.eraseIdx_sublist ..).length_le
 ·exact Nat.le_refl _
theorem vch_succ (d:GDdl) (k:Nat) {l:List GVal} {j:Nat} (h:j<l.length):vch d k (l.take (j+1))=if d.fKind=4∧(j:Int)=k then vch d k (l.take j) else vch d k (l.take j)++ [l[j]?.getD dVal]:=by
 unfold vch
 by_cases k4:d.fKind=4
 ·simp only[k4,if_true,true_and]
  exact erTo dVal h
 ·simp only[k4,if_false,false_and]
  exact take_row dVal h
theorem rowsDdlS_ok (t:GTable) (l:List GRow) (d:GDdl) (ht:okTable t) (hk:t.fKeys.length≤1048576) (hl:okRowS l) (hd:okDdl d) (h1:d.fCols.length≤1048576) (h2:d.fKeys.length≤1048576):VC Tryz.prog 293 [vTable t,vRowS l,vDdl d] [(false,fRowS (rowsDdl t l d).1),(false,[(.s,.sc (.int .i64 (rowsDdl t l d).2))])]:=by
 refine vc_of_ewF good hm [0,1,2,3,5,6,7,37,9,47,10,11,54,55,56,57,13,14,62,63,64,65,16,15,76,86,99] Tryz.func293 rfl (by kernel_rfl) (by kernel_rfl) rfl ?_
 simp[Tryz.f293,fRowS]
 refine .of (rowsOkS_ok t l ht hl hk) ?_
 simp
 refine .of (fun g=>⟨g,ddlOkS_ok d hd⟩) ?_
 simp
 have hE:rowsDdl t l d=if rowsOk t l=false∨ddlOk d=false∨(d.fTable.toList==t.fName.toList)=false∨d.fKind=1 then ([],1) else if ddlCode ⟨[t]⟩ d≠0 then ([],ddlCode ⟨[t]⟩ d) else (if d.fKind=2 then [] else l.map (rowCh t d),0):=rfl
 refine ⟨fun h=>by rw[hE,if_pos (by simp only[beq_eq_false_iff_ne];grind)];simp,fun h3 h4 h5 k1=> ?_⟩
 rw[if_neg (by simp[h3,h4,h5,k1])] at hE
 have hn:d.fTable=t.fName:=tl_inj h5
 obtain ⟨g2,g3,g4,g5,g6⟩:=rowsOk_inv h3
 have htl:=tableOk_len g2
 have hoc:okCat ⟨[t]⟩:=⟨⟨by simp[okM],by simpa using ht⟩,trivial⟩
 have hcok:catOk ⟨[t]⟩=true:=(catOk_iff ⟨[t]⟩).2 ⟨by simpa using g2,by simp,by simp[tabPw]⟩
 have hD2:(ddlApply ⟨[t]⟩ d).2=ddlCode ⟨[t]⟩ d:=by
  unfold ddlApply
  rw[if_neg (by simp[hcok,h4])]
  split
  ·rfl
  ·rename_i h
   exact (Classical.not_not.1 h).symm
 have hda:=(ddlApplyS_ok ⟨[t]⟩ d hoc hd h1 h2).dim
 rw[hD2] at hda
 refine .of hda ?_
 simp[fCat]
 refine ⟨fun h=>by rw[hE,if_pos h];simp,fun h6=> ?_⟩
 rw[if_neg (by simp[h6])] at hE
 rw[hE]
 rw[ddlCode_one k1 hn] at h6
 obtain ⟨k,hk'⟩: ∃k:Int,colAt t d.fName=k:=⟨_,rfl⟩
 have hkn:d.fKind=4→ ∃n:Nat,k=n:=fun k4=>by
  have h:=colAt_nn.2 ((tabCode_0 h6).2.2 k4).1
  rw[hk'] at h
  exact ⟨_,(Int.toNat_of_nonneg h).symm⟩
 have hca:=colAtS_ok t d.fName ht.2.1.1
 rw[hk'] at hca
 refine .of hca ?_
 simp
 refine ew_loop (fun E=> ∃i:Nat,i≤l.length∧E= {nt:=106,sl:= [(5,.p (.bx 5 0)),(10,.v false [.r [49]]),(11,int .i64 k),(54,vRowS l),(55,int .i64 l.length),(56,int .i64 i)],bx:= [(5,cDdl d)],rt:=(mRowS (if d.fKind=2 then [] else (l.take i).map (rowCh t d))).map fun y=>(49,y)}) (fun E=>l.length- (E.num 56).toNat) _ (Gh.kb _ [5,10,11,54,55,56] [5] [49]) ⟨0,by omega,by simp[mRowS]⟩ ?_
 rintro E1 ⟨i,hi,rfl⟩
 simp[mRowS]
 refine ⟨fun h=>⟨h, ?_⟩,fun h=> ?_⟩
 ·have hrl:=rowFit_len (g4 _ (getD_mem dRow h))
  generalize hr:l[i]?.getD dRow=r at hrl
  refine ew_loop (fun E=> ∃j:Nat,j≤r.fVals.length∧E= {nt:=106,sl:= [(5,.p (.bx 5 0)),(10,.v false [.r [49]]),(11,int .i64 k),(54,vRowS l),(55,int .i64 l.length),(56,int .i64 i),(14,.p (.bx 14 0)),(62,vValS r.fVals),(63,int .i64 r.fVals.length),(64,int .i64 j)],bx:= [(5,cDdl d),(14,[.r [990]])],rt:=((mValS (vch d k.toNat (r.fVals.take j))).map fun y=>(990,y))++((mRowS (if d.fKind=2 then [] else (l.take i).map (rowCh t d))).map fun y=>(49,y))}) (fun E=>r.fVals.length- (E.num 64).toNat) _ ((Gh.nlB _ 14 0 990 234 (fun _=> [.s,.s,.s]) [Lf.sc (Value.int IntKind.i64 0),Lf.sc (Value.int IntKind.i64 0),Lf.sc (Value.string ⟨#[]⟩)]).trans (Gh.kb _ [5,10,11,54,55,56,14,62,63,64] [5,14] [990,49])) ⟨0,by omega,by simp[mRowS,mValS,vch]⟩ ?_
  rintro E2 ⟨j,hj,rfl⟩
  have hvl:=vch_len d k.toNat (r.fVals.take j)
  have hvs:=fun h=>vch_succ d k.toNat (l:=r.fVals) (j:=j) h
  rw[List.length_take] at hvl
  simp[mRowS,mValS]
  have hdr:(l.map (rowCh t d)).take (i+1)=(l.map (rowCh t d)).take i++ [rowCh t d r]:=by rw[take_rowM dRow h,hr]
  have hk4:d.fKind=4→((j:Int)=k.toNat↔ (j:Int)=k):=fun k4=>by
   obtain ⟨n,hn2⟩:=hkn k4
   rw[hn2,Int.toNat_natCast]
  refine ⟨fun hj2=>⟨hj2,fun q=>⟨by omega,.of _ ((Gh.kb _ [5,10,11,54,55,56,14,62,63,64] [5,14] [81,49]).trans (Gh.rn _ 81 990)) ⟨j+1,by omega, ?_⟩ ?_⟩,fun k4 q=> .of _ (Gh.kb _ [5,10,11,54,55,56,14,62,63,64] [5,14] [990,49]) ⟨j+1,by omega, ?_⟩ ?_⟩,fun hj2=> ?_⟩
  ·have hv:vch d k.toNat (r.fVals.take (j+1))=vch d k.toNat (r.fVals.take j)++ [r.fVals[j]?.getD dVal]:=by
    rw[hvs hj2,if_neg (fun g=>q.elim (fun q=>q g.1) (fun q=>q ((hk4 g.1).1 g.2)))]
   rw[hv]
   simp[wrapS (show j<9223372036854775807 by omega),mRowS,mValS,eVal]
  ·simp[wrapS (show j<9223372036854775807 by omega)];omega
  ·have hv:vch d k.toNat (r.fVals.take (j+1))=vch d k.toNat (r.fVals.take j):=by
    rw[hvs hj2,if_pos ⟨k4,(hk4 k4).2 q⟩]
   rw[hv]
   simp[wrapS (show j<9223372036854775807 by omega),mRowS,mValS]
  ·simp[wrapS (show j<9223372036854775807 by omega)];omega
  ·have:j=r.fVals.length:=by omega
   subst this
   rw[List.take_length] at hvl⊢
   refine ⟨fun k3=>⟨by have:=(ddlOk_3 h4 k3).1;omega,by omega,fun k2=>⟨by rw[if_neg k2];simp;omega,.of _ ((Gh.kb _ [5,10,11,54,55,56] [5] [103]).trans (Gh.rn _ 103 49)) ⟨i+1,by omega, ?_⟩ ?_⟩,fun k2=>by rw[k3] at k2;exact absurd k2 (by decide)⟩,fun k3=>⟨fun k2=>⟨by rw[if_neg k2];simp;omega,.of _ ((Gh.kb _ [5,10,11,54,55,56] [5] [103]).trans (Gh.rn _ 103 49)) ⟨i+1,by omega, ?_⟩ ?_⟩,fun k2=> .of _ (Gh.kb _ [5,10,11,54,55,56] [5] [49]) ⟨i+1,by omega, ?_⟩ ?_⟩⟩
   ·rw[hdr]
    have hrc:rowCh t d r=⟨r.fVals++ [(col0 d).fDef]⟩:=by simp[rowCh,k3]
    simp[wrapS (show i<9223372036854775807 by omega),mRowS,k2,hrc,vch,k3,eRow,eVal,col0]
   ·simp[wrapS (show i<9223372036854775807 by omega)];omega
   ·rw[hdr]
    have hrc:rowCh t d r=⟨vch d k.toNat r.fVals⟩:=by
     unfold rowCh vch
     rw[if_neg k3,hk']
     split<;>rfl
    simp[wrapS (show i<9223372036854775807 by omega),mRowS,k2,hrc,eRow]
   ·simp[wrapS (show i<9223372036854775807 by omega)];omega
   ·simp[wrapS (show i<9223372036854775807 by omega),mRowS,k2]
   ·simp[wrapS (show i<9223372036854775807 by omega)];omega
 ·have:i=l.length:=by omega
  subst this
  rw[←List.map_take,List.take_length]
end Go.Proofs.YteeolohhmfjafaaGreat
