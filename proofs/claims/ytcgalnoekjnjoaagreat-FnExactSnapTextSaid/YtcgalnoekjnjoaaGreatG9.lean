import Derived.Test.YtcgalnoekjnjoaaGreatG5
import Derived.Test.YtcgalnoekjnjoaaGreatG4
import Derived.Test.YtcgalnoekjnjoaaGreatG8
import Derived.Test.YtcgalnoekjnjoaaGreatG6
import Derived.Test.YtcgalnoekjnjoaaGreatG7
set_option maxHeartbeats 8000000
set_option maxRecDepth 8000
namespace Go.Proofs.YtcgalnoekjnjoaaGreat
open Go Go.Proofs Go.Sm
attribute [local simp] ti eStr eInt eByte eVal cVal vVal eValS vValS eRow cRow vRow eCol vCol vColS eStrS vStrS cDdl vDdl vStmt ePart vPart eTable cTable vTable vTableS cCat vCat vRowS eRows vRows vRowsS eDb cDb vDb eSnap vSnap
set_option linter.unusedVariables false
set_option linter.unusedSimpArgs false
set_option maxRecDepth 8000
@[simp] theorem row_Ints (l:List Int) (i:Nat):(Option.map eInt l[i]?).getD [.sc (.int .i64 0)]=eInt (l[i]?.getD 0):=by cases l[i]? <;>rfl
end Go.Proofs.YtcgalnoekjnjoaaGreat
namespace Go.Proofs.YtcgalnoekjnjoaaGreat
open Go Go.Proofs Go.Sm
attribute [local simp] ti eStr eInt eByte eVal cVal vVal eValS vValS eRow cRow vRow eCol vCol vColS eStrS vStrS cDdl vDdl vStmt ePart vPart eTable cTable vTable vTableS cCat vCat vRowS eRows vRows vRowsS eDb cDb vDb eSnap vSnap
set_option linter.unusedVariables false
set_option linter.unusedSimpArgs false
set_option maxRecDepth 8000
@[simp] theorem ow_Ints (l:List Int):Ow (Md.o 3 (fun _=> [Md.s])) (.ls [Lf.sc (Value.int IntKind.i64 0)] (l.map eInt))=True:=eq_true (Ow_rows (fun x j hj=>match j,hj with|0,_=> .sc|n+1,hj=>absurd hj (by simp)) l)
@[simp] theorem full_Ints (l:List Int):Full (Md.o 3 (fun _=> [Md.s])) (.ls [Lf.sc (Value.int IntKind.i64 0)] (l.map eInt))=True:=eq_true (Full_rows (fun x j hj=>match j,hj with|0,_=> .s|n+1,hj=>absurd hj (by simp)) l)
theorem dbOk_nil:dbOk ⟨⟨[]⟩,[]⟩=true:=by decide
end Go.Proofs.YtcgalnoekjnjoaaGreat
namespace Go.Proofs.YtcgalnoekjnjoaaGreat
open Go Go.Proofs Go.Sm
attribute [local simp] ti eStr eInt eByte eVal cVal vVal eValS vValS eRow cRow vRow eCol vCol vColS eStrS vStrS cDdl vDdl vStmt ePart vPart eTable cTable vTable vTableS cCat vCat vRowS eRows vRows vRowsS eDb cDb vDb eSnap vSnap
set_option linter.unusedVariables false
set_option linter.unusedSimpArgs false
set_option maxRecDepth 8000
theorem I_Project_ok (d l:GDb) (o0:okDb d) (h0: ∀n∈wDb d,n≤1048576) (_:(wDb d).sum≤1048576) (o1:okDb l) (h1: ∀n∈wDb l,n≤1048576) (_:(wDb l).sum≤1048576):VC Tryz.prog 28 [vDb d,vDb l] [(true,mDb ((project d l).getD dDb)),(false,[(.s,.sc (.bool (project d l).isSome))])]:=projectI_ok d l o0 (dbKey h0) o1 (dbKey h1)
theorem S_Project_ok (d l:GDb) (o0:okDb d) (h0: ∀n∈wDb d,n≤1048576) (_:(wDb d).sum≤1048576) (o1:okDb l) (h1: ∀n∈wDb l,n≤1048576) (_:(wDb l).sum≤1048576):VC Tryz.prog 26 [vDb d,vDb l] [(true,fDb ((project d l).getD dDb)),(false,[(.s,.sc (.bool (project d l).isSome))])]:=by
 rw[project_eq]
 exact projectS_ok d l o0 (dbKey h0) o1 (dbKey h1)
theorem Project_r0 (d l:GDb) (o0:okDb d) (h0: ∀n∈wDb d,n≤1048576) (_:(wDb d).sum≤1048576) (o1:okDb l) (h1: ∀n∈wDb l,n≤1048576) (_:(wDb l).sum≤1048576):(∀n∈wDb ((project d l).getD dDb),n≤1048576)∧(wDb ((project d l).getD dDb)).sum≤1099511627776:=by
 cases h:project d l with
 |none=>exact db_r0 dbOk_nil
 |some r=>exact db_r0 (project_ok h)
end Go.Proofs.YtcgalnoekjnjoaaGreat
namespace Go.Proofs.YtcgalnoekjnjoaaGreat
open Go Go.Proofs Go.Sm
attribute [local simp] ti eStr eInt eByte eVal cVal vVal eValS vValS eRow cRow vRow eCol vCol vColS eStrS vStrS cDdl vDdl vStmt ePart vPart eTable cTable vTable vTableS cCat vCat vRowS eRows vRows vRowsS eDb cDb vDb eSnap vSnap
set_option linter.unusedVariables false
set_option linter.unusedSimpArgs false
def ofT (l:List UInt8):ByteArray:=⟨l.toArray⟩
def tx (s:ByteArray):List UInt8:=s.data.toList
theorem ofT_tx (s:ByteArray):ofT (tx s)=s:=by simp[ofT,tx]
@[simp] theorem tx_ofT (l:List UInt8):tx (ofT l)=l:=by simp[ofT,tx]
@[simp] theorem tx_mk (a:Array UInt8):tx ⟨a⟩=a.toList:=rfl
@[simp] theorem tx_app (a b:ByteArray):tx (a++b)=tx a++tx b:=by simp[tx]
theorem tx_ext {a b:ByteArray} (h:tx a=tx b):a=b:=by rw[←ofT_tx a,h,ofT_tx]
@[simp] theorem ofT_size (l:List UInt8):(ofT l).size=l.length:=List.size_toArray ..
theorem tx_len (s:ByteArray):(tx s).length=s.size:=Array.length_toList
def digs (n:Nat):List UInt8:=if n<10 then [UInt8.ofNat (48+n)] else digs (n/10)++ [UInt8.ofNat (48+n%10)]
termination_by n
decreasing_by omega
theorem digs_lt {n:Nat} (h:n<10):digs n= [UInt8.ofNat (48+n)]:=by rw[digs,if_pos h]
theorem digs_ge {n:Nat} (h:10≤n):digs n=digs (n/10)++ [UInt8.ofNat (48+n%10)]:=by rw[digs,if_neg (by omega)]
theorem digs_len (n:Nat):(digs n).length≤n+1:=by
 induction n using Nat.strongRecOn with
 |_ n ih=>
  by_cases h:n<10
  ·rw[digs_lt h];simp
  ·rw[digs_ge (by omega)]
   have:=ih (n/10) (by omega)
   simp
   omega
def inN (n:Int):Bool:=within n (-1099511627775) 1099511627775
def numT (n:Int):List UInt8:=if inN n=true then (if n<0 then 45::digs n.natAbs else digs n.natAbs) else []
theorem wrapD {n:Nat} (h:n<10):IntKind.u8.wrap (IntKind.i64.wrap (48+(n:Int)))=((UInt8.ofNat (48+n)).toNat:Int):=by
 rw[wrapI (by omega) (by omega),show (48:Int)+(n:Int)=((48+n:Nat):Int) by omega,wrapU8]
theorem tmod10 (n:Nat):(n:Int).tmod 10=((n%10:Nat):Int):=by
 rw[show (10:Int)=((10:Nat):Int) from rfl,←Int.ofNat_tmod]
theorem wrapM (n:Nat):IntKind.u8.wrap (IntKind.i64.wrap (48+(n:Int).tmod 10))=((UInt8.ofNat (48+n%10)).toNat:Int):=by
 rw[tmod10,wrapD (by omega)]
theorem numTextS_pos: ∀ (n:Nat),n≤1099511627775→VC Tryz.prog 94 [int .i64 n] [(false,[(.s,.sc (.string (ofT (digs n))))])]:=by
 intro n
 induction n using Nat.strongRecOn with
 |_ n ih=>
 intro hn
 refine vc_of_ew good hm [0,2,5,7,13] Tryz.func94 rfl (by kernel_rfl) (by kernel_rfl) rfl ?_
 simp[Tryz.f94]
 refine .of (l01Num_ok _) ?_
 have hin:within (n:Int) (-1099511627775) 1099511627775=true:=by simp[within];omega
 simp[hin]
 have hq:IntKind.i64.wrap ((n:Int)/10)=((n/10:Nat):Int):=by rw[wrapI (by omega) (by omega)];omega
 refine ⟨fun h=>by omega,fun h=> ?_,fun h=> ?_⟩
 ·have h':n<10:=by omega
  rw[wrapD h',digs_lt h']
  refine ⟨⟨fun _=>rfl,isByteRow_l _⟩, ?_⟩
  rw[rowByte_l]
  rfl
 ·rw[hq]
  refine .of (ih (n/10) (by omega) (by omega)) ?_
  rw[digs_ge (by omega)]
  simp
  have hl:=digs_len (n/10)
  rw[wrapM]
  refine ⟨⟨fun _=>rfl,isByteRow_l _⟩, ?_, ?_⟩
  ·show _+1≤_
   omega
  ·rw[rowByte_l]
   exact tx_ext (by simp[UInt8.ofNat_add])
theorem within_no {n:Int} (h:inN n=false):numT n= []:=by simp[numT,h]
theorem numTextS_ok (n:Int):VC Tryz.prog 94 [int .i64 n] [(false,[(.s,.sc (.string (ofT (numT n))))])]:=by
 by_cases hp:0≤n∧n≤1099511627775
 ·obtain ⟨k,rfl⟩:=Int.eq_ofNat_of_zero_le hp.1
  have h1:inN (k:Int)=true:=by simp[inN,within];omega
  have:=numTextS_pos k (by omega)
  simpa [numT,h1,show¬((k:Int)<0) by omega] using this
 refine vc_of_ew good hm [0,2,5,7,13] Tryz.func94 rfl (by kernel_rfl) (by kernel_rfl) rfl ?_
 simp[Tryz.f94]
 refine .of (l01Num_ok _) ?_
 simp
 refine ⟨fun h=>by rw[within_no h];rfl,fun h=> ?_⟩
 have hr: -1099511627775≤n∧n≤1099511627775:=by simpa [within] using h
 refine ⟨fun hneg=> ?_,fun h0=>absurd ⟨h0,hr.2⟩ hp⟩
 rw[show IntKind.i64.wrap (-n)=((n.natAbs:Nat):Int) by rw[wrapI (by omega) (by omega)];omega]
 refine .of (numTextS_pos n.natAbs (by omega)) ?_
 simp
 have hl:=digs_len n.natAbs
 refine ⟨by show 1+_≤_;omega, ?_⟩
 exact tx_ext (by simp[numT,inN,h,hneg])
theorem numTextI_pos (n0:Nat) (hn:n0≤1099511627775):VC Tryz.prog 98 [int .i64 n0] [(false,[(.s,.sc (.string (ofT (digs n0))))])]:=by
 refine vc_of_ew good hm [0,2,6,8,3,14] Tryz.func98 rfl (by kernel_rfl) (by kernel_rfl) rfl ?_
 simp[Tryz.f98]
 have hin:within (n0:Int) (-1099511627775) 1099511627775=true:=by simp[within];omega
 refine .of (within_ok _ _ _) ?_
 simp[hin]
 refine ⟨fun h=>absurd h (by omega), ?_⟩
 refine ew_loop (fun E=> ∃ (n:Nat) (s:List UInt8),n≤n0∧digs n++s=digs n0∧E= {nt:=32,sl:= [(0,int .i64 n),(3,str (ofT s))],bx:= [],rt:= []}) (fun E=>(E.num 0).toNat) _ (Gh.kb _ [0,3] [] []) ⟨n0,[],by omega,by simp, ?_⟩ ?_
 ·simp[ofT]
 rintro E1 ⟨n,s,hi,hall,rfl⟩
 simp
 have hs:s.length≤n0+1:=by
  have h1:=congrArg List.length hall
  have:=digs_len n0
  simp at h1
  omega
 have hq:IntKind.i64.wrap ((n:Int)/10)=((n/10:Nat):Int):=by rw[wrapI (by omega) (by omega)];omega
 rw[wrapM,hq]
 refine ⟨fun h=>⟨⟨fun _=>rfl,isByteRow_l _⟩, ?_,.of _ (Gh.kb _ [0,3] [] []) ⟨n/10,by omega,UInt8.ofNat (48+n%10)::s, ?_, ?_⟩ ?_⟩,fun h=> ?_⟩
 ·show 1+_≤_
  omega
 ·rw[←hall,digs_ge (n:=n) (by omega)]
  simp
 ·rw[rowByte_l]
  simp
  exact tx_ext (by simp[UInt8.ofNat_add])
 ·simp
  omega
 ·rw[wrapD (by omega)]
  refine ⟨⟨fun _=>rfl,isByteRow_l _⟩, ?_, ?_⟩
  ·show 1+_≤_
   omega
  ·rw[rowByte_l,←hall,digs_lt (n:=n) (by omega)]
   exact tx_ext (by simp)
theorem numTextI_ok (n:Int):VC Tryz.prog 98 [int .i64 n] [(false,[(.s,.sc (.string (ofT (numT n))))])]:=by
 by_cases hp:0≤n∧n≤1099511627775
 ·obtain ⟨k,rfl⟩:=Int.eq_ofNat_of_zero_le hp.1
  have h1:inN (k:Int)=true:=by simp[inN,within];omega
  have:=numTextI_pos k (by omega)
  simpa [numT,h1,show¬((k:Int)<0) by omega] using this
 refine vc_of_ew good hm [0,2,6,8,3,14] Tryz.func98 rfl (by kernel_rfl) (by kernel_rfl) rfl ?_
 simp[Tryz.f98]
 refine .of (within_ok _ _ _) ?_
 simp
 refine ⟨fun h=>by rw[within_no h];rfl,fun h=> ?_⟩
 have hr: -1099511627775≤n∧n≤1099511627775:=by simpa [within] using h
 have hneg:n<0:=by omega
 refine ⟨fun _=> ?_,fun h0=>by omega⟩
 rw[show IntKind.i64.wrap (-n)=((n.natAbs:Nat):Int) by rw[wrapI (by omega) (by omega)];omega]
 refine .of (numTextI_pos n.natAbs (by omega)) ?_
 simp
 have hl:=digs_len n.natAbs
 refine ⟨by show 1+_≤_;omega, ?_⟩
 exact tx_ext (by simp[numT,inN,h,hneg])
end Go.Proofs.YtcgalnoekjnjoaaGreat
namespace Go.Proofs.YtcgalnoekjnjoaaGreat
open Go Go.Proofs Go.Sm
attribute [local simp] ti eStr eInt eByte eVal cVal vVal eValS vValS eRow cRow vRow eCol vCol vColS eStrS vStrS cDdl vDdl vStmt ePart vPart eTable cTable vTable vTableS cCat vCat vRowS eRows vRows vRowsS eDb cDb vDb eSnap vSnap
set_option linter.unusedVariables false
set_option linter.unusedSimpArgs false
def hexT:ByteArray:=⟨#[48,49,50,51,52,53,54,55,56,57,97,98,99,100,101,102]⟩
def hexB (k:Nat):UInt8:=hexT.data.getD k 0
def plainB (b:UInt8):Bool:=decide (33≤b.toNat)&&decide (b.toNat≤126)&& !decide (b.toNat=39)&& !decide (b.toNat=37)
def escB (b:UInt8):List UInt8:=if plainB b=true then [b] else [37,hexB (b.toNat/16),hexB (b.toNat%16)]
def escT (l:List UInt8):List UInt8:=l.flatMap escB
def boolT (n:Int):List UInt8:=if n=1 then [116,114,117,101] else [102,97,108,115,101]
def valT (v:GVal):List UInt8:=if valOk v=false then [] else if v.fTy=0 then [110,117,108,108] else if v.fTy=1 then boolT v.fN else if v.fTy=2 then numT v.fN else 39::(escT (tx v.fS)++ [39])
theorem boolTextI_ok (n:Int):VC Tryz.prog 369 [int .i64 n] [(false,[(.s,.sc (.string (ofT (boolT n))))])]:=by
 refine vc_of_ew good hm [0,2,4] Tryz.func369 rfl (by kernel_rfl) (by kernel_rfl) rfl ?_
 simp[Tryz.f369]
 refine ⟨fun h=>by simp[boolT,h,ofT],fun h=>by simp[boolT,h,ofT]⟩
theorem boolTextS_ok (n:Int):VC Tryz.prog 367 [int .i64 n] [(false,[(.s,.sc (.string (ofT (boolT n))))])]:=by
 refine vc_of_ew good hm [0,2,4] Tryz.func367 rfl (by kernel_rfl) (by kernel_rfl) rfl ?_
 simp[Tryz.f367]
 refine ⟨fun h=>by simp[boolT,h,ofT],fun h=>by simp[boolT,h,ofT]⟩
theorem l01Hex_ok (d:Nat) (hd:d<16):VC Tryz.prog 368 [int .i64 d] [(false,[(.s,.sc (.int .u8 ((hexB d).toNat:Int)))])]:=by
 refine vc_of_ew good hm [0,2] Tryz.func368 rfl (by kernel_rfl) (by kernel_rfl) rfl ?_
 simp[Tryz.f368]
 have hm:(d:Int).tmod 16=(d:Int):=by rw[show (16:Int)=((16:Nat):Int) from rfl,←Int.ofNat_tmod,Nat.mod_eq_of_lt hd]
 rw[hm]
 refine ⟨⟨by omega, ?_⟩, ?_⟩
 ·show (d:Int)<16
  omega
 ·simp[hexB,hexT]
theorem escB_len (b:UInt8):(escB b).length≤3:=by unfold escB;split<;>simp
theorem escT_len (l:List UInt8):(escT l).length≤l.length*3:=by
 induction l with
 |nil=>simp[escT]
 |cons b l ih=>
  have:=escB_len b
  simp only[escT,List.flatMap_cons,List.length_append,List.length_cons] at ih⊢
  omega
theorem escT_succ {l:List UInt8} {i:Nat} (h:i<l.length):escT (l.take (i+1))=escT (l.take i)++escB l[i]:=by
 unfold escT
 rw[List.take_succ_eq_append_getElem h,List.flatMap_append]
 simp only[List.flatMap_cons,List.flatMap_nil,List.append_nil]
theorem escT_at {s:ByteArray} {i:Nat} (h:i<s.size):escT ((tx s).take (i+1))=escT ((tx s).take i)++escB (s.data[i]?.getD 0):=by
 have h':i< (tx s).length:=by rw[tx_len];exact h
 have h2:i<s.data.size:=h
 rw[escT_succ h',Array.getElem?_eq_getElem h2,Option.getD_some]
 rfl
theorem byte39:isByteRow [.sc (.int .u8 39)]:=⟨39,rfl⟩
theorem rb39:rowByte [.sc (.int .u8 39)]=39:=rowByte_l 39
theorem u8div (b:UInt8):IntKind.i64.wrap ((IntKind.i64.wrap (b.toNat:Int)).tdiv 16)=((b.toNat/16:Nat):Int):=by
 have hb:=b.toNat_lt
 rw[wrapI (i:=(b.toNat:Int)) (by omega) (by omega),show (16:Int)=((16:Nat):Int) from rfl,←Int.ofNat_tdiv,wrapI (by omega) (by omega)]
theorem u8mod (b:UInt8):(IntKind.i64.wrap (b.toNat:Int)).tmod 16=((b.toNat%16:Nat):Int):=by
 have hb:=b.toNat_lt
 rw[wrapI (i:=(b.toNat:Int)) (by omega) (by omega),show (16:Int)=((16:Nat):Int) from rfl,←Int.ofNat_tmod]
theorem u8shr (b:UInt8):(b.toNat:Int).fdiv (2^min 4 IntKind.u8.bits)=((b.toNat/16:Nat):Int):=by
 have h:((2:Int)^min 4 IntKind.u8.bits)=16:=by decide
 rw[h,Int.fdiv_eq_ediv_of_nonneg _ (by omega)]
 omega
theorem u8and (b:UInt8):IntKind.u8.wrap ((b.toNat%2^IntKind.u8.bits&&&15%2^IntKind.u8.bits:Nat):Int)=((b.toNat%16:Nat):Int):=by
 have hb:=b.toNat_lt
 have h:(2:Nat)^IntKind.u8.bits=256:=by decide
 rw[h,Nat.mod_eq_of_lt (show b.toNat<256 by omega),show 15%256=2^4-1 by decide,Nat.and_two_pow_sub_one_eq_mod,wrapU8]
 simp
 omega
theorem hexI (k:Nat):([48,49,50,51,52,53,54,55,56,57,97,98,99,100,101,102]:List UInt8)[k]?.getD 0=hexB k:=by simp[hexB,hexT]
theorem plainB_iff (b:UInt8):plainB b=true↔33≤b.toNat∧b.toNat≤126∧b.toNat≠39∧b.toNat≠37:=by
 simp[plainB,and_assoc]
theorem valT_text {v:GVal} (h:valOk v=true) (h0: ¬v.fTy=0) (h1: ¬v.fTy=1) (h2: ¬v.fTy=2):ofT (valT v)=⟨(39::(escT (tx v.fS)++ [39])).toArray⟩:=by
 simp only[valT,h,h0,h1,h2,if_false,Bool.true_eq_false]
 rfl
theorem valTextS_ok (v:GVal):VC Tryz.prog 341 [vVal v] [(false,[(.s,.sc (.string (ofT (valT v))))])]:=by
 refine vc_of_ew good hm [0,1,2,8,10,11,13,18,3,4,28,5,48] Tryz.func341 rfl (by kernel_rfl) (by kernel_rfl) rfl ?_
 simp[Tryz.f341]
 refine .of (valOkS_ok v) ?_
 simp
 refine ⟨fun h=>by simp[valT,h,ofT],fun h=>⟨fun h0=>by simp[valT,h,h0,ofT],fun h0=>⟨fun h1=> ?_,fun h1=>⟨fun h2=> ?_,fun h2=> ?_⟩⟩⟩⟩
 ·refine .of (boolTextS_ok _) ?_
  simp[valT,h,h0,h1]
 ·refine .of (numTextS_ok _) ?_
  simp[valT,h,h0,h1,h2]
 have hv:=h
 have hsz:v.fS.size≤30:=by
  simp[valOk,h0,h1,h2] at hv
  omega
 replace hv:=h
 refine ew_loop (fun E=> ∃i:Nat,i≤v.fS.size∧E= {nt:=68,sl:= [(1,.p (.bx 1 0)),(3,.v false [.r [23]]),(4,int .i64 i)],bx:= [(1,cVal v)],rt:= [(23,.o 5 (fun _=> [.s]),.ls [.sc (.int .u8 0)] ((39::escT ((tx v.fS).take i)).map eByte))]}) (fun E=>v.fS.size- (E.num 4).toNat) _ (Gh.kb _ [1,3,4] [1] [23]) ⟨0,by omega,by simp[escT]⟩ ?_
 rintro E1 ⟨i,hi,rfl⟩
 simp
 have hel:=escT_len ((tx v.fS).take i)
 rw[List.length_take] at hel
 obtain ⟨b,hb⟩: ∃b,v.fS.data[i]?.getD 0=b:=⟨_,rfl⟩
 rw[hb]
 refine ⟨fun h=>⟨h,fun p1 p2 p3 p4=>⟨by omega,.of _ ((Gh.kb _ [1,3,4] [1] [52]).trans (Gh.rn _ 52 23)) ⟨i+1,by omega, ?_⟩ ?_⟩,fun hp=> ?_⟩,fun h=> ?_⟩
 ·rw[escT_at h,hb,escB,if_pos ((plainB_iff b).2 (by omega))]
  simp[wrapS (show i<9223372036854775807 by omega),eByte]
 ·simp[wrapS (show i<9223372036854775807 by omega)];omega
 ·have hb8:=b.toNat_lt
  rw[u8div]
  refine .of (l01Hex_ok (b.toNat/16) (by omega)) ?_
  simp
  rw[u8mod]
  refine .of (l01Hex_ok (b.toNat%16) (by omega)) ?_
  simp
  refine ⟨by omega,.of _ ((Gh.kb _ [1,3,4] [1] [63]).trans (Gh.rn _ 63 23)) ⟨i+1,by omega, ?_⟩ ?_⟩
  ·rw[escT_at h,hb,escB,if_neg (fun hc=>by have:=(plainB_iff b).1 hc;omega)]
   simp[wrapS (show i<9223372036854775807 by omega),eByte]
  ·simp[wrapS (show i<9223372036854775807 by omega)];omega
 ·have hi':i=v.fS.size:=by omega
  subst hi'
  refine ⟨by omega,⟨fun _=>rfl,byte39,fun a ha=> ?_⟩, ?_⟩
  ·rcases ha with ⟨x,_,rfl⟩|rfl
   ·exact isByteRow_l x
   ·exact byte39
  ·rw[valT_text hv h0 h1 h2,rb39,List.take_of_length_le (by rw[tx_len];omega)]
   simp[Function.comp_def]
theorem valTextI_ok (v:GVal):VC Tryz.prog 343 [vVal v] [(false,[(.s,.sc (.string (ofT (valT v))))])]:=by
 refine vc_of_ew good hm [0,1,2,6,10,14,21,3,4,33,5,50] Tryz.func343 rfl (by kernel_rfl) (by kernel_rfl) rfl ?_
 simp[Tryz.f343]
 refine .of (valOkI_ok v) ?_
 simp
 refine ⟨fun h=>by simp[valT,h,ofT],fun h=>⟨fun h0=>by simp[valT,h,h0,ofT],fun h0=>⟨fun h1=> ?_,fun h1=>⟨fun h2=> ?_,fun h2=> ?_⟩⟩⟩⟩
 ·refine .of (boolTextI_ok _) ?_
  simp[valT,h,h0,h1]
 ·refine .of (numTextI_ok _) ?_
  simp[valT,h,h0,h1,h2]
 have hv:=h
 have hsz:v.fS.size≤30:=by
  simp[valOk,h0,h1,h2] at hv
  omega
 replace hv:=h
 refine ew_loop (fun E=> ∃i:Nat,i≤v.fS.size∧E= {nt:=68,sl:= [(1,.p (.bx 1 0)),(3,.v false [.r [28]]),(4,int .i64 i)],bx:= [(1,cVal v)],rt:= [(28,.o 5 (fun _=> [.s]),.ls [.sc (.int .u8 0)] ((39::escT ((tx v.fS).take i)).map eByte))]}) (fun E=>v.fS.size- (E.num 4).toNat) _ (Gh.kb _ [1,3,4] [1] [28]) ⟨0,by omega,by simp[escT]⟩ ?_
 rintro E1 ⟨i,hi,rfl⟩
 simp
 have hel:=escT_len ((tx v.fS).take i)
 rw[List.length_take] at hel
 obtain ⟨b,hb⟩: ∃b,v.fS.data[i]?.getD 0=b:=⟨_,rfl⟩
 rw[hb]
 have hb8:=b.toNat_lt
 refine ⟨fun h=>⟨h, ?_⟩,fun h=> ?_⟩
 ·refine .of (within_ok _ _ _) ?_
  simp
  rw[u8shr,u8and,Int.toNat_natCast,Int.toNat_natCast,hexI,hexI]
  have hw:IntKind.i64.wrap (b.toNat:Int)=(b.toNat:Int):=wrapI (by omega) (by omega)
  have hp:within (IntKind.i64.wrap (b.toNat:Int)) 33 126=true↔33≤b.toNat∧b.toNat≤126:=by
   rw[hw];simp[within];omega
  have hS:({data:= #[48,49,50,51,52,53,54,55,56,57,97,98,99,100,101,102]}:ByteArray).size=16:=rfl
  rw[hS]
  refine ⟨fun p1 p2 p3=>⟨by omega,.of _ ((Gh.kb _ [1,3,4] [1] [54]).trans (Gh.rn _ 54 28)) ⟨i+1,by omega, ?_⟩ ?_⟩,fun hq=>⟨⟨by omega,by omega⟩,⟨by omega,by omega⟩,by omega,.of _ ((Gh.kb _ [1,3,4] [1] [63]).trans (Gh.rn _ 63 28)) ⟨i+1,by omega, ?_⟩ ?_⟩⟩
  ·have:=hp.1 p1
   rw[escT_at h,hb,escB,if_pos ((plainB_iff b).2 (by omega))]
   simp[wrapS (show i<9223372036854775807 by omega),eByte]
  ·simp[wrapS (show i<9223372036854775807 by omega)];omega
  ·rw[escT_at h,hb,escB,if_neg (fun hc=>by have h5:=(plainB_iff b).1 hc;have:=hq (hp.2 (by omega));omega)]
   simp[wrapS (show i<9223372036854775807 by omega),eByte]
  ·simp[wrapS (show i<9223372036854775807 by omega)];omega
 ·have hi':i=v.fS.size:=by omega
  subst hi'
  refine ⟨by omega,⟨fun _=>rfl,byte39,fun a ha=> ?_⟩, ?_⟩
  ·rcases ha with ⟨x,_,rfl⟩|rfl
   ·exact isByteRow_l x
   ·exact byte39
  ·rw[valT_text hv h0 h1 h2,rb39,List.take_of_length_le (by rw[tx_len];omega)]
   simp[Function.comp_def]
end Go.Proofs.YtcgalnoekjnjoaaGreat
namespace Go.Proofs.YtcgalnoekjnjoaaGreat
open Go Go.Proofs Go.Sm
attribute [local simp] ti eStr eInt eByte eVal cVal vVal eValS vValS eRow cRow vRow eCol vCol vColS eStrS vStrS cDdl vDdl vStmt ePart vPart eTable cTable vTable vTableS cCat vCat vRowS eRows vRows vRowsS eDb cDb vDb eSnap vSnap
set_option linter.unusedVariables false
set_option linter.unusedSimpArgs false
def joinT:List (List UInt8)→List UInt8
 | []=> []
 |w::r=>w++r.flatMap (fun x=>32::x)
theorem joinT_snoc (l:List (List UInt8)) (w:List UInt8):joinT (l++ [w])=(if l= [] then [] else joinT l++ [32])++w:=by
 cases l with
 |nil=>simp[joinT]
 |cons a r=>simp[joinT]
theorem joinT_pre (l r:List (List UInt8)):(joinT l).length≤(joinT (l++r)).length:=by
 cases l with
 |nil=>simp[joinT]
 |cons a l=>simp[joinT]
def wsT (l:List ByteArray):List UInt8:=joinT (l.map tx)
theorem wsT_snoc (l:List ByteArray) (w:ByteArray):wsT (l++ [w])=(if l= [] then [] else wsT l++ [32])++tx w:=by
 simp only[wsT,List.map_append,List.map_cons,List.map_nil,joinT_snoc,List.map_eq_nil_iff]
theorem wsT_take {l:List ByteArray} {i:Nat} (h:i<l.length):wsT (l.take (i+1))=(if i=0 then [] else wsT (l.take i)++ [32])++tx (l[i]?.getD ⟨#[]⟩):=by
 rw[List.take_succ_eq_append_getElem h,wsT_snoc,List.getElem?_eq_getElem h,Option.getD_some]
 congr 1
 by_cases h0:i=0
 ·subst h0;simp
 ·rw[if_neg h0,if_neg (fun e=>by
   rcases List.take_eq_nil_iff.1 e with e|e
   ·exact h0 e
   ·subst e;simp at h)]
theorem wsT_pre (l:List ByteArray) (i:Nat):(wsT (l.take i)).length≤(wsT l).length:=by
 have:=joinT_pre ((l.take i).map tx) ((l.drop i).map tx)
 rw[←List.map_append,List.take_append_drop] at this
 exact this
theorem gluedI_ok (l:List ByteArray) (hl:l.length≤1099511627776) (hs:(wsT l).length≤4611686018427387904):VC Tryz.prog 284 [vStrS l] [(false,[(.s,.sc (.string (ofT (wsT l))))])]:=by
 refine vc_of_ew good hm [0,2,3,6,7,8,9,4,5,14] Tryz.func284 rfl (by kernel_rfl) (by kernel_rfl) rfl ?_
 simp[Tryz.f284]
 refine ew_loop (fun E=> ∃i:Nat,i≤l.length∧E= {nt:=22,sl:= [(3,str (ofT (wsT (l.take i)))),(6,vStrS l),(7,int .i64 l.length),(8,int .i64 i)],bx:= [],rt:= []}) (fun E=>l.length- (E.num 8).toNat) _ (Gh.kb _ [3,6,7,8] [] []) ⟨0,by omega,by simp[wsT,joinT,ofT]⟩ ?_
 rintro E1 ⟨i,hi,rfl⟩
 simp
 have h1:=wsT_pre l i
 refine ⟨fun h=>⟨h,fun h0=> ?_,fun h0=> ?_⟩,fun h=> ?_⟩
 ·have hp:=wsT_pre l (i+1)
  rw[wsT_take h,if_neg (by omega)] at hp
  simp only[List.length_append,tx_len,List.length_cons,List.length_nil] at hp
  refine ⟨?_, ?_,.of _ (Gh.kb _ [3,6,7,8] [] []) ⟨i+1,by omega, ?_⟩ ?_⟩
  ·show _+1≤_
   omega
  ·show _+1+_≤_
   omega
  ·rw[wsT_take h,if_neg (by omega)]
   simp[wrapS (show i<9223372036854775807 by omega)]
   exact tx_ext (by simp)
  ·simp[wrapS (show i<9223372036854775807 by omega)];omega
 ·have hp:=wsT_pre l (i+1)
  rw[wsT_take h,if_pos h0] at hp
  simp only[List.length_append,tx_len,List.length_nil] at hp
  have hz:wsT (l.take i)= []:=by subst h0;rfl
  refine ⟨?_,.of _ (Gh.kb _ [3,6,7,8] [] []) ⟨i+1,by omega, ?_⟩ ?_⟩
  ·rw[hz,List.length_nil];omega
  ·rw[wsT_take h,if_pos h0,hz]
   simp[wrapS (show i<9223372036854775807 by omega)]
   exact tx_ext (by simp)
  ·simp[wrapS (show i<9223372036854775807 by omega)];omega
 ·have hi':i=l.length:=by omega
  subst hi'
  simp
theorem joinS_ok (l:List ByteArray) (hl:l.length≤1099511627776) (hs:(wsT l).length≤4611686018427387904):VC Tryz.prog 280 [vStrS l] [(false,[(.s,.sc (.string (ofT (wsT l))))])]:=by
 refine vc_of_ew good hm [0,2,3,6,7,8,9,4,5,14] Tryz.func280 rfl (by kernel_rfl) (by kernel_rfl) rfl ?_
 simp[Tryz.f280]
 refine ew_loop (fun E=> ∃i:Nat,i≤l.length∧E= {nt:=22,sl:= [(3,str (ofT (wsT (l.take i)))),(6,vStrS l),(7,int .i64 l.length),(8,int .i64 i)],bx:= [],rt:= []}) (fun E=>l.length- (E.num 8).toNat) _ (Gh.kb _ [3,6,7,8] [] []) ⟨0,by omega,by simp[wsT,joinT,ofT]⟩ ?_
 rintro E1 ⟨i,hi,rfl⟩
 simp
 have h1:=wsT_pre l i
 refine ⟨fun h=>⟨h,fun h0=> ?_,fun h0=> ?_⟩,fun h=> ?_⟩
 ·have hp:=wsT_pre l (i+1)
  rw[wsT_take h,if_neg (by omega)] at hp
  simp only[List.length_append,tx_len,List.length_cons,List.length_nil] at hp
  refine ⟨?_, ?_,.of _ (Gh.kb _ [3,6,7,8] [] []) ⟨i+1,by omega, ?_⟩ ?_⟩
  ·show _+1≤_
   omega
  ·show _+1+_≤_
   omega
  ·rw[wsT_take h,if_neg (by omega)]
   simp[wrapS (show i<9223372036854775807 by omega)]
   exact tx_ext (by simp)
  ·simp[wrapS (show i<9223372036854775807 by omega)];omega
 ·have hp:=wsT_pre l (i+1)
  rw[wsT_take h,if_pos h0] at hp
  simp only[List.length_append,tx_len,List.length_nil] at hp
  have hz:wsT (l.take i)= []:=by subst h0;rfl
  refine ⟨?_,.of _ (Gh.kb _ [3,6,7,8] [] []) ⟨i+1,by omega, ?_⟩ ?_⟩
  ·rw[hz,List.length_nil];omega
  ·rw[wsT_take h,if_pos h0,hz]
   simp[wrapS (show i<9223372036854775807 by omega)]
   exact tx_ext (by simp)
  ·simp[wrapS (show i<9223372036854775807 by omega)];omega
 ·have hi':i=l.length:=by omega
  subst hi'
  simp
def tyT (t:Int):ByteArray:=if t=1 then ⟨#[98,111,111,108]⟩ else if t=2 then ⟨#[105,110,116]⟩ else if t=3 then ⟨#[116,101,120,116]⟩ else ⟨#[]⟩
theorem tyName_ok (t:Int) (h:0≤t∧t≤3):VC Tryz.prog 342 [int .i64 t] [(false,[(.s,.sc (.string (tyT t)))])]:=by
 refine vc_of_ew good hm [0,2] Tryz.func342 rfl (by kernel_rfl) (by kernel_rfl) rfl ?_
 simp[Tryz.f342]
 have ht:t=0∨t=1∨t=2∨t=3:=by omega
 rcases ht with rfl|rfl|rfl|rfl<;>simp[md,lf,tyT,List.range']
def tyL:List ByteArray:= [⟨#[]⟩,⟨#[98,111,111,108]⟩,⟨#[105,110,116]⟩,⟨#[116,101,120,116]⟩]
theorem typesS_ok:VC Tryz.prog 366 [] [(false,mStrS tyL)]:=by
 refine vc_of_ew good hm [0] Tryz.func366 rfl (by kernel_rfl) (by kernel_rfl) rfl ?_
 simp[Tryz.f366,mStrS,tyL]
theorem tyL_at (t:Int) (h:0≤t∧t≤3):tyL[t.toNat]?.getD ⟨#[]⟩=tyT t:=by
 have ht:t=0∨t=1∨t=2∨t=3:=by omega
 rcases ht with rfl|rfl|rfl|rfl<;>simp[tyL,tyT]
theorem colTy {c:GCol} (h:colOk c=true):0≤c.fTy∧c.fTy≤3:=by
 simp[colOk,within] at h
 omega
theorem colNm {c:GCol} (h:colOk c=true):wordOk c.fName=true:=by
 simp[colOk] at h
 exact h.1.1
theorem wordLen {s:ByteArray} (h:wordOk s=true):s.size≤12:=by
 simp only[wordOk,Bool.and_eq_true] at h
 have:=h.2
 simp[within] at this
 omega
theorem szMk (a:Array UInt8):(⟨a⟩:ByteArray).size=a.size:=rfl
theorem tyT_len (t:Int):(tyT t).size≤4:=by
 unfold tyT
 split
 ·decide
 split
 ·decide
 split<;>decide
theorem digs_len2: ∀ (k n:Nat),n<10^ (k+1)→(digs n).length≤k+1:=by
 intro k
 induction k with
 |zero=>intro n h;rw[digs_lt (by simpa using h)];simp
 |succ k ih=>
  intro n h
  by_cases h10:n<10
  ·rw[digs_lt h10];simp
  ·rw[digs_ge (by omega)]
   have:=ih (n/10) (by rw[Nat.pow_succ] at h;omega)
   simp
   omega
theorem numT_len (n:Int):(numT n).length≤14:=by
 unfold numT
 split
 ·rename_i h
  simp[inN,within] at h
  have:=digs_len2 12 n.natAbs (by simp;omega)
  split<;>simp<;>omega
 ·simp
theorem valT_len (v:GVal):(valT v).length≤92:=by
 unfold valT
 split
 ·simp
 split
 ·simp
 split
 ·unfold boolT;split<;>simp
 split
 ·have:=numT_len v.fN
  omega
 ·rename_i hv h0 h1 h2
  have hs:v.fS.size≤30:=by
   cases h:valOk v with
   |false=>exact absurd h hv
   |true=>simp[valOk,h0,h1,h2] at h;omega
  have:=escT_len (tx v.fS)
  rw[tx_len] at this
  simp
  omega
def colW (c:GCol):List ByteArray:= [c.fName,tyT c.fTy]++(if c.fNot=true then [⟨#[110,111,116]⟩] else [])++(if c.fHas=true then [ofT (61::valT c.fDef)] else [])
def colT (c:GCol):List UInt8:=if colOk c=true then wsT (colW c) else []
theorem colWS_ok (c:GCol) (hc:okCol c) (h:colOk c=true):VC Tryz.prog 340 [vCol c] [(false,mStrS (colW c))]:=by
 refine vc_of_ew good hm [0,1,2,3,13,18] Tryz.func340 rfl (by kernel_rfl) (by kernel_rfl) rfl ?_
 simp[Tryz.f340]
 refine .of typesS_ok ?_
 have hty:=colTy h
 have hl4:tyL.length=4:=rfl
 simp[mStrS,md,lf,List.range',tyL_at _ hty,hl4]
 have hvl:=valT_len c.fDef
 have hsz:(⟨#[61]⟩:ByteArray).size=1:=rfl
 have e61:(⟨#[61]⟩:ByteArray)++ofT (valT c.fDef)=ofT (61::valT c.fDef):=tx_ext (by simp)
 refine ⟨by omega,by omega,fun h1=>⟨fun h2=> .of (valTextS_ok _) ?_,fun h2=>by simp[colW,h1,h2]⟩,fun h1=>⟨fun h2=> .of (valTextS_ok _) ?_,fun h2=>by simp[colW,h1,h2]⟩⟩
 ·simp[hsz,e61,colW,h1,h2]
  omega
 ·simp[hsz,e61,colW,h1,h2]
  omega
theorem colTextI_ok (c:GCol) (hc:okCol c):VC Tryz.prog 283 [vCol c] [(false,[(.s,.sc (.string (ofT (colT c))))])]:=by
 refine vc_of_ew good hm [0,1,2,6,3,15,19] Tryz.func283 rfl (by kernel_rfl) (by kernel_rfl) rfl ?_
 simp[Tryz.f283]
 refine .of (colOkI_ok _ hc) ?_
 simp
 refine ⟨fun h=>by simp[colT,h,ofT],fun h=> ?_⟩
 have hty:=colTy h
 have hnm:=wordLen (colNm h)
 have h32:(⟨#[32]⟩:ByteArray).size=1:=rfl
 refine ⟨by rw[h32];omega,.of (tyName_ok _ hty) ?_⟩
 have htl:=tyT_len c.fTy
 have hvl:=valT_len c.fDef
 simp[szMk]
 refine ⟨by omega,fun h1=>⟨by omega,fun h2=>⟨by omega,.of (valTextI_ok _) ?_⟩,fun h2=> ?_⟩,fun h1=>⟨fun h2=>⟨by omega,.of (valTextI_ok _) ?_⟩,fun h2=> ?_⟩⟩
 ·simp[szMk]
  exact ⟨by omega,tx_ext (by simp[colT,h,wsT,joinT,colW,h1,h2])⟩
 ·exact tx_ext (by simp[colT,h,wsT,joinT,colW,h1,h2])
 ·simp[szMk]
  exact ⟨by omega,tx_ext (by simp[colT,h,wsT,joinT,colW,h1,h2])⟩
 ·exact tx_ext (by simp[colT,h,wsT,joinT,colW,h1,h2])
theorem wsT_le {l:List ByteArray} {B:Nat} (h: ∀w∈l,w.size≤B):(wsT l).length≤l.length* (B+1):=by
 have key: ∀r:List ByteArray,(∀w∈r,w.size≤B)→((r.map tx).flatMap fun x=>32::x).length≤r.length* (B+1):=by
  intro r
  induction r with
  |nil=>intro _;simp
  |cons a r ih=>
   intro hr
   have h1:=hr a (by simp)
   have h2:=ih fun w hw=>hr w (by simp[hw])
   simp only[List.map_cons,List.flatMap_cons,List.length_append,List.length_cons,tx_len,Nat.add_mul,Nat.one_mul] at h2⊢
   omega
 cases l with
 |nil=>simp[wsT,joinT]
 |cons a r=>
  have h1:=h a (by simp)
  have h2:=key r fun w hw=>h w (by simp[hw])
  simp only[wsT,List.map_cons,joinT,List.length_append,tx_len,List.length_cons,Nat.add_mul,Nat.one_mul] at h2⊢
  omega
def valW (l:List GVal):List ByteArray:=l.map fun v=>ofT (valT v)
theorem valW_len (l:List GVal):(valW l).length=l.length:=by simp[valW]
theorem valW_size (l:List GVal): ∀w∈valW l,w.size≤92:=by
 intro w hw
 obtain ⟨v,_,rfl⟩:=List.mem_map.1 hw
 rw[ofT_size]
 exact valT_len v
theorem valW_take {l:List GVal} {i:Nat} (h:i<l.length):valW (l.take (i+1))=valW (l.take i)++ [ofT (valT (l[i]?.getD dVal))]:=by
 unfold valW
 rw[List.take_succ_eq_append_getElem h,List.getElem?_eq_getElem h,List.map_append]
 rfl
theorem colW_size {c:GCol} (h:colOk c=true): ∀w∈colW c,w.size≤93:=by
 intro w hw
 have h1:=wordLen (colNm h)
 have h2:=tyT_len c.fTy
 have h3:=valT_len c.fDef
 simp only[colW,List.mem_append,List.mem_cons,List.not_mem_nil,or_false] at hw
 rcases hw with ((rfl|rfl)|hw)|hw
 ·omega
 ·omega
 ·split at hw
  ·rw[List.mem_singleton] at hw;subst hw;decide
  ·cases hw
 ·split at hw
  ·rw[List.mem_singleton] at hw;subst hw;simp;omega
  ·cases hw
theorem colW_len (c:GCol):(colW c).length≤4:=by
 unfold colW
 split<;>split<;>simp
theorem valsI_ok (l:List GVal) (hl:l.length≤1048576):VC Tryz.prog 285 [vValS l] [(false,[(.s,.sc (.string (ofT (wsT (valW l)))))])]:=by
 refine vc_of_ew good hm [0,2,3,7,8,9,10,5] Tryz.func285 rfl (by kernel_rfl) (by kernel_rfl) rfl ?_
 simp[Tryz.f285]
 refine ew_loop (fun E=> ∃i:Nat,i≤l.length∧E= {nt:=21,sl:= [(3,.v false [.r [6]]),(7,vValS l),(8,int .i64 l.length),(9,int .i64 i)],bx:= [],rt:=(mStrS (valW (l.take i))).map fun y=>(6,y)}) (fun E=>l.length- (E.num 9).toNat) _ (Gh.kb _ [3,7,8,9] [] [6]) ⟨0,by omega,by simp[valW,mStrS]⟩ ?_
 rintro E1 ⟨i,hi,rfl⟩
 have hvl:=valW_len (l.take i)
 rw[List.length_take] at hvl
 simp[mStrS]
 refine ⟨fun h=>⟨h,.of (valTextI_ok _) ?_⟩,fun h=> ?_⟩
 ·simp
  refine ⟨by omega,.of _ ((Gh.kb _ [3,7,8,9] [] [17]).trans (Gh.rn _ 17 6)) ⟨i+1,by omega, ?_⟩ ?_⟩
  ·rw[valW_take h]
   simp[wrapS (show i<9223372036854775807 by omega),mStrS]
  ·simp[wrapS (show i<9223372036854775807 by omega)];omega
 ·have hi':i=l.length:=by omega
  subst hi'
  rw[List.take_length]
  have h1:=wsT_le (valW_size l)
  rw[valW_len] at h1
  refine .of (gluedI_ok (valW l) (by rw[valW_len];omega) (by omega)) ?_
  simp
theorem valsS_ok (l:List GVal) (hl:l.length≤1048576):VC Tryz.prog 282 [vValS l] [(false,mStrS (valW l))]:=by
 refine vc_of_ew good hm [0,2,3,7,8,9,10,5] Tryz.func282 rfl (by kernel_rfl) (by kernel_rfl) rfl ?_
 simp[Tryz.f282]
 refine ew_loop (fun E=> ∃i:Nat,i≤l.length∧E= {nt:=20,sl:= [(3,.v false [.r [6]]),(7,vValS l),(8,int .i64 l.length),(9,int .i64 i)],bx:= [],rt:=(mStrS (valW (l.take i))).map fun y=>(6,y)}) (fun E=>l.length- (E.num 9).toNat) _ (Gh.kb _ [3,7,8,9] [] [6]) ⟨0,by omega,by simp[valW,mStrS]⟩ ?_
 rintro E1 ⟨i,hi,rfl⟩
 have hvl:=valW_len (l.take i)
 rw[List.length_take] at hvl
 simp[mStrS]
 refine ⟨fun h=>⟨h,.of (valTextS_ok _) ?_⟩,fun h=> ?_⟩
 ·simp
  refine ⟨by omega,.of _ ((Gh.kb _ [3,7,8,9] [] [17]).trans (Gh.rn _ 17 6)) ⟨i+1,by omega, ?_⟩ ?_⟩
  ·rw[valW_take h]
   simp[wrapS (show i<9223372036854775807 by omega),mStrS]
  ·simp[wrapS (show i<9223372036854775807 by omega)];omega
 ·have hi':i=l.length:=by omega
  subst hi'
  simp[mStrS]
end Go.Proofs.YtcgalnoekjnjoaaGreat
namespace Go.Proofs.YtcgalnoekjnjoaaGreat
open Go Go.Proofs Go.Sm
attribute [local simp] ti eStr eInt eByte eVal cVal vVal eValS vValS eRow cRow vRow eCol vCol vColS eStrS vStrS cDdl vDdl vStmt ePart vPart eTable cTable vTable vTableS cCat vCat vRowS eRows vRows vRowsS eDb cDb vDb eSnap vSnap
set_option linter.unusedVariables false
set_option linter.unusedSimpArgs false
theorem wsT_app {A B:List ByteArray} (hA:A≠ []) (hB:B≠ []):wsT (A++B)=wsT A++32::wsT B:=by
 cases A with
 |nil=>exact absurd rfl hA
 |cons a A=>
  cases B with
  |nil=>exact absurd rfl hB
  |cons b B=>simp[wsT,joinT]
def bCreate:ByteArray:=⟨#[99,114,101,97,116,101]⟩
def bDrop:ByteArray:=⟨#[100,114,111,112]⟩
def bAdd:ByteArray:=⟨#[97,100,100]⟩
def bOut:ByteArray:=⟨#[111,117,116]⟩
def bName:ByteArray:=⟨#[110,97,109,101]⟩
def bKey:ByteArray:=⟨#[107,101,121]⟩
def b40:ByteArray:=⟨#[40]⟩
def b41:ByteArray:=⟨#[41]⟩
def ddlL:List ByteArray:= [⟨#[]⟩,bCreate,bDrop,bAdd,bOut,bName]
def colsW (l:List GCol):List ByteArray:=l.flatMap fun c=>b40::(colW c++ [b41])
theorem colsW_take {l:List GCol} {i:Nat} (h:i<l.length):colsW (l.take (i+1))=colsW (l.take i)++b40::(colW (l[i]?.getD dCol)++ [b41]):=by
 unfold colsW
 rw[List.take_succ_eq_append_getElem h,List.getElem?_eq_getElem h,List.flatMap_append]
 simp
theorem colsW_len (l:List GCol):(colsW l).length≤l.length*6:=by
 induction l with
 |nil=>simp[colsW]
 |cons c l ih=>
  have:=colW_len c
  simp only[colsW,List.flatMap_cons,List.length_append,List.length_cons,List.length_nil] at ih⊢
  omega
def ddlW (d:GDdl):List ByteArray:= [ddlL[d.fKind.toNat]?.getD ⟨#[]⟩,d.fTable]++(if d.fKind=1 then colsW d.fCols++bKey::d.fKeys else if d.fKind=3 then colW (d.fCols[0]?.getD dCol) else if d.fKind=4 then [d.fName] else if d.fKind=5 then [d.fName,d.fTo] else [])
def ddlT (d:GDdl):List UInt8:=if ddlOk d=true then wsT (ddlW d) else []
theorem ddl_kind {d:GDdl} (h:ddlOk d=true):d.fKind=1∨d.fKind=2∨d.fKind=3∨d.fKind=4∨d.fKind=5:=by
 simp[ddlOk] at h
 omega
theorem ddl_cols {d:GDdl} (h:ddlOk d=true) (k:d.fKind=1):d.fCols.length≤8∧ ∀i,i<d.fCols.length→colOk (d.fCols[i]?.getD dCol)=true:=by
 have ht:tableOk (madeT d)=true:=by
  simp[ddlOk,k] at h
  exact h.2.1
 simp only[tableOk,Bool.and_eq_true,colsTo,List.all_eq_true,List.mem_range] at ht
 have h8:=ht.1.2.1
 simp[within,madeT] at h8
 have h9:=of_decide_eq_true h8.2
 refine ⟨by omega,fun i hi=> ?_⟩
 have:=ht.2.1 i hi
 simp only[colsOkAt,Bool.and_eq_true] at this
 exact this.1
theorem ddl_add {d:GDdl} (h:ddlOk d=true) (k:d.fKind=3):d.fCols.length=1∧colOk (d.fCols[0]?.getD dCol)=true:=by
 simp[ddlOk,k,addOk] at h
 exact ⟨by omega,h.2.1.2.1⟩
theorem ddlWS_ok (d:GDdl) (hd:okDdl d) (h:ddlOk d=true) (hk:d.fKeys.length≤1048576):VC Tryz.prog 281 [vDdl d] [(false,mStrS (ddlW d))]:=by
 have hkd:=ddl_kind h
 have hl6:ddlL.length=6:=rfl
 refine vc_of_ew good hm [0,1,2,3,15,16,19,20,21,22,5,40,49,56] Tryz.func281 rfl (by kernel_rfl) (by kernel_rfl) rfl ?_
 rcases hkd with k|k|k|k|k
 ·simp[Tryz.f281,md,lf,List.range',k]
  have hc:=ddl_cols h k
  refine ew_loop (fun E=> ∃i:Nat,i≤d.fCols.length∧E= {nt:=66,sl:= [(1,.p (.bx 1 0)),(3,.v false [.r [13]]),(19,vColS d.fCols),(20,int .i64 d.fCols.length),(21,int .i64 i)],bx:= [(1,cDdl d)],rt:=(mStrS ([bCreate,d.fTable]++colsW (d.fCols.take i))).map fun y=>(13,y)}) (fun E=>d.fCols.length- (E.num 21).toNat) _ (Gh.kb _ [1,3,19,20,21] [1] [13]) ⟨0,by omega,by simp[k,mStrS,bCreate,colsW]⟩ ?_
  rintro E1 ⟨i,hi,rfl⟩
  have hcl:=colsW_len (d.fCols.take i)
  rw[List.length_take] at hcl
  simp[mStrS]
  refine ⟨fun hil=>⟨hil, ?_⟩,fun hil=> ?_⟩
  ·refine ⟨by omega,.of (colWS_ok _ (hd.2.2.1.2 _ (getD_mem dCol hil)) (hc.2 i hil)) ?_⟩
   have hw4:=colW_len (d.fCols[i]?.getD dCol)
   simp[mStrS]
   refine ⟨by omega,by omega,.of _ ((Gh.kb _ [1,3,19,20,21] [1] [32]).trans (Gh.rn _ 32 13)) ⟨i+1,by omega, ?_⟩ ?_⟩
   ·rw[colsW_take hil]
    simp[wrapS (show i<9223372036854775807 by omega),mStrS,b40,b41]
   ·simp[wrapS (show i<9223372036854775807 by omega)];omega
  ·have hi':i=d.fCols.length:=by omega
   subst hi'
   refine ⟨by omega,by omega, ?_⟩
   simp[ddlW,ddlL,k,bKey]
 ·simp[Tryz.f281,md,lf,List.range',k,mStrS,ddlW,ddlL,bDrop]
 ·have ha:=ddl_add h k
  simp[Tryz.f281,md,lf,List.range',k]
  refine ⟨by omega,.of (colWS_ok _ (hd.2.2.1.2 _ (getD_mem dCol (by omega))) ha.2) ?_⟩
  have hc4:=colW_len (d.fCols[0]?.getD dCol)
  simp[mStrS,ddlW,ddlL,bAdd,k]
  omega
 ·simp[Tryz.f281,md,lf,List.range',k,mStrS,ddlW,ddlL,bOut]
 ·simp[Tryz.f281,md,lf,List.range',k,mStrS,ddlW,ddlL,bName]
def bdD (d:GDdl):Prop:=d.fTable.size≤1048576∧d.fName.size≤1048576∧d.fTo.size≤1048576∧d.fKeys.length≤1048576∧(∀k∈d.fKeys,k.size≤1048576)∧d.fCols.length≤1048576
theorem colsW_size {l:List GCol} (h: ∀i,i<l.length→colOk (l[i]?.getD dCol)=true): ∀w∈colsW l,w.size≤93:=by
 intro w hw
 obtain ⟨c,hc,hw⟩:=List.mem_flatMap.1 hw
 obtain ⟨i,hi,rfl⟩:=List.getElem_of_mem hc
 have hok:=h i hi
 rw[List.getElem?_eq_getElem hi,Option.getD_some] at hok
 rcases List.mem_cons.1 hw with rfl|hw
 ·decide
 ·rcases List.mem_append.1 hw with hw|hw
  ·exact colW_size hok w hw
  ·rw[List.mem_singleton] at hw;subst hw;decide
theorem ddlL_size (k:Nat):(ddlL[k]?.getD ⟨#[]⟩).size≤6:=by
 rcases k with _|_|_|_|_|_|k<;>simp[ddlL]<;>decide
theorem ddlW_bd {d:GDdl} (h:ddlOk d=true) (hb:bdD d):(ddlW d).length≤1048676∧ ∀w∈ddlW d,w.size≤1048576:=by
 obtain ⟨b1,b2,b3,b4,b5,b6⟩:=hb
 have hkd:=ddl_kind h
 have hL:=ddlL_size d.fKind.toNat
 unfold ddlW
 rcases hkd with k|k|k|k|k
 ·have hc:=ddl_cols h k
  have hcl:=colsW_len d.fCols
  rw[if_pos k]
  refine ⟨by simp;omega,fun w hw=> ?_⟩
  rcases List.mem_append.1 hw with hw|hw
  ·simp only[List.mem_cons,List.not_mem_nil,or_false] at hw
   rcases hw with rfl|rfl<;>omega
  ·rcases List.mem_append.1 hw with hw|hw
   ·have:=colsW_size hc.2 w hw;omega
   ·rcases List.mem_cons.1 hw with rfl|hw
    ·decide
    ·exact b5 w hw
 ·rw[if_neg (by omega),if_neg (by omega),if_neg (by omega),if_neg (by omega)]
  refine ⟨by simp,fun w hw=> ?_⟩
  simp only[List.append_nil,List.mem_cons,List.not_mem_nil,or_false] at hw
  rcases hw with rfl|rfl<;>omega
 ·rw[if_neg (by omega),if_pos k]
  have hc4:=colW_len (d.fCols[0]?.getD dCol)
  refine ⟨by simp;omega,fun w hw=> ?_⟩
  rcases List.mem_append.1 hw with hw|hw
  ·simp only[List.mem_cons,List.not_mem_nil,or_false] at hw
   rcases hw with rfl|rfl<;>omega
  ·have:=colW_size (ddl_add h k).2 w hw;omega
 ·rw[if_neg (by omega),if_neg (by omega),if_pos k]
  refine ⟨by simp,fun w hw=> ?_⟩
  simp only[List.mem_append,List.mem_cons,List.not_mem_nil,or_false] at hw
  rcases hw with (rfl|rfl)|rfl<;>omega
 ·rw[if_neg (by omega),if_neg (by omega),if_neg (by omega),if_pos k]
  refine ⟨by simp,fun w hw=> ?_⟩
  simp only[List.mem_append,List.mem_cons,List.not_mem_nil,or_false] at hw
  rcases hw with (rfl|rfl)|rfl|rfl<;>omega
theorem ddlT_len {d:GDdl} (h:ddlOk d=true) (hb:bdD d):(wsT (ddlW d)).length≤1099619000000:=by
 obtain ⟨h1,h2⟩:=ddlW_bd h hb
 have h3:=wsT_le h2
 have h4:(ddlW d).length* (1048576+1)≤1048676* (1048576+1):=Nat.mul_le_mul_right _ h1
 omega
theorem ddlTextS_ok (d:GDdl) (hd:okDdl d) (hb:bdD d):VC Tryz.prog 190 [vDdl d] [(false,[(.s,.sc (.string (ofT (ddlT d))))])]:=by
 refine vc_of_ew good hm [0,1,2,5] Tryz.func190 rfl (by kernel_rfl) (by kernel_rfl) rfl ?_
 simp[Tryz.f190]
 refine .of (ddlOkS_ok _ hd) ?_
 simp
 refine ⟨fun h=>by simp[ddlT,h,ofT],fun h=> .of (ddlWS_ok d hd h hb.2.2.2.1) ?_⟩
 simp[mStrS]
 have h1:=ddlT_len h hb
 refine .of (joinS_ok (ddlW d) (by have:=(ddlW_bd h hb).1;omega) (by omega)) ?_
 simp[ddlT,h]
theorem wsT1 (a:ByteArray):wsT [a]=tx a:=by simp[wsT,joinT]
theorem wsT_cons (a:ByteArray) {B:List ByteArray} (hB:B≠ []):wsT (a::B)=tx a++32::wsT B:=by
 rw[←wsT1 a,←wsT_app (by simp) hB];rfl
theorem colW_ne (c:GCol):colW c≠ []:=by simp[colW]
theorem ddl_keys {d:GDdl} (h:ddlOk d=true) (k:d.fKind=1):d.fKeys≠ []:=by
 have ht:tableOk (madeT d)=true:=by
  simp[ddlOk,k] at h
  exact h.2.1
 simp only[tableOk,Bool.and_eq_true] at ht
 have h9:=of_decide_eq_true ht.1.2.2
 exact List.ne_nil_of_length_pos h9
theorem wsT_nest {A B:List ByteArray} (hA:A≠ []) (hB:B≠ []):wsT (A++ [ofT (wsT B)])=wsT (A++B):=by
 rw[wsT_app hA (by simp),wsT_app hA hB,wsT1,tx_ofT]
theorem colT_len (c:GCol):(colT c).length≤376:=by
 unfold colT
 split
 ·rename_i h
  have h1:=wsT_le (colW_size h)
  have h3:(colW c).length* (93+1)≤4* (93+1):=Nat.mul_le_mul_right _ (colW_len c)
  omega
 ·simp
def crW (d:GDdl) (i:Nat):List ByteArray:= [bCreate,d.fTable]++colsW (d.fCols.take i)
theorem crW_ne (d:GDdl) (i:Nat):crW d i≠ []:=by simp[crW]
theorem crW_len {d:GDdl} (h:ddlOk d=true) (k:d.fKind=1) (hb:d.fTable.size≤1048576) (i:Nat):(wsT (crW d i)).length≤1000000000:=by
 have hc:=ddl_cols h k
 have h1: ∀w∈crW d i,w.size≤1048576:=fun w hw=>by
  rcases List.mem_append.1 hw with hw|hw
  ·simp only[List.mem_cons,List.not_mem_nil,or_false] at hw
   rcases hw with rfl|rfl
   ·decide
   ·exact hb
  ·obtain ⟨c,hcm,hw⟩:=List.mem_flatMap.1 hw
   have:=colsW_size hc.2 w (List.mem_flatMap.2 ⟨c,List.mem_of_mem_take hcm,hw⟩)
   omega
 have h2:=wsT_le h1
 have h3:=colsW_len (d.fCols.take i)
 rw[List.length_take] at h3
 have h4:(crW d i).length≤50:=by simp only[crW,List.length_append,List.length_cons,List.length_nil];omega
 have h5:(crW d i).length* (1048576+1)≤50* (1048576+1):=Nat.mul_le_mul_right _ h4
 omega
theorem crW_succ {d:GDdl} {i:Nat} (hi:i<d.fCols.length) (hok:colOk (d.fCols[i]?.getD dCol)=true):wsT (crW d (i+1))=wsT (crW d i)++ [32,40,32]++colT (d.fCols[i]?.getD dCol)++ [32,41]:=by
 have e:crW d (i+1)=crW d i++b40::(colW (d.fCols[i]?.getD dCol)++ [b41]):=by
  unfold crW
  rw[colsW_take hi,List.append_assoc]
 rw[e,wsT_app (crW_ne d i) (by simp),wsT_cons b40 (by simp),wsT_app (colW_ne _) (by simp),wsT1]
 simp[colT,hok,b40,b41]
theorem ddlW_cr {d:GDdl} (h:ddlOk d=true) (k:d.fKind=1):wsT (ddlW d)=wsT (crW d d.fCols.length)++ [32,107,101,121,32]++wsT d.fKeys:=by
 have e:ddlW d=crW d d.fCols.length++bKey::d.fKeys:=by
  simp[ddlW,crW,k,ddlL]
 rw[e,wsT_app (crW_ne d _) (by simp),wsT_cons bKey (ddl_keys h k)]
 simp[bKey]
theorem ddlTextI_ok (d:GDdl) (hd:okDdl d) (hb:bdD d):VC Tryz.prog 192 [vDdl d] [(false,[(.s,.sc (.string (ofT (ddlT d))))])]:=by
 refine vc_of_ew good hm [0,1,2,8,10,11,3,17,18,19,20,5,36,41,52] Tryz.func192 rfl (by kernel_rfl) (by kernel_rfl) rfl ?_
 simp[Tryz.f192,szMk]
 refine .of (ddlOkI_ok _ hd hb.2.2.2.2.2 hb.2.2.2.1) ?_
 simp[szMk]
 refine ⟨fun h=>by simp[ddlT,h,ofT],fun h=> ?_⟩
 have hT:=ddlT_len h hb
 have hkd:=ddl_kind h
 obtain ⟨b1,b2,b3,b4,b5,b6⟩:=hb
 refine ⟨fun k=>⟨by omega, ?_⟩,fun k1=>⟨fun k=>⟨by omega, ?_⟩,fun k2=>⟨fun k=>⟨by have:=(ddl_add h k).1;omega,.of (colTextI_ok _ (hd.2.2.1.2 _ (getD_mem dCol (by have:=(ddl_add h k).1;omega)))) ?_⟩,fun k3=>⟨fun k=> ?_,fun k4=> ?_⟩⟩⟩⟩
 ·have hc:=ddl_cols h k
  refine ew_loop (fun E=> ∃i:Nat,i≤d.fCols.length∧E= {nt:=68,sl:= [(1,.p (.bx 1 0)),(3,str (ofT (wsT (crW d i)))),(17,vColS d.fCols),(18,int .i64 d.fCols.length),(19,int .i64 i)],bx:= [(1,cDdl d)],rt:= []}) (fun E=>d.fCols.length- (E.num 19).toNat) _ (Gh.kb _ [1,3,17,18,19] [1] []) ⟨0,by omega, ?_⟩ ?_
  ·simp[crW,colsW,wsT,joinT,bCreate]
   exact tx_ext (by simp)
  rintro E1 ⟨i,hi,rfl⟩
  have hp:=crW_len h k b1 i
  simp[szMk]
  refine ⟨fun hil=>⟨hil, ?_⟩,fun hil=> ?_⟩
  ·refine ⟨by omega,.of (colTextI_ok _ (hd.2.2.1.2 _ (getD_mem dCol hil))) ?_⟩
   have hct:=colT_len (d.fCols[i]?.getD dCol)
   simp[szMk]
   refine ⟨by omega,by omega,.of _ (Gh.kb _ [1,3,17,18,19] [1] []) ⟨i+1,by omega, ?_⟩ ?_⟩
   ·rw[crW_succ hil (hc.2 i hil)]
    simp[wrapS (show i<9223372036854775807 by omega)]
    exact tx_ext (by simp)
   ·simp[wrapS (show i<9223372036854775807 by omega)];omega
  ·have hi':i=d.fCols.length:=by omega
   subst hi'
   have hkl:=wsT_le b5
   have h9:d.fKeys.length* (1048576+1)≤1048576* (1048576+1):=Nat.mul_le_mul_right _ b4
   refine ⟨by omega,.of (gluedI_ok d.fKeys (by omega) (by omega)) ?_⟩
   simp[szMk]
   exact ⟨by omega,tx_ext (by simp[ddlT,h,ddlW_cr h k])⟩
 ·exact tx_ext (by simp[ddlT,h,ddlW,k,ddlL,bDrop,wsT,joinT])
 ·simp
  have e3:wsT [bAdd,d.fTable,ofT (colT (d.fCols[0]?.getD dCol))]=wsT (ddlW d):=by
   have:=wsT_nest (A:= [bAdd,d.fTable]) (by simp) (colW_ne (d.fCols[0]?.getD dCol))
   simp only[colT,(ddl_add h k).2,if_true]
   simpa [ddlW,k,ddlL] using this
  refine .of (gluedI_ok [bAdd,d.fTable,ofT (colT (d.fCols[0]?.getD dCol))] (by simp) (by rw[e3];omega)) ?_
  simp[ddlT,h,e3]
 ·have e4:wsT [bOut,d.fTable,d.fName]=wsT (ddlW d):=by simp[ddlW,k,ddlL]
  refine .of (gluedI_ok [bOut,d.fTable,d.fName] (by simp) (by rw[e4];omega)) ?_
  simp[ddlT,h,e4]
 ·have k:d.fKind=5:=by omega
  have e5:wsT [bName,d.fTable,d.fName,d.fTo]=wsT (ddlW d):=by simp[ddlW,k,ddlL]
  refine .of (gluedI_ok [bName,d.fTable,d.fName,d.fTo] (by simp) (by rw[e5];omega)) ?_
  simp[ddlT,h,e5]
end Go.Proofs.YtcgalnoekjnjoaaGreat
namespace Go.Proofs.YtcgalnoekjnjoaaGreat
open Go Go.Proofs Go.Sm
attribute [local simp] ti eStr eInt eByte eVal cVal vVal eValS vValS eRow cRow vRow eCol vCol vColS eStrS vStrS cDdl vDdl vStmt ePart vPart eTable cTable vTable vTableS cCat vCat vRowS eRows vRows vRowsS eDb cDb vDb eSnap vSnap
set_option linter.unusedVariables false
set_option linter.unusedSimpArgs false
def bInsert:ByteArray:=⟨#[105,110,115,101,114,116]⟩
def bUpdate:ByteArray:=⟨#[117,112,100,97,116,101]⟩
def bDelete:ByteArray:=⟨#[100,101,108,101,116,101]⟩
def bClear:ByteArray:=⟨#[99,108,101,97,114]⟩
def bTo:ByteArray:=⟨#[116,111]⟩
def stmtW (s:GStmt):List ByteArray:=if s.fKind=1 then [bInsert,s.fTable]++valW s.fRow.fVals else if s.fKind=2 then [bUpdate,s.fTable]++(valW s.fKey++bTo::valW s.fRow.fVals) else if s.fKind=3 then [bDelete,s.fTable]++valW s.fKey else if s.fKind=4 then [bClear,s.fTable] else ddlW s.fDdl
def stmtT (s:GStmt):List UInt8:=if stmtOk s=true then wsT (stmtW s) else []
def bdS (s:GStmt):Prop:=s.fTable.size≤1048576∧bdD s.fDdl
theorem vals_ok {l:List GVal} (h:valsOk l=true):1≤l.length∧l.length≤8:=by
 simp only[valsOk,Bool.and_eq_true] at h
 have h1:=h.1
 simp only[within,Bool.and_eq_true,decide_eq_true_eq] at h1
 omega
theorem valW_ne {l:List GVal} (h:valsOk l=true):valW l≠ []:=by
 have:=(vals_ok h).1
 rw[←valW_len] at this
 exact List.ne_nil_of_length_pos this
theorem stmt_kind {s:GStmt} (h:stmtOk s=true):(s.fKind=1∧valsOk s.fRow.fVals=true)∨(s.fKind=2∧valsOk s.fKey=true∧valsOk s.fRow.fVals=true)∨(s.fKind=3∧valsOk s.fKey=true)∨s.fKind=4∨(s.fKind=5∧ddlOk s.fDdl=true):=by
 simp only[stmtOk,Bool.and_eq_true,Bool.or_eq_true,decide_eq_true_eq] at h
 rcases h.2 with (((h1|h1)|h1)|h1)|h1
 ·exact .inl ⟨h1.1,h1.2.1.2⟩
 ·exact .inr (.inl ⟨h1.1,h1.2.1.1,h1.2.1.2⟩)
 ·exact .inr (.inr (.inl ⟨h1.1,h1.2.1.1⟩))
 ·exact .inr (.inr (.inr (.inl h1.1)))
 ·exact .inr (.inr (.inr (.inr ⟨h1.1,h1.2.1.2⟩)))
theorem ws_small {l:List ByteArray} (h: ∀w∈l,w.size≤1048576) (hl:l.length≤32):(wsT l).length≤1000000000:=by
 have h1:=wsT_le h
 have h2:l.length* (1048576+1)≤32* (1048576+1):=Nat.mul_le_mul_right _ hl
 omega
theorem stmtT_len {s:GStmt} (h:stmtOk s=true) (hb:bdS s):(wsT (stmtW s)).length≤1099619000000:=by
 have hv: ∀ (l:List GVal),∀w∈valW l,w.size≤1048576:=fun l w hw=>by have:=valW_size l w hw;omega
 unfold stmtW
 rcases stmt_kind h with ⟨k,v⟩|⟨k,v,v'⟩|⟨k,v⟩|k|⟨k,v⟩
 ·rw[if_pos k]
  have:=ws_small (l:= [bInsert,s.fTable]++valW s.fRow.fVals) (fun w hw=>by
   rcases List.mem_append.1 hw with hw|hw
   ·simp only[List.mem_cons,List.not_mem_nil,or_false] at hw
    rcases hw with rfl|rfl
    ·decide
    ·exact hb.1
   ·exact hv _ w hw) (by have:=vals_ok v;simp[valW_len];omega)
  omega
 ·rw[if_neg (by omega),if_pos k]
  have:=ws_small (l:= [bUpdate,s.fTable]++(valW s.fKey++bTo::valW s.fRow.fVals)) (fun w hw=>by
   rcases List.mem_append.1 hw with hw|hw
   ·simp only[List.mem_cons,List.not_mem_nil,or_false] at hw
    rcases hw with rfl|rfl
    ·decide
    ·exact hb.1
   ·rcases List.mem_append.1 hw with hw|hw
    ·exact hv _ w hw
    ·rcases List.mem_cons.1 hw with rfl|hw
     ·decide
     ·exact hv _ w hw) (by have:=vals_ok v;have:=vals_ok v';simp[valW_len];omega)
  omega
 ·rw[if_neg (by omega),if_neg (by omega),if_pos k]
  have:=ws_small (l:= [bDelete,s.fTable]++valW s.fKey) (fun w hw=>by
   rcases List.mem_append.1 hw with hw|hw
   ·simp only[List.mem_cons,List.not_mem_nil,or_false] at hw
    rcases hw with rfl|rfl
    ·decide
    ·exact hb.1
   ·exact hv _ w hw) (by have:=vals_ok v;simp[valW_len];omega)
  omega
 ·rw[if_neg (by omega),if_neg (by omega),if_neg (by omega),if_pos k]
  have:=ws_small (l:= [bClear,s.fTable]) (fun w hw=>by
   simp only[List.mem_cons,List.not_mem_nil,or_false] at hw
   rcases hw with rfl|rfl
   ·decide
   ·exact hb.1) (by simp)
  omega
 ·rw[if_neg (by omega),if_neg (by omega),if_neg (by omega),if_neg (by omega)]
  exact ddlT_len v hb.2
theorem stmtTextI_ok (s:GStmt) (hs:okStmt s) (hb:bdS s):VC Tryz.prog 194 [vStmt s] [(false,[(.s,.sc (.string (ofT (stmtT s))))])]:=by
 obtain ⟨_,ht,hk,hr,hd,_⟩:=id hs
 refine vc_of_ew good hm [0,1,2,5,7,8,18,31,40] Tryz.func194 rfl (by kernel_rfl) (by kernel_rfl) rfl ?_
 simp[Tryz.f194,szMk]
 refine .of (stmtOkI_ok _ hs hb.2.2.2.2.2.2 hb.2.2.2.2.1) ?_
 simp[szMk]
 refine ⟨fun h=>by simp[stmtT,h,ofT],fun h=> ?_⟩
 have hT:=stmtT_len h hb
 have hkd:=stmt_kind h
 have v1:s.fKind=1→valsOk s.fRow.fVals=true:=fun k=>by
  rcases hkd with h5|h5|h5|h5|h5<;>first|exact h5.2|(exfalso;omega)
 have v2:s.fKind=2→valsOk s.fKey=true∧valsOk s.fRow.fVals=true:=fun k=>by
  rcases hkd with h5|h5|h5|h5|h5<;>first|exact h5.2|(exfalso;omega)
 have v3:s.fKind=3→valsOk s.fKey=true:=fun k=>by
  rcases hkd with h5|h5|h5|h5|h5<;>first|exact h5.2|(exfalso;omega)
 have v5: ¬s.fKind=1→ ¬s.fKind=2→ ¬s.fKind=3→ ¬s.fKind=4→ddlOk s.fDdl=true:=fun k1 k2 k3 k4=>by
  rcases hkd with h5|h5|h5|h5|h5<;>first|exact h5.2|(exfalso;omega)
 have htb:=hb.1
 refine ⟨fun k=> ?_,fun k1=>⟨fun k=> ?_,fun k2=>⟨fun k=> ?_,fun k3=>⟨fun k=> ?_,fun k4=> ?_⟩⟩⟩⟩
 ·have e1:wsT [bInsert,s.fTable,ofT (wsT (valW s.fRow.fVals))]=wsT (stmtW s):=by
   have:=wsT_nest (A:= [bInsert,s.fTable]) (by simp) (valW_ne (v1 k))
   simpa [stmtW,k] using this
  refine .of (valsI_ok _ (by have:=vals_ok (v1 k);omega)) ?_
  simp
  refine .of (gluedI_ok [bInsert,s.fTable,ofT (wsT (valW s.fRow.fVals))] (by simp) (by rw[e1];omega)) ?_
  simp[stmtT,h,e1]
 ·have e2:wsT [bUpdate,s.fTable,ofT (wsT (valW s.fKey)),bTo,ofT (wsT (valW s.fRow.fVals))]=wsT (stmtW s):=by
   cases hK:valW s.fKey with
   |nil=>exact absurd hK (valW_ne (v2 k).1)
   |cons a r=>
    cases hR:valW s.fRow.fVals with
    |nil=>exact absurd hR (valW_ne (v2 k).2)
    |cons b q=>simp[stmtW,k,hK,hR,wsT,joinT]
  refine .of (valsI_ok _ (by have:=vals_ok (v2 k).1;omega)) ?_
  simp
  refine .of (valsI_ok _ (by have:=vals_ok (v2 k).2;omega)) ?_
  simp
  refine .of (gluedI_ok [bUpdate,s.fTable,ofT (wsT (valW s.fKey)),bTo,ofT (wsT (valW s.fRow.fVals))] (by simp) (by rw[e2];omega)) ?_
  simp[stmtT,h,e2]
 ·have e3:wsT [bDelete,s.fTable,ofT (wsT (valW s.fKey))]=wsT (stmtW s):=by
   have:=wsT_nest (A:= [bDelete,s.fTable]) (by simp) (valW_ne (v3 k))
   simpa [stmtW,k] using this
  refine .of (valsI_ok _ (by have:=vals_ok (v3 k);omega)) ?_
  simp
  refine .of (gluedI_ok [bDelete,s.fTable,ofT (wsT (valW s.fKey))] (by simp) (by rw[e3];omega)) ?_
  simp[stmtT,h,e3]
 ·exact ⟨by omega,tx_ext (by simp[stmtT,h,stmtW,k,bClear,wsT,joinT])⟩
 ·refine .of (ddlTextI_ok _ hd hb.2) ?_
  simp[stmtT,h,stmtW,k1,k2,k3,k4,ddlT,v5 k1 k2 k3 k4]
theorem stmtTextS_ok (s:GStmt) (hs:okStmt s) (hb:bdS s):VC Tryz.prog 191 [vStmt s] [(false,[(.s,.sc (.string (ofT (stmtT s))))])]:=by
 obtain ⟨_,ht,hk,hr,hd,_⟩:=id hs
 refine vc_of_ew good hm [0,1,2,6,8,9,20,3,38,48] Tryz.func191 rfl (by kernel_rfl) (by kernel_rfl) rfl ?_
 simp[Tryz.f191,szMk]
 refine .of (stmtOkS_ok _ hs) ?_
 simp[szMk]
 refine ⟨fun h=>by simp[stmtT,h,ofT],fun h=> ?_⟩
 have hT:=stmtT_len h hb
 have hkd:=stmt_kind h
 have v1:s.fKind=1→valsOk s.fRow.fVals=true:=fun k=>by
  rcases hkd with h5|h5|h5|h5|h5<;>first|exact h5.2|(exfalso;omega)
 have v2:s.fKind=2→valsOk s.fKey=true∧valsOk s.fRow.fVals=true:=fun k=>by
  rcases hkd with h5|h5|h5|h5|h5<;>first|exact h5.2|(exfalso;omega)
 have v3:s.fKind=3→valsOk s.fKey=true:=fun k=>by
  rcases hkd with h5|h5|h5|h5|h5<;>first|exact h5.2|(exfalso;omega)
 have v5: ¬s.fKind=1→ ¬s.fKind=2→ ¬s.fKind=3→ ¬s.fKind=4→ddlOk s.fDdl=true:=fun k1 k2 k3 k4=>by
  rcases hkd with h5|h5|h5|h5|h5<;>first|exact h5.2|(exfalso;omega)
 have htb:=hb.1
 refine ⟨fun k=> ?_,fun k1=>⟨fun k=> ?_,fun k2=>⟨fun k=> ?_,fun k3=>⟨fun k=> ?_,fun k4=> ?_⟩⟩⟩⟩
 ·have e1:stmtW s= [bInsert,s.fTable]++valW s.fRow.fVals:=by simp[stmtW,k]
  have hv:=vals_ok (v1 k)
  have hvl:=valW_len s.fRow.fVals
  refine .of (valsS_ok _ (by omega)) ?_
  simp[mStrS]
  refine ⟨by omega,.of (joinS_ok ([bInsert,s.fTable]++valW s.fRow.fVals) (by simp;omega) (by rw[←e1];omega)) ?_⟩
  simp[stmtT,h,e1]
 ·have e2:stmtW s=([bUpdate,s.fTable]++valW s.fKey)++bTo::valW s.fRow.fVals:=by simp[stmtW,k]
  have hv:=vals_ok (v2 k).1
  have hv':=vals_ok (v2 k).2
  have hvl:=valW_len s.fRow.fVals
  have hkl:=valW_len s.fKey
  refine .of (valsS_ok _ (by omega)) ?_
  simp[mStrS]
  refine ⟨by omega,by omega,.of (valsS_ok _ (by omega)) ?_⟩
  simp[mStrS]
  have e2':stmtW s= [bUpdate,s.fTable]++(valW s.fKey++bTo::valW s.fRow.fVals):=by simp[stmtW,k]
  have hj:=joinS_ok ([bUpdate,s.fTable]++(valW s.fKey++bTo::valW s.fRow.fVals)) (by simp;omega) (by rw[←e2'];omega)
  simp only[vStrS,List.map_append,List.map_cons,List.cons_append,List.nil_append,List.map_nil] at hj
  refine ⟨by omega,.of hj ?_⟩
  simp[stmtT,h,e2']
 ·have e3:stmtW s= [bDelete,s.fTable]++valW s.fKey:=by simp[stmtW,k]
  have hv:=vals_ok (v3 k)
  have hvl:=valW_len s.fKey
  refine .of (valsS_ok _ (by omega)) ?_
  simp[mStrS]
  refine ⟨by omega,.of (joinS_ok ([bDelete,s.fTable]++valW s.fKey) (by simp;omega) (by rw[←e3];omega)) ?_⟩
  simp[stmtT,h,e3]
 ·exact ⟨by omega,tx_ext (by simp[stmtT,h,stmtW,k,bClear,wsT,joinT])⟩
 ·refine .of (ddlTextS_ok _ hd hb.2) ?_
  simp[stmtT,h,stmtW,k1,k2,k3,k4,ddlT,v5 k1 k2 k3 k4]
end Go.Proofs.YtcgalnoekjnjoaaGreat
namespace Go.Proofs.YtcgalnoekjnjoaaGreat
open Go Go.Proofs Go.Sm
attribute [local simp] ti eStr eInt eByte eVal cVal vVal eValS vValS eRow cRow vRow eCol vCol vColS eStrS vStrS cDdl vDdl vStmt ePart vPart eTable cTable vTable vTableS cCat vCat vRowS eRows vRows vRowsS eDb cDb vDb eSnap vSnap
set_option linter.unusedVariables false
set_option linter.unusedSimpArgs false
theorem bdD_of {d:GDdl} (hs: ∀n∈wDdl d,n≤1048576):bdD d:=by
 simp only[wDdl,wColS,wStrS,List.mem_cons,List.mem_append,List.not_mem_nil,or_false] at hs
 refine ⟨hs _ (.inl rfl),hs _ (.inr (.inr (.inr (.inl rfl)))),hs _ (.inr (.inr (.inr (.inr rfl)))),hs _ (.inr (.inr (.inl (.inl rfl)))),fun k hk=>hs _ (.inr (.inr (.inl (.inr (List.mem_flatMap.2 ⟨k,hk,by simp[wStr]⟩))))),hs _ (.inr (.inl (.inl rfl)))⟩
theorem stmtT_len2 {s:GStmt} (hb:bdS s):(stmtT s).length≤1099619000000:=by
 unfold stmtT
 split
 ·rename_i h
  exact stmtT_len h hb
 ·simp
end Go.Proofs.YtcgalnoekjnjoaaGreat
namespace Go.Proofs.YtcgalnoekjnjoaaGreat
open Go Go.Proofs Go.Sm
attribute [local simp] ti eStr eInt eByte eVal cVal vVal eValS vValS eRow cRow vRow eCol vCol vColS eStrS vStrS cDdl vDdl vStmt ePart vPart eTable cTable vTable vTableS cCat vCat vRowS eRows vRows vRowsS eDb cDb vDb eSnap vSnap
set_option linter.unusedVariables false
set_option linter.unusedSimpArgs false
def crD (t:GTable):GDdl:=⟨1,t.fName,t.fCols,t.fKeys,⟨#[]⟩,⟨#[]⟩⟩
def insS (t:GTable) (r:GRow):GStmt:=⟨1,t.fName,[],r,⟨0,⟨#[]⟩,[],[],⟨#[]⟩,⟨#[]⟩⟩⟩
def rowT (t:GTable) (r:GRow):List UInt8:=stmtT (insS t r)++ [10]
def rowsT (t:GTable) (l:List GRow):List UInt8:=l.flatMap (rowT t)
def blkT (d:GDb) (i:Nat):List UInt8:=(ddlT (crD (d.fCat.fTables[i]?.getD dTable))++ [10])++rowsT (d.fCat.fTables[i]?.getD dTable) (d.fData[i]?.getD dRows).fRows
def blksT (d:GDb) (n:Nat):List UInt8:=(List.range n).flatMap (blkT d)
def dbT (d:GDb):List UInt8:=if dbOk d=true then blksT d d.fCat.fTables.length else []
theorem blksT_succ (d:GDb) (n:Nat):blksT d (n+1)=blksT d n++blkT d n:=by simp[blksT,List.range_succ]
theorem rowsT_take {t:GTable} {l:List GRow} {i:Nat} (h:i<l.length):rowsT t (l.take (i+1))=rowsT t (l.take i)++rowT t (l[i]?.getD dRow):=by
 unfold rowsT
 rw[List.take_succ_eq_append_getElem h,List.getElem?_eq_getElem h,List.flatMap_append]
 simp
theorem ddlT_len2 {d:GDdl} (hb:bdD d):(ddlT d).length≤1099619000000:=by
 unfold ddlT
 split
 ·rename_i h
  exact ddlT_len h hb
 ·simp
def bdT (t:GTable):Prop:= ∀n∈wTable t,n≤1048576
theorem bdD_cr {t:GTable} (h:bdT t):bdD (crD t):=by
 refine bdD_of fun n hn=> ?_
 simp only[wDdl,crD,List.mem_cons,List.mem_append,List.not_mem_nil,or_false] at hn
 rcases hn with rfl|hn|hn|rfl|rfl
 ·exact h _ (by simp[wTable])
 ·exact h _ (by simp[wTable,hn])
 ·exact h _ (by simp[wTable,hn])
 ·decide
 ·decide
theorem bdS_ins {t:GTable} (h:bdT t) (r:GRow):bdS (insS t r):=
 ⟨h _ (by simp[wTable,insS]),by simp[insS,szMk],by simp[insS,szMk],by simp[insS,szMk],by simp[insS],by simp[insS],by simp[insS]⟩
theorem rowsT_len {t:GTable} (h:bdT t) (l:List GRow):(rowsT t l).length≤l.length*1099619000001:=by
 induction l with
 |nil=>simp[rowsT]
 |cons r l ih=>
  have h1:=stmtT_len2 (bdS_ins h r)
  simp only[rowsT,List.flatMap_cons,List.length_append,List.length_cons,rowT,List.length_nil,Nat.add_mul,Nat.one_mul] at ih⊢
  omega
theorem db_len {d:GDb} (h:dbOk d=true):d.fCat.fTables.length≤6∧d.fData.length=d.fCat.fTables.length∧ ∀i,i<d.fCat.fTables.length→(d.fData[i]?.getD dRows).fRows.length≤60:=by
 simp only[dbOk,catOk,dbTo,Bool.and_eq_true,decide_eq_true_eq,List.all_eq_true,List.mem_range] at h
 refine ⟨by omega,by omega,fun i hi=> ?_⟩
 have h1:=h.2.2 i hi
 simp only[dbAt,rowsOk,Bool.and_eq_true,decide_eq_true_eq] at h1
 omega
theorem okD_cr {t:GTable} (h:okTable t):okDdl (crD t):=⟨by unfold okI;simp[crD],h.1,h.2.1,h.2.2.1,by simp[crD,okM,szMk],by simp[crD,okM,szMk],trivial⟩
theorem okS_ins {t:GTable} {r:GRow} (h:okTable t) (hr:okRow r):okStmt (insS t r):=by
 refine ⟨by unfold okI;simp[insS],h.1, ?_,hr, ?_,trivial⟩
 ·simp[insS,okValS,okM]
 ·simp[insS,okDdl,okI,okM,szMk,okColS,okStrS]
theorem blkT_len {d:GDb} (h:dbOk d=true) (hs: ∀t∈d.fCat.fTables,bdT t) {i:Nat} (hi:i<d.fCat.fTables.length):(blkT d i).length≤68000000000000:=by
 have hb:=hs _ (getD_mem dTable hi)
 have h1:=ddlT_len2 (bdD_cr hb)
 have h2:=rowsT_len hb (d.fData[i]?.getD dRows).fRows
 have h3:=(db_len h).2.2 i hi
 have h4:(d.fData[i]?.getD dRows).fRows.length*1099619000001≤60*1099619000001:=Nat.mul_le_mul_right _ h3
 simp only[blkT,List.length_append,List.length_cons,List.length_nil]
 omega
theorem blksT_len {d:GDb} (h:dbOk d=true) (hs: ∀t∈d.fCat.fTables,bdT t): ∀n,n≤d.fCat.fTables.length→(blksT d n).length≤n*68000000000000:=by
 intro n
 induction n with
 |zero=>intro _;simp[blksT]
 |succ n ih=>
  intro hn
  have h1:=ih (by omega)
  have h2:=blkT_len h hs (show n<d.fCat.fTables.length by omega)
  rw[blksT_succ,List.length_append,Nat.add_mul,Nat.one_mul]
  omega
theorem dbTextS_ok (d:GDb) (hd:okDb d) (hs: ∀t∈d.fCat.fTables,bdT t) (hk: ∀t∈d.fCat.fTables,t.fKeys.length≤1048576):VC Tryz.prog 95 [vDb d] [(false,[(.s,.sc (.string (ofT (dbT d))))])]:=by
 refine vc_of_ew good hm [0,1,2,10,3,13,14,15,16,5,4,36,37,38,39,7] Tryz.func95 rfl (by kernel_rfl) (by kernel_rfl) rfl ?_
 simp[Tryz.f95,szMk]
 refine .of (dbOkS_ok _ hd hk) ?_
 simp[szMk]
 refine ⟨fun h=>by simp[dbT,h,ofT],fun h=> ?_⟩
 refine ew_loop (fun E=> ∃i:Nat,i≤d.fCat.fTables.length∧E= {nt:=53,sl:= [(1,.p (.bx 1 0)),(3,str (ofT (blksT d i))),(13,vTableS d.fCat.fTables),(14,int .i64 d.fCat.fTables.length),(15,int .i64 i)],bx:= [(1,cDb d)],rt:= []}) (fun E=>d.fCat.fTables.length- (E.num 15).toNat) _ (Gh.kb _ [1,3,13,14,15] [1] []) ⟨0,by omega,by simp[blksT,ofT]⟩ ?_
 rintro E1 ⟨i,hi,rfl⟩
 obtain ⟨hn6,hdl,hr60⟩:=db_len h
 have hbl:=blksT_len h hs i hi
 have hbl2:i*68000000000000≤6*68000000000000:=Nat.mul_le_mul_right _ (by omega)
 simp[szMk]
 refine ⟨fun hil=>⟨hil, ?_⟩,fun hil=> ?_⟩
 ·have hm:=getD_mem dTable hil
  have hot:=hd.1.1.2 _ hm
  have hbt:=hs _ hm
  have hdt:=ddlT_len2 (bdD_cr hbt)
  have hor:=hd.2.1.2 _ (getD_mem dRows (show i<d.fData.length by omega))
  refine .of (ddlTextS_ok (crD (d.fCat.fTables[i]?.getD dTable)) (okD_cr hot) (bdD_cr hbt)) ?_
  simp[szMk]
  refine ⟨by omega,by omega,by omega, ?_⟩
  refine ew_loop (fun E=> ∃j:Nat,j≤(d.fData[i]?.getD dRows).fRows.length∧E= {nt:=53,sl:= [(1,.p (.bx 1 0)),(3,str (ofT (blksT d i++((ddlT (crD (d.fCat.fTables[i]?.getD dTable))++ [10])++rowsT (d.fCat.fTables[i]?.getD dTable) ((d.fData[i]?.getD dRows).fRows.take j))))),(13,vTableS d.fCat.fTables),(14,int .i64 d.fCat.fTables.length),(15,int .i64 i),(5,.p (.bx 5 0)),(36,vRowS (d.fData[i]?.getD dRows).fRows),(37,int .i64 (d.fData[i]?.getD dRows).fRows.length),(38,int .i64 j)],bx:= [(1,cDb d),(5,cTable (d.fCat.fTables[i]?.getD dTable))],rt:= []}) (fun E=>(d.fData[i]?.getD dRows).fRows.length- (E.num 38).toNat) _ (Gh.kb _ [1,3,13,14,15,5,36,37,38] [1,5] []) ⟨0,by omega, ?_⟩ ?_
  ·simp[rowsT]
   exact tx_ext (by simp)
  rintro E2 ⟨j,hj,rfl⟩
  have hrl:=rowsT_len hbt ((d.fData[i]?.getD dRows).fRows.take j)
  rw[List.length_take] at hrl
  have h60:=hr60 i hil
  have hr2:min j (d.fData[i]?.getD dRows).fRows.length*1099619000001≤60*1099619000001:=Nat.mul_le_mul_right _ (by omega)
  simp[szMk]
  refine ⟨fun hjl=>⟨hjl, ?_⟩,fun hjl=> ?_⟩
  ·have hst:=stmtT_len2 (bdS_ins hbt ((d.fData[i]?.getD dRows).fRows[j]?.getD dRow))
   refine .of (stmtTextS_ok (insS (d.fCat.fTables[i]?.getD dTable) ((d.fData[i]?.getD dRows).fRows[j]?.getD dRow)) (okS_ins hot (hor.1.2 _ (getD_mem dRow hjl))) (bdS_ins hbt _)) ?_
   simp[szMk]
   refine ⟨by omega,by omega,.of _ (Gh.kb _ [1,3,13,14,15,5,36,37,38] [1,5] []) ⟨j+1,by omega, ?_⟩ ?_⟩
   ·rw[rowsT_take hjl,rowT]
    simp[wrapS (show j<9223372036854775807 by omega)]
    exact tx_ext (by simp)
   ·simp[wrapS (show j<9223372036854775807 by omega)];omega
  ·have hj':j=(d.fData[i]?.getD dRows).fRows.length:=by omega
   subst hj'
   refine .of _ (Gh.kb _ [1,3,13,14,15] [1] []) ⟨i+1,by omega, ?_⟩ ?_
   ·rw[blksT_succ,blkT,List.take_length]
    simp[wrapS (show i<9223372036854775807 by omega)]
   ·simp[wrapS (show i<9223372036854775807 by omega)];omega
 ·have hi':i=d.fCat.fTables.length:=by omega
  subst hi'
  simp[dbT,h]
theorem creates_ok (t:GTable) (h:bdD (crD t)):VC Tryz.prog 193 [vTable t] [(true,mDdl (crD t))]:=by
 refine vc_of_ew good hm [0,1,2,3] Tryz.func193 rfl (by kernel_rfl) (by kernel_rfl) rfl ?_
 simp[Tryz.f193,mDdl]
 refine .of (copyTable_ok t h.2.2.2.2.2 h.2.2.2.1) ?_
 simp[mTable,md,lf,List.range',crD]
theorem dbTextI_ok (d:GDb) (hd:okDb d) (hs: ∀t∈d.fCat.fTables,bdT t) (hk: ∀t∈d.fCat.fTables,t.fKeys.length≤1048576):VC Tryz.prog 99 [vDb d] [(false,[(.s,.sc (.string (ofT (dbT d))))])]:=by
 refine vc_of_ew good hm [0,1,2,10,3,13,14,15,16,5,4,31,32,33,34,7] Tryz.func99 rfl (by kernel_rfl) (by kernel_rfl) rfl ?_
 simp[Tryz.f99,szMk]
 refine .of (dbOkI_ok _ hd hk) ?_
 simp[szMk]
 refine ⟨fun h=>by simp[dbT,h,ofT],fun h=> ?_⟩
 refine ew_loop (fun E=> ∃i:Nat,i≤d.fCat.fTables.length∧E= {nt:=48,sl:= [(1,.p (.bx 1 0)),(3,str (ofT (blksT d i))),(13,vTableS d.fCat.fTables),(14,int .i64 d.fCat.fTables.length),(15,int .i64 i)],bx:= [(1,cDb d)],rt:= []}) (fun E=>d.fCat.fTables.length- (E.num 15).toNat) _ (Gh.kb _ [1,3,13,14,15] [1] []) ⟨0,by omega,by simp[blksT,ofT]⟩ ?_
 rintro E1 ⟨i,hi,rfl⟩
 obtain ⟨hn6,hdl,hr60⟩:=db_len h
 have hbl:=blksT_len h hs i hi
 have hbl2:i*68000000000000≤6*68000000000000:=Nat.mul_le_mul_right _ (by omega)
 simp[szMk]
 refine ⟨fun hil=>⟨hil, ?_⟩,fun hil=> ?_⟩
 ·have hm:=getD_mem dTable hil
  have hot:=hd.1.1.2 _ hm
  have hbt:=hs _ hm
  have hdt:=ddlT_len2 (bdD_cr hbt)
  have hor:=hd.2.1.2 _ (getD_mem dRows (show i<d.fData.length by omega))
  refine .of (creates_ok (d.fCat.fTables[i]?.getD dTable) (bdD_cr hbt)) ?_
  simp[mDdl]
  refine .of (ddlTextI_ok (crD (d.fCat.fTables[i]?.getD dTable)) (okD_cr hot) (bdD_cr hbt)) ?_
  simp[szMk]
  refine ⟨by omega,by omega,by omega, ?_⟩
  refine ew_loop (fun E=> ∃j:Nat,j≤(d.fData[i]?.getD dRows).fRows.length∧E= {nt:=48,sl:= [(1,.p (.bx 1 0)),(3,str (ofT (blksT d i++((ddlT (crD (d.fCat.fTables[i]?.getD dTable))++ [10])++rowsT (d.fCat.fTables[i]?.getD dTable) ((d.fData[i]?.getD dRows).fRows.take j))))),(13,vTableS d.fCat.fTables),(14,int .i64 d.fCat.fTables.length),(15,int .i64 i),(5,.p (.bx 5 0)),(31,vRowS (d.fData[i]?.getD dRows).fRows),(32,int .i64 (d.fData[i]?.getD dRows).fRows.length),(33,int .i64 j)],bx:= [(1,cDb d),(5,cTable (d.fCat.fTables[i]?.getD dTable))],rt:= []}) (fun E=>(d.fData[i]?.getD dRows).fRows.length- (E.num 33).toNat) _ (Gh.kb _ [1,3,13,14,15,5,31,32,33] [1,5] []) ⟨0,by omega, ?_⟩ ?_
  ·simp[rowsT]
   exact tx_ext (by simp)
  rintro E2 ⟨j,hj,rfl⟩
  have hrl:=rowsT_len hbt ((d.fData[i]?.getD dRows).fRows.take j)
  rw[List.length_take] at hrl
  have h60:=hr60 i hil
  have hr2:min j (d.fData[i]?.getD dRows).fRows.length*1099619000001≤60*1099619000001:=Nat.mul_le_mul_right _ (by omega)
  simp[szMk]
  refine ⟨fun hjl=>⟨hjl, ?_⟩,fun hjl=> ?_⟩
  ·have hst:=stmtT_len2 (bdS_ins hbt ((d.fData[i]?.getD dRows).fRows[j]?.getD dRow))
   refine .of (stmtTextI_ok (insS (d.fCat.fTables[i]?.getD dTable) ((d.fData[i]?.getD dRows).fRows[j]?.getD dRow)) (okS_ins hot (hor.1.2 _ (getD_mem dRow hjl))) (bdS_ins hbt _)) ?_
   simp[szMk]
   refine ⟨by omega,by omega,.of _ (Gh.kb _ [1,3,13,14,15,5,31,32,33] [1,5] []) ⟨j+1,by omega, ?_⟩ ?_⟩
   ·rw[rowsT_take hjl,rowT]
    simp[wrapS (show j<9223372036854775807 by omega)]
    exact tx_ext (by simp)
   ·simp[wrapS (show j<9223372036854775807 by omega)];omega
  ·have hj':j=(d.fData[i]?.getD dRows).fRows.length:=by omega
   subst hj'
   refine .of _ (Gh.kb _ [1,3,13,14,15] [1] []) ⟨i+1,by omega, ?_⟩ ?_
   ·rw[blksT_succ,blkT,List.take_length]
    simp[wrapS (show i<9223372036854775807 by omega)]
   ·simp[wrapS (show i<9223372036854775807 by omega)];omega
 ·have hi':i=d.fCat.fTables.length:=by omega
  subst hi'
  simp[dbT,h]
end Go.Proofs.YtcgalnoekjnjoaaGreat
namespace Go.Proofs.YtcgalnoekjnjoaaGreat
open Go Go.Proofs Go.Sm
attribute [local simp] ti eStr eInt eByte eVal cVal vVal eValS vValS eRow cRow vRow eCol vCol vColS eStrS vStrS cDdl vDdl vStmt ePart vPart eTable cTable vTable vTableS cCat vCat vRowS eRows vRows vRowsS eDb cDb vDb eSnap vSnap
set_option linter.unusedVariables false
set_option linter.unusedSimpArgs false
theorem toList_ofT (l:List UInt8):(ofT l).toList=l:=by
 rw[Lib.toList_data]
 rfl
theorem dbT_len {d:GDb} (hs: ∀t∈d.fCat.fTables,bdT t):(dbT d).length≤408000000000000:=by
 unfold dbT
 split
 ·rename_i h
  have h1:=blksT_len h hs _ (Nat.le_refl _)
  have h2:=(db_len h).1
  omega
 ·simp
end Go.Proofs.YtcgalnoekjnjoaaGreat
namespace Go.Proofs.YtcgalnoekjnjoaaGreat
open Go Go.Proofs Go.Sm
attribute [local simp] ti eStr eInt eByte eVal cVal vVal eValS vValS eRow cRow vRow eCol vCol vColS eStrS vStrS cDdl vDdl vStmt ePart vPart eTable cTable vTable vTableS cCat vCat vRowS eRows vRows vRowsS eDb cDb vDb eSnap vSnap
set_option linter.unusedVariables false
set_option linter.unusedSimpArgs false
def sumT (l:List UInt8):Nat:=l.foldl (fun h b=>(257*h+b.toNat+1)%16777213) 1
theorem sumT_snoc (l:List UInt8) (b:UInt8):sumT (l++ [b])=(257*sumT l+b.toNat+1)%16777213:=by simp[sumT]
theorem sumT_lt (l:List UInt8):sumT l<16777213:=by
 rcases List.eq_nil_or_concat l with rfl|⟨r,b,rfl⟩
 ·decide
 ·rw[List.concat_eq_append,sumT_snoc]
  omega
def snapOk (s:GSnap):Bool:=within s.fLsn 0 400&&dbOk s.fDb
def snT (s:GSnap):List UInt8:= [115,110,97,112,32]++(numT s.fLsn++(10::dbT s.fDb))
def snapT (s:GSnap):List UInt8:=if snapOk s=true then snT s++([115,117,109,32]++(numT (sumT (snT s))++ [10])) else []
theorem sumT_succ {l:List UInt8} {i:Nat} (h:i<l.length):sumT (l.take (i+1))=(257*sumT (l.take i)+(l[i]?.getD 0).toNat+1)%16777213:=by
 rw[List.take_succ_eq_append_getElem h,sumT_snoc]
 simp[h]
theorem sumS_ok (l:List UInt8) (hl:l.length≤1099511627776000):VC Tryz.prog 96 [list [.sc (.int .u8 0)] (l.map eByte)] [(false,[(.s,.sc (.int .i64 (sumT l:Int)))])]:=by
 refine vc_of_ew good hm [0,2,3,6,7,8,9,5] Tryz.func96 rfl (by kernel_rfl) (by kernel_rfl) rfl ?_
 simp[Tryz.f96]
 refine ew_loop (fun E=> ∃i:Nat,i≤l.length∧E= {nt:=21,sl:= [(3,int .i64 (sumT (l.take i):Nat)),(6,list [.sc (.int .u8 0)] (l.map eByte)),(7,int .i64 l.length),(8,int .i64 i)],bx:= [],rt:= []}) (fun E=>l.length- (E.num 8).toNat) _ (Gh.kb _ [3,6,7,8] [] []) ⟨0,by omega,by simp[sumT]⟩ ?_
 rintro E1 ⟨i,hi,rfl⟩
 have hlt:=sumT_lt (l.take i)
 have hsc:=fun h=>sumT_succ (l:=l) (i:=i) h
 generalize hS:sumT (l.take i)=S at hlt hsc
 simp
 refine ⟨fun h=> ?_,fun h=> ?_⟩
 ·replace hsc:=hsc h
  generalize l[i]?.getD 0=b at hsc
  have hb:=b.toNat_lt
  have hw:IntKind.i64.wrap (IntKind.i64.wrap (IntKind.i64.wrap (257* (S:Int))+IntKind.i64.wrap (b.toNat:Int))+1)=((257*S+b.toNat+1:Nat):Int):=by
   rw[wrapI (i:=257* (S:Int)) (by omega) (by omega),wrapI (i:=(b.toNat:Int)) (by omega) (by omega),wrapI (i:=257* (S:Int)+b.toNat) (by omega) (by omega),wrapI (by omega) (by omega)]
   omega
  refine ⟨h,.of _ (Gh.kb _ [3,6,7,8] [] []) ⟨i+1,by omega, ?_⟩ ?_⟩
  ·rw[hsc,hw,show (16777213:Int)=((16777213:Nat):Int) from rfl,Int.tmod_eq_emod_of_nonneg (by omega),←Int.natCast_emod]
   simp[wrapS (show i<9223372036854775807 by omega)]
  ·simp[wrapS (show i<9223372036854775807 by omega)];omega
 ·have:i=l.length:=by omega
  subst this
  rw[List.take_length] at hS
  rw[hS]
theorem sumI_ok (l:List UInt8) (hl:l.length≤1099511627776000):VC Tryz.prog 100 [list [.sc (.int .u8 0)] (l.map eByte)] [(false,[(.s,.sc (.int .i64 (sumT l:Int)))])]:=by
 refine vc_of_ew good hm [0,2,3,6,7,8,9,5] Tryz.func100 rfl (by kernel_rfl) (by kernel_rfl) rfl ?_
 simp[Tryz.f100]
 refine ew_loop (fun E=> ∃i:Nat,i≤l.length∧E= {nt:=21,sl:= [(3,int .i64 (sumT (l.take i):Nat)),(6,list [.sc (.int .u8 0)] (l.map eByte)),(7,int .i64 l.length),(8,int .i64 i)],bx:= [],rt:= []}) (fun E=>l.length- (E.num 8).toNat) _ (Gh.kb _ [3,6,7,8] [] []) ⟨0,by omega,by simp[sumT]⟩ ?_
 rintro E1 ⟨i,hi,rfl⟩
 have hlt:=sumT_lt (l.take i)
 have hsc:=fun h=>sumT_succ (l:=l) (i:=i) h
 generalize hS:sumT (l.take i)=S at hlt hsc
 simp
 refine ⟨fun h=> ?_,fun h=> ?_⟩
 ·replace hsc:=hsc h
  generalize l[i]?.getD 0=b at hsc
  have hb:=b.toNat_lt
  have hw:IntKind.i64.wrap (IntKind.i64.wrap (IntKind.i64.wrap (257* (S:Int))+IntKind.i64.wrap (b.toNat:Int))+1)=((257*S+b.toNat+1:Nat):Int):=by
   rw[wrapI (i:=257* (S:Int)) (by omega) (by omega),wrapI (i:=(b.toNat:Int)) (by omega) (by omega),wrapI (i:=257* (S:Int)+b.toNat) (by omega) (by omega),wrapI (by omega) (by omega)]
   omega
  refine ⟨h,.of _ (Gh.kb _ [3,6,7,8] [] []) ⟨i+1,by omega, ?_⟩ ?_⟩
  ·rw[hsc,hw,show (16777213:Int)=((16777213:Nat):Int) from rfl,Int.tmod_eq_emod_of_nonneg (by omega),←Int.natCast_emod]
   simp[wrapS (show i<9223372036854775807 by omega)]
  ·simp[wrapS (show i<9223372036854775807 by omega)];omega
 ·have:i=l.length:=by omega
  subst this
  rw[List.take_length] at hS
  rw[hS]
theorem l12Ok_ok (s:GSnap) (o0:okDb s.fDb) (hk: ∀x∈s.fDb.fCat.fTables,x.fKeys.length≤1048576):VC Tryz.prog 93 [vSnap s] [(false,[(.s,.sc (.bool (snapOk s)))])]:=by
 refine vc_of_ew good hm [0,1,2] Tryz.func93 rfl (by kernel_rfl) (by kernel_rfl) rfl ?_
 simp[Tryz.f93]
 refine .of (fun h=>⟨h,dbOkS_ok s.fDb o0 hk⟩) ?_
 simp
 grind[snapOk,within]
theorem snapOk_ok (s:GSnap) (o0:okDb s.fDb) (hk: ∀x∈s.fDb.fCat.fTables,x.fKeys.length≤1048576):VC Tryz.prog 97 [vSnap s] [(false,[(.s,.sc (.bool (snapOk s)))])]:=by
 refine vc_of_ew good hm [0,1,2] Tryz.func97 rfl (by kernel_rfl) (by kernel_rfl) rfl ?_
 simp[Tryz.f97]
 refine .of (within_ok _ _ _) ?_
 simp
 refine .of (fun h=>⟨h,dbOkI_ok s.fDb o0 hk⟩) ?_
 simp
 grind[snapOk,within]
theorem bdT_snap {f:GSnap} (hs: ∀n∈wSnap f,n≤1048576): ∀t∈f.fDb.fCat.fTables,bdT t:=fun t ht n hn=>hs n (by
 simp only[wSnap,wDb,wCat,wTableS,List.mem_append,List.mem_cons,List.mem_flatMap]
 exact .inl (.inl (.inl (.inr ⟨t,ht,hn⟩))))
theorem snapB {f:GSnap} (hs: ∀n∈wSnap f,n≤1048576): ∀t∈f.fDb.fCat.fTables,t.fKeys.length≤1048576:=fun t ht=>hs _ (by
 simp only[wSnap,wDb,wCat,wTableS,List.append_nil]
 refine List.mem_append_left _ (List.mem_cons_of_mem _ (List.mem_flatMap.2 ⟨t,ht, ?_⟩))
 simp[wTable,wStrS])
theorem S_SnapText_ok (f:GSnap) (o0:okSnap f) (hs: ∀n∈wSnap f,n≤1048576) (_:(wSnap f).sum≤1048576):VC Tryz.prog 21 [vSnap f] [(false,[(.s,.sc (.string (ofT (snapT f))))])]:=by
 have hb:=bdT_snap hs
 have hl:=dbT_len hb
 have hn1:=numT_len f.fLsn
 have hn2:=numT_len (sumT (snT f))
 refine vc_of_ew good hm [0,1,2,6,3] Tryz.func21 rfl (by kernel_rfl) (by kernel_rfl) rfl ?_
 simp[Tryz.f21,szMk]
 refine .of (l12Ok_ok f o0.2.1 (snapB hs)) ?_
 simp[szMk,toList_ofT]
 refine ⟨fun h=>by simp[snapT,h,ofT],fun a1=> .of (numTextS_ok _) ?_⟩
 simp[szMk]
 refine ⟨by omega,by omega,.of (dbTextS_ok f.fDb o0.2.1 hb (snapB hs)) ?_⟩
 simp[szMk]
 have hT:(({data:= #[115,110,97,112,32]}:ByteArray)++ofT (numT f.fLsn)++ {data:= #[10]}++ofT (dbT f.fDb))=ofT (snT f):=tx_ext (by simp[snT])
 have hTl:(snT f).length≤1099511627776000:=by simp[snT];omega
 rw[hT,toList_ofT]
 have hsu:=sumS_ok (snT f) hTl
 refine ⟨by omega,by omega,.of hsu ?_⟩
 simp[szMk]
 refine .of (numTextS_ok _) ?_
 simp[szMk]
 exact ⟨by omega,by omega,tx_ext (by simp[snapT,a1])⟩
theorem I_SnapText_ok (f:GSnap) (o0:okSnap f) (hs: ∀n∈wSnap f,n≤1048576) (_:(wSnap f).sum≤1048576):VC Tryz.prog 23 [vSnap f] [(false,[(.s,.sc (.string (ofT (snapT f))))])]:=by
 have hb:=bdT_snap hs
 have hl:=dbT_len hb
 have hn1:=numT_len f.fLsn
 have hn2:=numT_len (sumT (snT f))
 refine vc_of_ew good hm [0,1,2,6,3] Tryz.func23 rfl (by kernel_rfl) (by kernel_rfl) rfl ?_
 simp[Tryz.f23,szMk]
 refine .of (snapOk_ok f o0.2.1 (snapB hs)) ?_
 simp[szMk,toList_ofT]
 refine ⟨fun h=>by simp[snapT,h,ofT],fun a1=> .of (numTextI_ok _) ?_⟩
 simp[szMk]
 refine ⟨by omega,by omega,.of (dbTextI_ok f.fDb o0.2.1 hb (snapB hs)) ?_⟩
 simp[szMk]
 have hT:(({data:= #[115,110,97,112,32]}:ByteArray)++ofT (numT f.fLsn)++ {data:= #[10]}++ofT (dbT f.fDb))=ofT (snT f):=tx_ext (by simp[snT])
 have hTl:(snT f).length≤1099511627776000:=by simp[snT];omega
 rw[hT,toList_ofT]
 have hsu:=sumI_ok (snT f) hTl
 refine ⟨by omega,by omega,.of hsu ?_⟩
 simp[szMk]
 refine .of (numTextI_ok _) ?_
 simp[szMk]
 exact ⟨by omega,by omega,tx_ext (by simp[snapT,a1])⟩
end Go.Proofs.YtcgalnoekjnjoaaGreat
