import Derived.Test.YteeolohhmfjafaaGreatG5
import Derived.Test.YteeolohhmfjafaaGreatG4
set_option maxHeartbeats 8000000
set_option maxRecDepth 8000
namespace Go.Proofs.YteeolohhmfjafaaGreat
open Go Go.Proofs Go.Sm
attribute [local simp] ti eStr eInt eByte eVal vVal vValS vRow eCol vCol vColS vStrS cDdl vDdl vStmt ePart vPart vPartS eBatch cBatch vBatch eTable cTable vTable vTableS vCat vByteS vPack
set_option linter.unusedVariables false
set_option linter.unusedSimpArgs false
set_option maxRecDepth 8000
end Go.Proofs.YteeolohhmfjafaaGreat
namespace Go.Proofs.YteeolohhmfjafaaGreat
open Go Go.Proofs Go.Sm
attribute [local simp] ti eStr eInt eByte eVal vVal vValS vRow eCol vCol vColS vStrS cDdl vDdl vStmt ePart vPart vPartS eBatch cBatch vBatch eTable cTable vTable vTableS vCat vByteS vPack
set_option linter.unusedVariables false
set_option linter.unusedSimpArgs false
set_option maxRecDepth 8000
end Go.Proofs.YteeolohhmfjafaaGreat
namespace Go.Proofs.YteeolohhmfjafaaGreat
open Go Go.Proofs Go.Sm
attribute [local simp] ti eStr eInt eByte eVal vVal vValS vRow eCol vCol vColS vStrS cDdl vDdl vStmt ePart vPart vPartS eBatch cBatch vBatch eTable cTable vTable vTableS vCat vByteS vPack
set_option linter.unusedVariables false
set_option linter.unusedSimpArgs false
set_option maxRecDepth 8000
end Go.Proofs.YteeolohhmfjafaaGreat
namespace Go.Proofs.YteeolohhmfjafaaGreat
open Go Go.Proofs Go.Sm
attribute [local simp] ti eStr eInt eByte eVal vVal vValS vRow eCol vCol vColS vStrS cDdl vDdl vStmt ePart vPart vPartS eBatch cBatch vBatch eTable cTable vTable vTableS vCat vByteS vPack
set_option linter.unusedVariables false
set_option linter.unusedSimpArgs false
set_option maxRecDepth 8000
end Go.Proofs.YteeolohhmfjafaaGreat
namespace Go.Proofs.YteeolohhmfjafaaGreat
open Go Go.Proofs Go.Sm
attribute [local simp] ti eStr eInt eByte eVal vVal vValS vRow eCol vCol vColS vStrS cDdl vDdl vStmt ePart vPart vPartS eBatch cBatch vBatch eTable cTable vTable vTableS vCat vByteS vPack
set_option linter.unusedVariables false
set_option linter.unusedSimpArgs false
set_option maxRecDepth 8000
end Go.Proofs.YteeolohhmfjafaaGreat
namespace Go.Proofs.YteeolohhmfjafaaGreat
open Go Go.Proofs Go.Sm
attribute [local simp] ti eStr eInt eByte eVal vVal vValS vRow eCol vCol vColS vStrS cDdl vDdl vStmt ePart vPart vPartS eBatch cBatch vBatch eTable cTable vTable vTableS vCat vByteS vPack
set_option linter.unusedVariables false
set_option linter.unusedSimpArgs false
set_option maxRecDepth 8000
def sumT (l:List UInt8):Nat:=l.foldl (fun h b=>(257*h+b.toNat+1)%16777213) 1
theorem sumT_snoc (l:List UInt8) (b:UInt8):sumT (l++ [b])=(257*sumT l+b.toNat+1)%16777213:=by simp[sumT]
theorem sumT_lt (l:List UInt8):sumT l<16777213:=by
 rcases List.eq_nil_or_concat l with rfl|⟨r,b,rfl⟩
 ·decide
 ·rw[List.concat_eq_append,sumT_snoc]
  omega
theorem sumT_succ {l:List UInt8} {i:Nat} (h:i<l.length):sumT (l.take (i+1))=(257*sumT (l.take i)+(l[i]?.getD 0).toNat+1)%16777213:=by
 rw[List.take_succ_eq_append_getElem h,sumT_snoc]
 simp[h]
theorem sumS_ok (l:List UInt8) (hl:l.length≤1099511627776000):VC Tryz.prog 125 [list [.sc (.int .u8 0)] (l.map eByte)] [(false,[(.s,.sc (.int .i64 (sumT l:Int)))])]:=by
 refine vc_of_ew good hm [0,2,3,6,7,8,9,5] Tryz.func125 rfl (by kernel_rfl) (by kernel_rfl) rfl ?_
 simp[Tryz.f125]
 refine ew_loop (fun E=> ∃i:Nat,i≤l.length∧E= {nt:=21,sl:= [(3,int .i64 (sumT (l.take i):Nat)),(6,list [.sc (.int .u8 0)] (l.map eByte)),(7,int .i64 l.length),(8,int .i64 i)],bx:= [],rt:= []}) (fun E=>l.length- (E.num 8).toNat) _ (Gh.kb _ [3,6,7,8] [] []) ⟨0,by omega,by simp[sumT]⟩ ?_
 rintro E1 ⟨i,hi,rfl⟩
 have hlt:=sumT_lt (l.take i)
 have hsc:=fun h=>sumT_succ (l:=l) (i:=i) h
 generalize hS:sumT (l.take i)=S at hlt hsc
 simp
 refine ⟨fun h=> ?_,fun h=> ?_⟩
 ·replace hsc:=hsc h
  generalize l[i]?.getD 0=b at hsc
  have hb:=b.toNat_lt
  have hw:IntKind.i64.wrap (IntKind.i64.wrap (IntKind.i64.wrap (257* (S:Int))+IntKind.i64.wrap (b.toNat:Int))+1)=((257*S+b.toNat+1:Nat):Int):=by
   rw[wrapI (i:=257* (S:Int)) (by omega) (by omega),wrapI (i:=(b.toNat:Int)) (by omega) (by omega),wrapI (i:=257* (S:Int)+b.toNat) (by omega) (by omega),wrapI (by omega) (by omega)]
   omega
  refine ⟨h,.of _ (Gh.kb _ [3,6,7,8] [] []) ⟨i+1,by omega, ?_⟩ ?_⟩
  ·rw[hsc,hw,show (16777213:Int)=((16777213:Nat):Int) from rfl,Int.tmod_eq_emod_of_nonneg (by omega),←Int.natCast_emod]
   simp[wrapS (show i<9223372036854775807 by omega)]
  ·simp[wrapS (show i<9223372036854775807 by omega)];omega
 ·have:i=l.length:=by omega
  subst this
  rw[List.take_length] at hS
  rw[hS]
theorem sumI_ok (l:List UInt8) (hl:l.length≤1099511627776000):VC Tryz.prog 131 [list [.sc (.int .u8 0)] (l.map eByte)] [(false,[(.s,.sc (.int .i64 (sumT l:Int)))])]:=by
 refine vc_of_ew good hm [0,2,3,6,7,8,9,5] Tryz.func131 rfl (by kernel_rfl) (by kernel_rfl) rfl ?_
 simp[Tryz.f131]
 refine ew_loop (fun E=> ∃i:Nat,i≤l.length∧E= {nt:=21,sl:= [(3,int .i64 (sumT (l.take i):Nat)),(6,list [.sc (.int .u8 0)] (l.map eByte)),(7,int .i64 l.length),(8,int .i64 i)],bx:= [],rt:= []}) (fun E=>l.length- (E.num 8).toNat) _ (Gh.kb _ [3,6,7,8] [] []) ⟨0,by omega,by simp[sumT]⟩ ?_
 rintro E1 ⟨i,hi,rfl⟩
 have hlt:=sumT_lt (l.take i)
 have hsc:=fun h=>sumT_succ (l:=l) (i:=i) h
 generalize hS:sumT (l.take i)=S at hlt hsc
 simp
 refine ⟨fun h=> ?_,fun h=> ?_⟩
 ·replace hsc:=hsc h
  generalize l[i]?.getD 0=b at hsc
  have hb:=b.toNat_lt
  have hw:IntKind.i64.wrap (IntKind.i64.wrap (IntKind.i64.wrap (257* (S:Int))+IntKind.i64.wrap (b.toNat:Int))+1)=((257*S+b.toNat+1:Nat):Int):=by
   rw[wrapI (i:=257* (S:Int)) (by omega) (by omega),wrapI (i:=(b.toNat:Int)) (by omega) (by omega),wrapI (i:=257* (S:Int)+b.toNat) (by omega) (by omega),wrapI (by omega) (by omega)]
   omega
  refine ⟨h,.of _ (Gh.kb _ [3,6,7,8] [] []) ⟨i+1,by omega, ?_⟩ ?_⟩
  ·rw[hsc,hw,show (16777213:Int)=((16777213:Nat):Int) from rfl,Int.tmod_eq_emod_of_nonneg (by omega),←Int.natCast_emod]
   simp[wrapS (show i<9223372036854775807 by omega)]
  ·simp[wrapS (show i<9223372036854775807 by omega)];omega
 ·have:i=l.length:=by omega
  subst this
  rw[List.take_length] at hS
  rw[hS]
end Go.Proofs.YteeolohhmfjafaaGreat
namespace Go.Proofs.YteeolohhmfjafaaGreat
open Go Go.Proofs Go.Sm
attribute [local simp] ti eStr eInt eByte eVal vVal vValS vRow eCol vCol vColS vStrS cDdl vDdl vStmt ePart vPart vPartS eBatch cBatch vBatch eTable cTable vTable vTableS vCat vByteS vPack
set_option linter.unusedVariables false
set_option linter.unusedSimpArgs false
set_option maxRecDepth 8000
def wordsOk (l:List ByteArray):Bool:=decide ((l.length:Int)≤8)&& !l.any (fun s=> !wordOk s)
theorem areWords1_ok (s:ByteArray) (hs:okM s.size):VC Tryz.prog 346 [str s] [(false,[(.s,.sc (.bool (!wordOk s)))])]:=by
 refine vc_of_ew good hm [0,2] Tryz.func346 rfl (by kernel_rfl) (by kernel_rfl) rfl ?_
 simp[Tryz.f346]
 refine .of (wordOkI_ok s hs) ?_
 simp
theorem areWords_ok (l:List ByteArray) (hl:okStrS l):VC Tryz.prog 234 [vStrS l] [(false,[(.s,.sc (.bool (wordsOk l)))])]:=by
 refine vc_of_ew good hm [0,2] Tryz.func234 rfl (by kernel_rfl) (by kernel_rfl) rfl ?_
 simp[Tryz.f234]
 refine .of (fun h=>⟨h,hasStr0_ok l _ (fun s=> !wordOk s) hl.1 (fun x hx=>areWords1_ok x (hl.2 x hx))⟩) ?_
 simp[wordsOk]
theorem l09Words_ok (l:List ByteArray) (hl:okStrS l):VC Tryz.prog 228 [vStrS l] [(false,[(.s,.sc (.bool (wordsOk l)))])]:=by
 have hll:l.length≤9223372036854775807:=hl.1
 refine vc_of_ew good hm [0,2,5,6,7,8,4,13] Tryz.func228 rfl (by kernel_rfl) (by kernel_rfl) rfl ?_
 simp[Tryz.f228]
 refine ew_loop (fun E=> ∃i:Nat,i≤l.length∧anyT (fun s=> !wordOk s) l i=false∧E= {nt:=18,sl:= [(0,vStrS l),(5,vStrS l),(6,int .i64 l.length),(7,int .i64 i)],bx:= [],rt:= []}) (fun E=>l.length- (E.num 7).toNat) _ (Gh.kb _ [0,5,6,7] [] []) ⟨0,by omega,anyT_zero _ _,by simp⟩ ?_
 rintro E1 ⟨i,hi,hall,rfl⟩
 simp
 refine ⟨fun h=>⟨h,.of (wordOkS_ok _ (hl.2 _ (getD_mem ⟨#[]⟩ h))) ?_⟩,fun h=> ?_⟩
 ·simp
  refine ⟨fun hp=> ?_,fun hp=> .of _ (Gh.kb _ [0,5,6,7] [] []) ⟨i+1,by omega,by rw[anyT_succ _ ⟨#[]⟩ h,hall,hp];rfl, ?_⟩ ?_⟩
  ·have:l.any (fun s=> !wordOk s)=true:=List.any_eq_true.2 ⟨_,getD_mem ⟨#[]⟩ h,by rw[hp];rfl⟩
   simp only[wordsOk,this,Bool.not_true,Bool.and_false]
  ·simp[wrapS (show i<9223372036854775807 by omega)]
  ·simp[wrapS (show i<9223372036854775807 by omega)];omega
 ·have:i=l.length:=by omega
  subst this
  rw[anyT_all] at hall
  simp only[wordsOk,hall,Bool.not_false,Bool.and_true]
def partBad (p:GPart):Bool:= !(stmtOk p.fStmt&& (wordsOk p.fCols&&wordsOk p.fKeys))
def batchOk (b:GBatch):Bool:=within b.fLsn 1 400&& (within b.fPrev 0 (b.fLsn-1)&& (decide ((b.fParts.length:Int)≤60)&& !b.fParts.any partBad))
theorem batchOkS_ok (b:GBatch) (hb:okBatch b):VC Tryz.prog 121 [vBatch b] [(false,[(.s,.sc (.bool (batchOk b)))])]:=by
 have hl:b.fParts.length≤9223372036854775807:=hb.2.2.1.1
 refine vc_of_ew good hm [0,1,2,30,32,33,34,35,4,53] Tryz.func121 rfl (by kernel_rfl) (by kernel_rfl) rfl ?_
 simp[Tryz.f121,beqI]
 refine ⟨fun h=>by grind[batchOk,within],fun a1 a2 a3 a4 a5=> ?_⟩
 refine ew_loop (fun E=> ∃i:Nat,i≤b.fParts.length∧anyT partBad b.fParts i=false∧E= {nt:=55,sl:= [(32,vPartS b.fParts),(33,int .i64 b.fParts.length),(34,int .i64 i)],bx:= [],rt:= []}) (fun E=>b.fParts.length- (E.num 34).toNat) _ (Gh.kb _ [32,33,34] [] []) ⟨0,by omega,anyT_zero _ _,by simp⟩ ?_
 rintro E1 ⟨i,hi,hall,rfl⟩
 simp
 refine ⟨fun h=>⟨h, ?_⟩,fun h=> ?_⟩
 ·have hp:=hb.2.2.1.2 _ (getD_mem dPart h)
  refine .of (stmtOkS_ok _ hp.1) ?_
  simp
  refine .of (fun h=>⟨h,l09Words_ok _ hp.2.1⟩) ?_
  simp
  refine .of (fun h=>⟨h,l09Words_ok _ hp.2.2.1⟩) ?_
  simp
  have hat:partBad (b.fParts[i]?.getD dPart)= !(stmtOk (b.fParts[i]?.getD dPart).fStmt&& (wordsOk (b.fParts[i]?.getD dPart).fCols&&wordsOk (b.fParts[i]?.getD dPart).fKeys)):=rfl
  refine ⟨fun hbad=> ?_,fun h1 h2 h3=> .of _ (Gh.kb _ [32,33,34] [] []) ⟨i+1,by omega,by rw[anyT_succ _ dPart h,hall,hat,h1,h2,h3];rfl, ?_⟩ ?_⟩
  ·have:b.fParts.any partBad=true:=List.any_eq_true.2 ⟨_,getD_mem dPart h,by rw[hat];grind⟩
   simp only[batchOk,this,Bool.not_true,Bool.and_false]
  ·simp[wrapS (show i<9223372036854775807 by omega)]
  ·simp[wrapS (show i<9223372036854775807 by omega)];omega
 ·have:i=b.fParts.length:=by omega
  subst this
  rw[anyT_all] at hall
  grind[batchOk,within]
theorem batchOkI_ok (b:GBatch) (hb:okBatch b) (hs: ∀n∈wBatch b,n≤1048576):VC Tryz.prog 127 [vBatch b] [(false,[(.s,.sc (.bool (batchOk b)))])]:=by
 have hl:b.fParts.length≤9223372036854775807:=hb.2.2.1.1
 have hlsn:okI b.fLsn:=hb.1
 have hw:1≤b.fLsn→IntKind.i64.wrap (b.fLsn-1)=b.fLsn-1:=fun h=>wrapI (by omega) (by unfold okI at hlsn;omega)
 refine vc_of_ew good hm [0,1,2,6,7,8,9,4,27] Tryz.func127 rfl (by kernel_rfl) (by kernel_rfl) rfl ?_
 simp[Tryz.f127,beqI]
 refine ew_loop (fun E=> ∃i:Nat,i≤b.fParts.length∧anyT partBad b.fParts i=false∧E= {nt:=46,sl:= [(1,.p (.bx 1 0)),(6,vPartS b.fParts),(7,int .i64 b.fParts.length),(8,int .i64 i)],bx:= [(1,cBatch b)],rt:= []}) (fun E=>b.fParts.length- (E.num 8).toNat) _ (Gh.kb _ [1,6,7,8] [1] []) ⟨0,by omega,anyT_zero _ _,by simp⟩ ?_
 rintro E1 ⟨i,hi,hall,rfl⟩
 simp
 refine ⟨fun h=>⟨h, ?_⟩,fun h=> ?_⟩
 ·have hm:=getD_mem dPart h
  have hp:=hb.2.2.1.2 _ hm
  have hsp: ∀n∈wPart (b.fParts[i]?.getD dPart),n≤1048576:=fun n hn=>hs n (by
   simp only[wBatch,wPartS,List.append_nil]
   exact List.mem_cons_of_mem _ (List.mem_flatMap.2 ⟨_,hm,hn⟩))
  refine .of (stmtOkI_ok _ hp.1 (hsp _ (by simp[wPart,wStmt,wDdl,wColS])) (hsp _ (by simp[wPart,wStmt,wDdl,wStrS]))) ?_
  simp
  refine .of (fun h=>⟨h,areWords_ok _ hp.2.1⟩) ?_
  simp
  refine .of (fun h=>⟨h,areWords_ok _ hp.2.2.1⟩) ?_
  simp
  have hat:partBad (b.fParts[i]?.getD dPart)= !(stmtOk (b.fParts[i]?.getD dPart).fStmt&& (wordsOk (b.fParts[i]?.getD dPart).fCols&&wordsOk (b.fParts[i]?.getD dPart).fKeys)):=rfl
  refine ⟨fun hbad=> ?_,fun h1 h2 h3=> .of _ (Gh.kb _ [1,6,7,8] [1] []) ⟨i+1,by omega,by rw[anyT_succ _ dPart h,hall,hat,h1,h2,h3];rfl, ?_⟩ ?_⟩
  ·have:b.fParts.any partBad=true:=List.any_eq_true.2 ⟨_,getD_mem dPart h,by rw[hat];grind⟩
   simp only[batchOk,this,Bool.not_true,Bool.and_false]
  ·simp[wrapS (show i<9223372036854775807 by omega)]
  ·simp[wrapS (show i<9223372036854775807 by omega)];omega
 ·have:i=b.fParts.length:=by omega
  subst this
  rw[anyT_all] at hall
  refine .of (within_ok _ _ _) ?_
  simp
  refine .of (fun h=>⟨h,within_ok _ _ _⟩) ?_
  simp
  grind[batchOk,within]
end Go.Proofs.YteeolohhmfjafaaGreat
namespace Go.Proofs.YteeolohhmfjafaaGreat
open Go Go.Proofs Go.Sm
attribute [local simp] ti eStr eInt eByte eVal vVal vValS vRow eCol vCol vColS vStrS cDdl vDdl vStmt ePart vPart vPartS eBatch cBatch vBatch eTable cTable vTable vTableS vCat vByteS vPack
set_option linter.unusedVariables false
set_option linter.unusedSimpArgs false
set_option maxRecDepth 8000
end Go.Proofs.YteeolohhmfjafaaGreat
namespace Go.Proofs.YteeolohhmfjafaaGreat
open Go Go.Proofs Go.Sm
attribute [local simp] ti eStr eInt eByte eVal vVal vValS vRow eCol vCol vColS vStrS cDdl vDdl vStmt ePart vPart vPartS eBatch cBatch vBatch eTable cTable vTable vTableS vCat vByteS vPack
set_option linter.unusedVariables false
set_option linter.unusedSimpArgs false
set_option maxRecDepth 8000
theorem tl_inj {x y:ByteArray} (h:x.toList=y.toList):x=y:=by
 rw[Lib.toList_data,Lib.toList_data] at h
 exact ByteArray.ext (Array.toList_inj.1 h)
theorem adj_pw {α:Type} (R:α→α→Bool) (tr: ∀a b c,R a b=true→R b c=true→R a c=true) (d:α): ∀l:List α,(∀i,i<l.length→0<i→R (l[i-1]?.getD d) (l[i]?.getD d)=true)↔l.Pairwise (fun a b=>R a b=true)
 | []=>by simp
 | [x]=>by
  simp only[List.length_cons,List.length_nil,List.pairwise_cons,List.not_mem_nil,false_imp_iff,implies_true,List.Pairwise.nil,and_self,iff_true]
  intro i h1 h2
  omega
 |x::y::l=>by
  have ih:=adj_pw R tr d (y::l)
  rw[List.pairwise_cons,←ih]
  constructor
  ·intro h
   have h2: ∀i,i< (y::l).length→0<i→R ((y::l)[i-1]?.getD d) ((y::l)[i]?.getD d)=true:=fun i h1 h0=>by
    have:=h (i+1) (by simp only[List.length_cons] at*;omega) (by omega)
    rw[show i+1-1=(i-1)+1 by omega,List.getElem?_cons_succ,List.getElem?_cons_succ] at this
    exact this
   refine ⟨?_,h2⟩
   have hp:=ih.1 h2
   have h01:R x y=true:=by simpa using h 1 (by simp) (by omega)
   intro z hz
   rcases List.mem_cons.1 hz with rfl|hz
   ·exact h01
   ·exact tr _ _ _ h01 ((List.pairwise_cons.1 hp).1 z hz)
  ·rintro ⟨h1,h2⟩ i hi h0
   rcases Nat.lt_or_ge 1 i with hlt|hge
   ·have:=h2 (i-1) (by simp only[List.length_cons] at*;omega) (by omega)
    obtain ⟨k,rfl⟩: ∃k,i=k+2:=⟨i-2,by omega⟩
    simpa using this
   ·have:i=1:=by omega
    subst this
    simpa using h1 y (by simp)
theorem all_iff {α:Type} (p:α→Bool) (d:α) (l:List α):(∀i,i<l.length→p (l[i]?.getD d)=true)↔ ∀x∈l,p x=true:=by
 constructor
 ·intro h x hx
  obtain ⟨i,hi,rfl⟩:=List.getElem_of_mem hx
  simpa [List.getElem?_eq_getElem hi] using h i hi
 ·intro h i hi
  exact h _ (getD_mem d hi)
end Go.Proofs.YteeolohhmfjafaaGreat
namespace Go.Proofs.YteeolohhmfjafaaGreat
open Go Go.Proofs Go.Sm
attribute [local simp] ti eStr eInt eByte eVal vVal vValS vRow eCol vCol vColS vStrS cDdl vDdl vStmt ePart vPart vPartS eBatch cBatch vBatch eTable cTable vTable vTableS vCat vByteS vPack
set_option linter.unusedVariables false
set_option linter.unusedSimpArgs false
set_option maxRecDepth 8000
def cnm (l:List GCol):List ByteArray:=l.map (·.fName)
def pos (l:List ByteArray) (s:ByteArray):Nat:=l.findIdx (fun x=>x.toList==s.toList)
theorem tl_beq (x y:ByteArray):(x.toList==y.toList)=true↔x=y:=by
 simp only[beq_iff_eq]
 exact ⟨tl_inj,fun h=>by rw[h]⟩
theorem pos_cons (x:ByteArray) (l:List ByteArray) (s:ByteArray):pos (x::l) s=if x=s then 0 else pos l s+1:=by
 unfold pos
 rw[List.findIdx_cons]
 by_cases h:x=s
 ·rw[if_pos h,(tl_beq x s).2 h];rfl
 ·rw[if_neg h,Bool.eq_false_iff.2 (fun e=>h ((tl_beq x s).1 e))];rfl
theorem pos_lt {l:List ByteArray} {s:ByteArray} (h:s∈l):pos l s<l.length:=
 List.findIdx_lt_length_of_exists ⟨s,h,by simp⟩
theorem pos_get {l:List ByteArray} {s:ByteArray} (h:s∈l):l[pos l s]'(pos_lt h)=s:=by
 have:=List.findIdx_getElem (w:=pos_lt h) (p:=fun x:ByteArray=>x.toList==s.toList)
 exact (tl_beq _ _).1 this
theorem pos_at {l:List ByteArray} (hn:l.Nodup) {i:Nat} (hi:i<l.length):pos l l[i]=i:=by
 have h1:=pos_lt (List.getElem_mem hi)
 have h2:=pos_get (List.getElem_mem hi)
 exact (List.getElem_inj hn).1 h2
open Classical in
theorem colAt_eq (t:GTable) (s:ByteArray):colAt t s=if s∈cnm t.fCols then (pos (cnm t.fCols) s:Int) else-1:=by
 have h1:t.fCols.any (fun c:GCol=>c.fName.toList==s.toList)=true↔s∈cnm t.fCols:=by
  simp only[List.any_eq_true,cnm,List.mem_map,tl_beq]
 have h2:t.fCols.findIdx (fun c:GCol=>c.fName.toList==s.toList)=pos (cnm t.fCols) s:=by
  unfold pos cnm
  rw[List.findIdx_map]
  rfl
 unfold colAt idxF
 rw[h2]
 by_cases h:s∈cnm t.fCols
 ·rw[if_pos h,if_pos (h1.2 h)]
 ·rw[if_neg h,if_neg (fun e=>h (h1.1 e))]
theorem colAt_nn {t:GTable} {s:ByteArray}:0≤colAt t s↔s∈cnm t.fCols:=by
 rw[colAt_eq]
 split<;>rename_i h<;>simp[h]
theorem colAt_toNat {t:GTable} {s:ByteArray} (h:s∈cnm t.fCols):(colAt t s).toNat=pos (cnm t.fCols) s:=by
 rw[colAt_eq,if_pos h];rfl
theorem sub_pos: ∀ (l ks:List ByteArray),(∀k∈ks,k∈l)→ks.Pairwise (fun a b=>pos l a<pos l b)→ks.Sublist l
 |_,[],_,_=>List.nil_sublist _
 | [],k::_,h,_=>by have:=h k (by simp);cases this
 |x::l,k::ks,h,hp=>by
  rw[List.pairwise_cons] at hp
  have hge: ∀a∈ks,a≠x:=fun a ha e=>by
   have:=hp.1 a ha
   rw[pos_cons x l a,if_pos e.symm] at this
   omega
  have hks: ∀a∈ks,a∈l:=fun a ha=>by
   rcases List.mem_cons.1 (h a (by simp[ha])) with e|e
   ·exact absurd e (hge a ha)
   ·exact e
  have hpw:ks.Pairwise (fun a b=>pos l a<pos l b):=by
   refine List.Pairwise.imp_of_mem (fun {a b} ha hb hab=> ?_) hp.2
   rw[pos_cons,pos_cons,if_neg (Ne.symm (hge a ha)),if_neg (Ne.symm (hge b hb))] at hab
   omega
  by_cases hk:x=k
  ·subst hk
   exact (sub_pos l ks hks hpw).cons_cons _
  ·refine (sub_pos l (k::ks) (fun a ha=> ?_) ?_).cons _
   ·rcases List.mem_cons.1 ha with rfl|ha
    ·rcases List.mem_cons.1 (h a (by simp)) with e|e
     ·exact absurd e.symm hk
     ·exact e
    ·exact hks a ha
   ·refine List.pairwise_cons.2 ⟨fun a ha=> ?_,hpw⟩
    have:=hp.1 a ha
    rw[pos_cons,pos_cons,if_neg hk,if_neg (Ne.symm (hge a ha))] at this
    omega
theorem pos_sub {l ks:List ByteArray} (hn:l.Nodup) (h:ks.Sublist l):ks.Pairwise (fun a b=>pos l a<pos l b):=by
 refine List.Pairwise.sublist h (List.pairwise_iff_getElem.2 fun i j hi hj hij=> ?_)
 rw[pos_at hn hi,pos_at hn hj]
 exact hij
theorem colsTo_iff (t:GTable):colsTo t t.fCols.length=true↔ (∀c∈t.fCols,colOk c=true)∧(cnm t.fCols).Nodup:=by
 rw[←all_iff colOk dCol t.fCols]
 simp only[colsTo,colsOkAt,List.all_eq_true,List.mem_range,Bool.and_eq_true,decide_eq_true_eq]
 have hl:(cnm t.fCols).length=t.fCols.length:=by simp[cnm]
 have hg: ∀i (hi:i<t.fCols.length),(t.fCols[i]?.getD dCol).fName=(cnm t.fCols)[i]'(by omega):=fun i hi=>by simp[cnm,List.getElem?_eq_getElem hi]
 constructor
 ·intro h
  refine ⟨fun i hi=>(h i hi).1,List.pairwise_iff_getElem.2 fun i j hi hj hij e=> ?_⟩
  have h1:=(h i (by omega)).2
  have h2:=(h j (by omega)).2
  rw[hg i (by omega)] at h1
  rw[hg j (by omega),←e,h1] at h2
  omega
 ·rintro ⟨h1,h2⟩ i hi
  refine ⟨h1 i hi, ?_⟩
  rw[hg i hi,colAt_eq,if_pos (List.getElem_mem _),pos_at h2]
theorem keysTo_iff (t:GTable) (hn:(cnm t.fCols).Nodup):keysTo t t.fKeys.length=true↔t.fKeys.Sublist (cnm t.fCols)∧ ∀c∈t.fCols,c.fName∈t.fKeys→c.fNot=true:=by
 have hl:(cnm t.fCols).length=t.fCols.length:=by simp[cnm]
 simp only[keysTo,keyOkAt,List.all_eq_true,List.mem_range,Bool.and_eq_true,decide_eq_true_eq]
 have hcol: ∀c∈t.fCols,t.fCols[(colAt t c.fName).toNat]?.getD dCol=c:=fun c hc=>by
  obtain ⟨i,hi,rfl⟩:=List.getElem_of_mem hc
  have hm:t.fCols[i].fName∈cnm t.fCols:=List.mem_map.2 ⟨_,hc,rfl⟩
  have h2:pos (cnm t.fCols) t.fCols[i].fName=i:=by
   have:=pos_at hn (i:=i) (by omega)
   simpa [cnm] using this
  rw[colAt_toNat hm,h2,List.getElem?_eq_getElem hi]
  rfl
 constructor
 ·intro h
  have hnn: ∀i,i<t.fKeys.length→0≤colAt t (t.fKeys[i]?.getD ⟨#[]⟩):=fun i hi=>by
   have h1:=(h i hi).1
   have h2:=lastK_ge t i
   omega
  have hmem: ∀k∈t.fKeys,k∈cnm t.fCols:=fun k hk=>by
   obtain ⟨i,hi,rfl⟩:=List.getElem_of_mem hk
   have:=hnn i hi
   rw[List.getElem?_eq_getElem hi] at this
   exact colAt_nn.1 this
  refine ⟨sub_pos _ _ hmem ?_,fun c hc hk=> ?_⟩
  ·have h1:=(adj_pw (fun a b=>decide (colAt t a<colAt t b)) (fun a b c h1 h2=>by simp only[decide_eq_true_eq] at*;omega) (⟨#[]⟩:ByteArray) t.fKeys).1 (fun i hi h0=>by
    have:=(h i hi).1
    rw[lastK,if_neg (by omega)] at this
    simpa using this)
   refine List.Pairwise.imp_of_mem (fun {a b} ha hb hab=> ?_) h1
   rw[decide_eq_true_eq,colAt_eq,colAt_eq,if_pos (hmem a ha),if_pos (hmem b hb)] at hab
   omega
  ·obtain ⟨i,hi,he⟩:=List.getElem_of_mem hk
   have:=(h i hi).2
   rw[List.getElem?_eq_getElem hi,Option.getD_some,he,hcol c hc] at this
   exact this
 ·rintro ⟨hs,hnot⟩ i hi
  have hmem: ∀k∈t.fKeys,k∈cnm t.fCols:=fun k hk=>hs.subset hk
  have hki:t.fKeys[i]?.getD ⟨#[]⟩∈t.fKeys:=getD_mem _ hi
  refine ⟨?_, ?_⟩
  ·unfold lastK
   split
   ·have:=colAt_nn.2 (hmem _ hki)
    omega
   ·have hkj:t.fKeys[i-1]?.getD ⟨#[]⟩∈t.fKeys:=getD_mem _ (by omega)
    have h1:=List.pairwise_iff_getElem.1 (pos_sub hn hs) (i-1) i (by omega) hi (by omega)
    rw[colAt_eq,colAt_eq,if_pos (hmem _ hki),if_pos (hmem _ hkj),List.getElem?_eq_getElem hi,List.getElem?_eq_getElem (show i-1<t.fKeys.length by omega)]
    simp only[Option.getD_some]
    omega
  ·obtain ⟨c,hc,he⟩:=List.mem_map.1 (hmem _ hki)
   have:=hnot c hc (by rw[he];exact hki)
   rw[←he,hcol c hc]
   exact this
theorem tableOk_iff (t:GTable):tableOk t=true↔wordOk t.fName=true∧1≤t.fCols.length∧t.fCols.length≤8∧t.fKeys≠ []∧(∀c∈t.fCols,colOk c=true)∧(cnm t.fCols).Nodup∧t.fKeys.Sublist (cnm t.fCols)∧ ∀c∈t.fCols,c.fName∈t.fKeys→c.fNot=true:=by
 simp only[tableOk,within,Bool.and_eq_true,decide_eq_true_eq,colsTo_iff]
 constructor
 ·rintro ⟨⟨h1,h2,h3⟩,⟨h4,h5⟩,h6⟩
  refine ⟨h1,by omega,by omega,fun e=>by simp[e] at h3,h4,h5,(keysTo_iff t h5).1 h6⟩
 ·rintro ⟨h1,h2,h3,h4,h5,h6,h7⟩
  refine ⟨⟨h1,by omega,List.length_pos_iff.2 h4⟩,⟨h5,h6⟩,(keysTo_iff t h6).2 h7⟩
end Go.Proofs.YteeolohhmfjafaaGreat
namespace Go.Proofs.YteeolohhmfjafaaGreat
open Go Go.Proofs Go.Sm
attribute [local simp] ti eStr eInt eByte eVal vVal vValS vRow eCol vCol vColS vStrS cDdl vDdl vStmt ePart vPart vPartS eBatch cBatch vBatch eTable cTable vTable vTableS vCat vByteS vPack
set_option linter.unusedVariables false
set_option linter.unusedSimpArgs false
set_option maxRecDepth 8000
end Go.Proofs.YteeolohhmfjafaaGreat
namespace Go.Proofs.YteeolohhmfjafaaGreat
open Go Go.Proofs Go.Sm
attribute [local simp] ti eStr eInt eByte eVal vVal vValS vRow eCol vCol vColS vStrS cDdl vDdl vStmt ePart vPart vPartS eBatch cBatch vBatch eTable cTable vTable vTableS vCat vByteS vPack
set_option linter.unusedVariables false
set_option linter.unusedSimpArgs false
set_option maxRecDepth 8000
def tabAt (l:List GTable) (s:ByteArray):Int:=idxF (fun t:GTable=>t.fName.toList==s.toList) l
theorem at1_ok (t:GTable) (s:ByteArray):VC Tryz.prog 304 [vTable t,.p (.ps [.sc (.string s)])] [(false,[(.s,.sc (.bool (t.fName.toList==s.toList)))])]:=by
 refine vc_of_ew good hm [0,1,2,3] Tryz.func304 rfl (by kernel_rfl) (by kernel_rfl) rfl ?_
 simp[Tryz.f304]
theorem at_ok (c:GCat) (s:ByteArray) (hl:okM c.fTables.length):VC Tryz.prog 196 [vCat c,str s] [(false,[(.s,.sc (.int .i64 (tabAt c.fTables s)))])]:=by
 refine vc_of_ew good hm [0,1,2,3,4] Tryz.func196 rfl (by kernel_rfl) (by kernel_rfl) rfl ?_
 simp[Tryz.f196]
 refine .of (idxTable1_ok c.fTables _ _ (fun t:GTable=>t.fName.toList==s.toList) hl (fun x _=>at1_ok x s)) ?_
 simp[tabAt]
def bdTable (t:GTable):Prop:=t.fCols.length≤1048576∧t.fKeys.length≤1048576
end Go.Proofs.YteeolohhmfjafaaGreat
namespace Go.Proofs.YteeolohhmfjafaaGreat
open Go Go.Proofs Go.Sm
attribute [local simp] ti eStr eInt eByte eVal vVal vValS vRow eCol vCol vColS vStrS cDdl vDdl vStmt ePart vPart vPartS eBatch cBatch vBatch eTable cTable vTable vTableS vCat vByteS vPack
set_option linter.unusedVariables false
set_option linter.unusedSimpArgs false
set_option maxRecDepth 8000
end Go.Proofs.YteeolohhmfjafaaGreat
namespace Go.Proofs.YteeolohhmfjafaaGreat
open Go Go.Proofs Go.Sm
attribute [local simp] ti eStr eInt eByte eVal vVal vValS vRow eCol vCol vColS vStrS cDdl vDdl vStmt ePart vPart vPartS eBatch cBatch vBatch eTable cTable vTable vTableS vCat vByteS vPack
set_option linter.unusedVariables false
set_option linter.unusedSimpArgs false
set_option maxRecDepth 8000
def col0 (d:GDdl):GCol:=d.fCols[0]?.getD dCol
theorem ddlOk_wd {d:GDdl} (h:ddlOk d=true):wordOk d.fTable=true:=by
 simp only[ddlOk,Bool.and_eq_true] at h
 exact h.1
theorem ddlOk_kind {d:GDdl} (h:ddlOk d=true):d.fKind=1∨d.fKind=2∨d.fKind=3∨d.fKind=4∨d.fKind=5:=by
 simp only[ddlOk,Bool.and_eq_true,Bool.or_eq_true,decide_eq_true_eq] at h
 grind
theorem ddlOk_1 {d:GDdl} (h:ddlOk d=true) (k:d.fKind=1):tableOk (madeT d)=true:=by
 simp only[ddlOk,Bool.and_eq_true,Bool.or_eq_true,decide_eq_true_eq] at h
 grind
theorem ddlOk_3 {d:GDdl} (h:ddlOk d=true) (k:d.fKind=3):d.fCols.length=1∧colOk (col0 d)=true∧((col0 d).fHas=true∨(col0 d).fNot=false):=by
 simp only[ddlOk,addOk,Bool.and_eq_true,Bool.or_eq_true,decide_eq_true_eq] at h
 unfold col0
 grind
end Go.Proofs.YteeolohhmfjafaaGreat
