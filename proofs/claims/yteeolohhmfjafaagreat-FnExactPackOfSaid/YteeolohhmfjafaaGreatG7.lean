import Derived.Test.YteeolohhmfjafaaGreatG6
import Derived.Test.YteeolohhmfjafaaGreatG5
set_option maxHeartbeats 8000000
set_option maxRecDepth 8000
namespace Go.Proofs.YteeolohhmfjafaaGreat
open Go Go.Proofs Go.Sm
attribute [local simp] ti eStr eInt eByte eVal vVal vValS vRow eCol vCol vColS vStrS cDdl vDdl vStmt ePart vPart vPartS eBatch cBatch vBatch eTable cTable vTable vTableS vCat vByteS vPack
set_option linter.unusedVariables false
set_option linter.unusedSimpArgs false
set_option maxRecDepth 8000
end Go.Proofs.YteeolohhmfjafaaGreat
namespace Go.Proofs.YteeolohhmfjafaaGreat
open Go Go.Proofs Go.Sm
attribute [local simp] ti eStr eInt eByte eVal vVal vValS vRow eCol vCol vColS vStrS cDdl vDdl vStmt ePart vPart vPartS eBatch cBatch vBatch eTable cTable vTable vTableS vCat vByteS vPack
set_option linter.unusedVariables false
set_option linter.unusedSimpArgs false
set_option maxRecDepth 8000
theorem em_size {s:ByteArray} (h:em s=true):s.size=0:=by
 unfold em at h
 rw[List.isEmpty_iff,Lib.toList_data] at h
 have:=congrArg List.length h
 simpa using this
theorem wordOk_size {s:ByteArray} (h:wordOk s=true):s.size≤8:=by
 simp only[wordOk,within,Bool.and_eq_true,decide_eq_true_eq] at h
 omega
theorem valOk_ok {v:GVal} (h:valOk v=true):okVal v∧v.fS.size≤30:=by
 simp only[valOk,within,Bool.and_eq_true,Bool.or_eq_true,decide_eq_true_eq] at h
 have hs:v.fS.size≤30:=by
  rcases h with ((⟨_,_,h⟩|⟨_,_,h⟩)|⟨_,_,h⟩)|⟨_,_,h⟩
  ·have:=em_size h;omega
  ·have:=em_size h;omega
  ·have:=em_size h;omega
  ·omega
 refine ⟨⟨?_, ?_, ?_,trivial⟩,hs⟩
 ·unfold okI;omega
 ·unfold okI;omega
 ·unfold okM;omega
theorem nullV_ok {v:GVal} (h:nullV v=true):valOk v=true:=by
 simp only[nullV,Bool.and_eq_true,decide_eq_true_eq] at h
 simp[valOk,h.1,h.2.1,h.2.2]
theorem colOk_ok {c:GCol} (h:colOk c=true):okCol c:=by
 simp only[colOk,within,Bool.and_eq_true,decide_eq_true_eq] at h
 obtain ⟨⟨h1,h2⟩,h3⟩:=h
 have hw:=wordOk_size h1
 have hv:valOk c.fDef=true:=by
  split at h3
  ·simp only[Bool.and_eq_true] at h3
   exact h3.1
  ·exact nullV_ok h3
 exact ⟨by unfold okM;omega,by unfold okI;omega,(valOk_ok hv).1,trivial⟩
theorem tableOk_ok {t:GTable} (h:tableOk t=true):okTable t∧bdTable t:=by
 have h0:=(tableOk_iff t).1 h
 obtain ⟨h1,h2,h3,h4,h5,h6,h7,h8⟩:=h0
 have hkl:=h7.length_le
 simp only[cnm,List.length_map] at hkl
 have hw:=wordOk_size h1
 refine ⟨⟨by unfold okM;omega,⟨by unfold okM;omega,fun c hc=>colOk_ok (h5 c hc)⟩,⟨by unfold okM;omega,fun k hk=> ?_⟩,trivial⟩,by omega,by omega⟩
 obtain ⟨c,hc,rfl⟩:=List.mem_map.1 (h7.subset hk)
 exact (colOk_ok (h5 c hc)).1
theorem ddlOk_ok {d:GDdl} (h:ddlOk d=true):okDdl d∧d.fCols.length≤8∧d.fKeys.length≤8:=by
 have hw:=wordOk_size (ddlOk_wd h)
 have hk:=ddlOk_kind h
 have h0:=h
 simp only[ddlOk,addOk,plain,Bool.and_eq_true,Bool.or_eq_true,decide_eq_true_eq,List.isEmpty_iff] at h0
 have hnm:d.fName.size≤8:=by
  rcases h0.2 with (((⟨_,_,a,_⟩|⟨_,_,a,_⟩)|⟨_,_,_,a,_⟩)|⟨_,_,a,_⟩)|⟨_,_,a,_⟩
  ·have:=em_size a;omega
  ·have:=em_size a;omega
  ·have:=em_size a;omega
  ·exact wordOk_size a
  ·exact wordOk_size a
 have hto:d.fTo.size≤8:=by
  rcases h0.2 with (((⟨_,_,_,a⟩|⟨_,_,_,a⟩)|⟨_,_,_,_,a⟩)|⟨_,_,_,a⟩)|⟨_,_,_,a⟩
  ·have:=em_size a;omega
  ·have:=em_size a;omega
  ·have:=em_size a;omega
  ·have:=em_size a;omega
  ·exact wordOk_size a
 have hck:okColS d.fCols∧okStrS d.fKeys∧d.fCols.length≤8∧d.fKeys.length≤8:=by
  by_cases k1:d.fKind=1
  ·have h1:=ddlOk_1 h k1
   have h2:=(tableOk_ok h1).1
   have h3:=(tableOk_iff _).1 h1
   have h4:=h3.2.2.2.2.2.2.1.length_le
   simp only[cnm,List.length_map] at h4
   exact ⟨h2.2.1,h2.2.2.1,h3.2.2.1,Nat.le_trans h4 h3.2.2.1⟩
  ·by_cases k3:d.fKind=3
   ·obtain ⟨h1,h2,_⟩:=ddlOk_3 h k3
    have h3:d.fKeys= []:=by grind
    rw[h3]
    refine ⟨⟨by unfold okM;omega,fun c hc=> ?_⟩,⟨by simp[okM],by simp⟩,by omega,by simp⟩
    obtain ⟨i,hi,rfl⟩:=List.getElem_of_mem hc
    have:i=0:=by omega
    subst this
    have:=colOk_ok h2
    unfold col0 at this
    rwa [List.getElem?_eq_getElem hi] at this
   ·have h3:d.fCols= []∧d.fKeys= []:=by grind
    rw[h3.1,h3.2]
    exact ⟨⟨by simp[okM],by simp⟩,⟨by simp[okM],by simp⟩,by simp,by simp⟩
 exact ⟨⟨by unfold okI;omega,by unfold okM;omega,hck.1,hck.2.1,by unfold okM;omega,by unfold okM;omega,trivial⟩,hck.2.2.1,hck.2.2.2⟩
theorem noDdl_ok {d:GDdl} (h:noDdl d=true):okDdl d∧d.fCols.length≤8∧d.fKeys.length≤8:=by
 simp only[noDdl,Bool.and_eq_true,decide_eq_true_eq,List.isEmpty_iff] at h
 obtain ⟨h1,h2,h3,h4,h5,h6⟩:=h
 rw[h3,h4]
 exact ⟨⟨by unfold okI;omega,by have:=em_size h2;unfold okM;omega,⟨by simp[h3,okM],by simp[h3]⟩,⟨by simp[h4,okM],by simp[h4]⟩,by have:=em_size h5;unfold okM;omega,by have:=em_size h6;unfold okM;omega,trivial⟩,by simp,by simp⟩
theorem valsOk_ok {l:List GVal} (h:valsOk l=true):okValS l∧l.length≤8:=by
 simp only[valsOk,within,Bool.and_eq_true,decide_eq_true_eq,Bool.not_eq_true',List.any_eq_false] at h
 refine ⟨⟨by unfold okM;omega,fun v hv=>(valOk_ok (by simpa using h.2 v hv)).1⟩,by omega⟩
theorem nilVals_ok {l:List GVal} (h:l= []):okValS l∧l.length≤8:=by
 subst h
 exact ⟨⟨by simp[okM],by simp⟩,by simp⟩
theorem stmtOk_ok {s:GStmt} (h:stmtOk s=true):okStmt s∧s.fTable.size≤8∧s.fKey.length≤8∧s.fRow.fVals.length≤8∧s.fDdl.fCols.length≤8∧s.fDdl.fKeys.length≤8:=by
 simp only[stmtOk,Bool.and_eq_true,Bool.or_eq_true,decide_eq_true_eq,List.isEmpty_iff] at h
 obtain ⟨h0,h⟩:=h
 have hw:=wordOk_size h0
 have hk:okI s.fKind:=by unfold okI;omega
 have fin:(okValS s.fKey∧s.fKey.length≤8)→(okValS s.fRow.fVals∧s.fRow.fVals.length≤8)→(okDdl s.fDdl∧s.fDdl.fCols.length≤8∧s.fDdl.fKeys.length≤8)→okStmt s∧s.fTable.size≤8∧s.fKey.length≤8∧s.fRow.fVals.length≤8∧s.fDdl.fCols.length≤8∧s.fDdl.fKeys.length≤8:=fun a b c=>
  ⟨⟨hk,by unfold okM;omega,a.1,⟨b.1,trivial⟩,c.1,trivial⟩,hw,a.2,b.2,c.2.1,c.2.2⟩
 rcases h with (((⟨k,⟨a,b⟩,c⟩|⟨k,⟨a,b⟩,c⟩)|⟨k,⟨a,b⟩,c⟩)|⟨k,⟨a,b⟩,c⟩)|⟨k,⟨⟨a,b⟩,c⟩,e⟩
 ·exact fin (nilVals_ok a) (valsOk_ok b) (noDdl_ok c)
 ·exact fin (valsOk_ok a) (valsOk_ok b) (noDdl_ok c)
 ·exact fin (valsOk_ok a) (nilVals_ok b) (noDdl_ok c)
 ·exact fin (nilVals_ok a) (nilVals_ok b) (noDdl_ok c)
 ·exact fin (nilVals_ok a) (nilVals_ok b) (ddlOk_ok c)
end Go.Proofs.YteeolohhmfjafaaGreat
namespace Go.Proofs.YteeolohhmfjafaaGreat
open Go Go.Proofs Go.Sm
attribute [local simp] ti eStr eInt eByte eVal vVal vValS vRow eCol vCol vColS vStrS cDdl vDdl vStmt ePart vPart vPartS eBatch cBatch vBatch eTable cTable vTable vTableS vCat vByteS vPack
set_option linter.unusedVariables false
set_option linter.unusedSimpArgs false
set_option maxRecDepth 8000
@[simp 10000] theorem OwML_c (m:Md) (l:Lf) (r:ML):OwML ((m,l)::r)=(Ow m l∧OwML r):=by simp[OwML]
@[simp 10000] theorem OwML_n:OwML []=True:=by simp[OwML]
@[simp 10000] theorem OwRs_c (q:Bool×ML) (r:List (Bool×ML)):OwRs (q::r)=(OwML q.2∧OwRs r):=by simp[OwRs]
@[simp 10000] theorem OwRs_n:OwRs []=True:=by simp[OwRs]
theorem memS {l:List Nat} {n:Nat} (h:n∈l):n≤l.sum:=by
 induction l with
 |nil=>cases h
 |cons x r ih=>
  rcases List.mem_cons.1 h with rfl|h
  ·simp
  ·have:=ih h;simp;omega
theorem word_w {s:ByteArray} (h:wordOk s=true):s.size≤8:=by
 simp only[wordOk,within,Bool.and_eq_true,decide_eq_true_eq] at h
 omega
theorem of_sum {l:List Nat} (h:l.sum≤1048576):(∀n∈l,n≤1048576)∧l.sum≤1099511627776:=⟨fun n hn=>by have:=memS hn;omega,by omega⟩
end Go.Proofs.YteeolohhmfjafaaGreat
namespace Go.Proofs.YteeolohhmfjafaaGreat
open Go Go.Proofs Go.Sm
attribute [local simp] ti eStr eInt eByte eVal vVal vValS vRow eCol vCol vColS vStrS cDdl vDdl vStmt ePart vPart vPartS eBatch cBatch vBatch eTable cTable vTable vTableS vCat vByteS vPack
set_option linter.unusedVariables false
set_option linter.unusedSimpArgs false
set_option maxRecDepth 8000
def bN (n i:Nat):UInt8:=UInt8.ofNat (n/256^i)
def numB (n:Nat):Nat→List UInt8
 |0=> []
 |k+1=>bN n k::numB n k
def b8 (n:Nat):UInt8:=UInt8.ofNat n
def txB (s:ByteArray):List UInt8:=b8 s.size::tx s
def bB (x:Bool):UInt8:=if x=true then 1 else 0
def valB (v:GVal):List UInt8:=b8 v.fTy.toNat::(if v.fTy=1 then [b8 v.fN.toNat] else if v.fTy=2 then bB (decide (v.fN<0))::numB v.fN.natAbs 6 else if v.fTy=3 then txB v.fS else [])
def valsB (l:List GVal):List UInt8:=b8 l.length::l.flatMap valB
def txsB (l:List ByteArray):List UInt8:=b8 l.length::l.flatMap txB
def colB (c:GCol):List UInt8:=txB c.fName++(b8 c.fTy.toNat::bB c.fNot::bB c.fHas::valB c.fDef)
def ddlB (d:GDdl):List UInt8:=b8 d.fKind.toNat::b8 d.fCols.length::(d.fCols.flatMap colB++(txsB d.fKeys++(txB d.fName++txB d.fTo)))
def stBy (s:GStmt):List UInt8:=83::b8 s.fKind.toNat::(txB s.fTable++(valsB s.fKey++(valsB s.fRow.fVals++if s.fKind=5 then ddlB s.fDdl else [])))
def partB (p:GPart):List UInt8:=numB (stBy p.fStmt).length 2++(stBy p.fStmt++(txsB p.fCols++txsB p.fKeys))
def packH (b:GBatch):List UInt8:=80::(numB b.fLsn.toNat 2++(numB b.fPrev.toNat 2++ [b8 b.fParts.length]))
def packA (b:GBatch):List UInt8:=packH b++b.fParts.flatMap partB
def packB (b:GBatch):List UInt8:=packA b++numB (sumT (packA b)) 3
def packOf (b:GBatch):GPack×Bool:=if batchOk b=true then (⟨packB b⟩,true) else (⟨[]⟩,false)
theorem numB_len (n:Nat): ∀k,(numB n k).length=k
 |0=>rfl
 |k+1=>by simp[numB,numB_len n k]
theorem numB_one (n:Nat):numB n 1= [b8 n]:=by simp[numB,bN,b8]
theorem shr8 (n i:Nat) (h:i≤7):Int.fdiv (n:Int) (2^min (8*i) 64)=((n/256^i:Nat):Int):=by
 rw[Nat.min_eq_left (by omega),Int.fdiv_eq_ediv_of_nonneg _ (by exact Int.pow_nonneg (by omega)),show (2:Int)^ (8*i)=((256^i:Nat):Int) by rw[show (256:Nat)=2^8 from rfl,←Nat.pow_mul,Int.natCast_pow];rfl]
 rfl
theorem bN_mod (n i:Nat):UInt8.ofNat (n/256^i%256)=bN n i:=by
 unfold bN
 apply UInt8.toNat_inj.1
 simp
theorem flat_len {α:Type} {w:α→List UInt8} {l:List α} {B k:Nat} (hk:l.length≤k) (h: ∀v∈l,(w v).length≤B):(l.flatMap w).length≤k*B:=by
 refine Nat.le_trans ?_ (Nat.mul_le_mul_right B hk)
 clear hk
 induction l with
 |nil=>simp
 |cons x r ih=>
  simp only[List.flatMap_cons,List.length_append,List.length_cons,Nat.add_mul]
  have h1:=h x (by simp)
  have h2:=ih fun v hv=>h v (by simp[hv])
  omega
theorem txB_len (s:ByteArray):(txB s).length=s.size+1:=by simp[txB,tx_len]
theorem val_S {v:GVal} (h:valOk v=true):v.fS.size≤30∧0≤v.fTy∧v.fTy≤3:=by
 simp only[valOk,Bool.or_eq_true,Bool.and_eq_true,decide_eq_true_eq] at h
 rcases h with ((⟨h1,_,h⟩|⟨h1,_,h⟩)|⟨h1,_,h⟩)|⟨h1,_,h⟩
 ·rw[em_size h];omega
 ·rw[em_size h];omega
 ·rw[em_size h];omega
 ·omega
theorem valB_len {v:GVal} (h:v.fS.size≤30):(valB v).length≤32:=by
 unfold valB
 split
 ·simp
 split
 ·simp[numB_len]
 split
 ·simp[txB_len];omega
 ·simp
theorem valsB_len {l:List GVal} (h:valsOk l=true∨l= []):(valsB l).length≤257:=by
 rcases h with h|rfl
 ·simp only[valsOk,within,Bool.and_eq_true,decide_eq_true_eq,Bool.not_eq_true',List.any_eq_false] at h
  have:=flat_len (w:=valB) (k:=8) (B:=32) (l:=l) (by omega) fun v hv=>valB_len (val_S (by have:=h.2 v hv;simpa using this)).1
  simp only[valsB,List.length_cons]
  omega
 ·simp[valsB]
theorem wordsB_len {l:List ByteArray} (h:l.length≤8) (hw: ∀s∈l,s.size≤8):(txsB l).length≤73:=by
 have:=flat_len (w:=txB) h (B:=9) fun s hs=>by rw[txB_len];have:=hw s hs;omega
 simp only[txsB,List.length_cons]
 omega
theorem wordsOk_b {l:List ByteArray} (h:wordsOk l=true):l.length≤8∧ ∀s∈l,wordOk s=true:=by
 simp only[wordsOk,Bool.and_eq_true,decide_eq_true_eq,Bool.not_eq_true',List.any_eq_false] at h
 exact ⟨by omega,fun s hs=>by have:=h.2 s hs;simpa using this⟩
theorem col_b {c:GCol} (h:colOk c=true):wordOk c.fName=true∧1≤c.fTy∧c.fTy≤3∧valOk c.fDef=true:=by
 simp only[colOk,within,Bool.and_eq_true,decide_eq_true_eq] at h
 refine ⟨h.1.1,by omega,by omega, ?_⟩
 have h2:=h.2
 split at h2
 ·simp only[Bool.and_eq_true] at h2;exact h2.1
 ·simp only[nullV,Bool.and_eq_true,decide_eq_true_eq] at h2
  simp only[valOk,Bool.or_eq_true,Bool.and_eq_true,decide_eq_true_eq]
  exact .inl (.inl (.inl h2))
theorem colB_len {c:GCol} (h:colOk c=true):(colB c).length≤44:=by
 have h1:=col_b h
 have h2:=word_w h1.1
 have h3:=valB_len (val_S h1.2.2.2).1
 simp only[colB,List.length_append,List.length_cons,txB_len]
 omega
theorem ddl_b {d:GDdl} (h:ddlOk d=true):1≤d.fKind∧d.fKind≤5∧d.fCols.length≤8∧(∀c∈d.fCols,colOk c=true)∧d.fKeys.length≤8∧(∀s∈d.fKeys,wordOk s=true)∧(em d.fName=true∨wordOk d.fName=true)∧(em d.fTo=true∨wordOk d.fTo=true):=by
 simp only[ddlOk,plain,addOk,Bool.and_eq_true,Bool.or_eq_true,decide_eq_true_eq,List.isEmpty_iff] at h
 rcases h.2 with (((h1|h1)|h1)|h1)|h1
 ·obtain ⟨q1,q2,q3,q4,q5,q6,q7,q8⟩:=(tableOk_iff _).1 h1.2.1
  have hl:=q7.length_le
  simp only[cnm,List.length_map,madeT] at hl q3 q5 q7
  refine ⟨by omega,by omega,q3,q5,by omega,fun s hs=> ?_,.inl h1.2.2.1,.inl h1.2.2.2⟩
  obtain ⟨c,hc,rfl⟩:=List.mem_map.1 (q7.mem hs)
  exact (col_b (q5 c hc)).1
 ·refine ⟨by omega,by omega, ?_, ?_, ?_, ?_,.inl h1.2.2.1,.inl h1.2.2.2⟩<;>simp[h1.2.1.1,h1.2.1.2]
 ·refine ⟨by omega,by omega, ?_, ?_, ?_, ?_,.inl h1.2.2.2.1,.inl h1.2.2.2.2⟩
  ·have:=h1.2.1.1;omega
  ·intro c hc
   obtain ⟨i,hi,rfl⟩:=List.getElem_of_mem hc
   have h5:=h1.2.1.1
   have h6:=h1.2.1.2.1
   have:i=0:=by omega
   subst this
   simpa [List.getElem?_eq_getElem hi] using h6
  ·simp[h1.2.2.1]
  ·simp[h1.2.2.1]
 ·refine ⟨by omega,by omega, ?_, ?_, ?_, ?_,.inr h1.2.2.1,.inl h1.2.2.2⟩<;>simp[h1.2.1.1,h1.2.1.2]
 ·refine ⟨by omega,by omega, ?_, ?_, ?_, ?_,.inr h1.2.2.1,.inr h1.2.2.2⟩<;>simp[h1.2.1.1,h1.2.1.2]
theorem ew_size {s:ByteArray} (h:em s=true∨wordOk s=true):s.size≤8:=by
 rcases h with h|h
 ·rw[em_size h];omega
 ·exact word_w h
theorem ddlB_len {d:GDdl} (h:ddlOk d=true):(ddlB d).length≤500:=by
 obtain ⟨h1,h2,h3,h4,h5,h6,h7,h8⟩:=ddl_b h
 have a1:=flat_len (w:=colB) h3 (B:=44) fun c hc=>colB_len (h4 c hc)
 have a2:=wordsB_len h5 fun s hs=>word_w (h6 s hs)
 have a3:=ew_size h7
 have a4:=ew_size h8
 simp only[ddlB,List.length_append,List.length_cons,txB_len]
 omega
theorem stmt_b {s:GStmt} (h:stmtOk s=true):wordOk s.fTable=true∧1≤s.fKind∧s.fKind≤5∧(valsOk s.fKey=true∨s.fKey= [])∧(valsOk s.fRow.fVals=true∨s.fRow.fVals= [])∧(s.fKind=5→ddlOk s.fDdl=true):=by
 simp only[stmtOk,Bool.and_eq_true,Bool.or_eq_true,decide_eq_true_eq,List.isEmpty_iff] at h
 refine ⟨h.1, ?_⟩
 rcases h.2 with (((h1|h1)|h1)|h1)|h1
 ·exact ⟨by omega,by omega,.inr h1.2.1.1,.inl h1.2.1.2,fun k=>by omega⟩
 ·exact ⟨by omega,by omega,.inl h1.2.1.1,.inl h1.2.1.2,fun k=>by omega⟩
 ·exact ⟨by omega,by omega,.inl h1.2.1.1,.inr h1.2.1.2,fun k=>by omega⟩
 ·exact ⟨by omega,by omega,.inr h1.2.1.1,.inr h1.2.1.2,fun k=>by omega⟩
 ·exact ⟨by omega,by omega,.inr h1.2.1.1.1,.inr h1.2.1.1.2,fun _=>h1.2.1.2⟩
theorem stBy_len {s:GStmt} (h:stmtOk s=true):(stBy s).length≤1100:=by
 obtain ⟨h1,h2,h3,h4,h5,h6⟩:=stmt_b h
 have a1:=word_w h1
 have a2:=valsB_len h4
 have a3:=valsB_len h5
 have a4:(if s.fKind=5 then ddlB s.fDdl else []).length≤500:=by
  split
  ·exact ddlB_len (h6 (by assumption))
  ·simp
 simp only[stBy,List.length_append,List.length_cons,txB_len]
 omega
theorem part_b {p:GPart} (h:partBad p=false):stmtOk p.fStmt=true∧wordsOk p.fCols=true∧wordsOk p.fKeys=true:=by
 simpa [partBad] using h
theorem partB_len {p:GPart} (h:partBad p=false):(partB p).length≤1300:=by
 obtain ⟨h1,h2,h3⟩:=part_b h
 have a1:=stBy_len h1
 have a2:=wordsB_len (wordsOk_b h2).1 fun s hs=>word_w ((wordsOk_b h2).2 s hs)
 have a3:=wordsB_len (wordsOk_b h3).1 fun s hs=>word_w ((wordsOk_b h3).2 s hs)
 simp only[partB,List.length_append,numB_len]
 omega
theorem batch_b {b:GBatch} (h:batchOk b=true):1≤b.fLsn∧b.fLsn≤400∧0≤b.fPrev∧b.fPrev≤399∧b.fParts.length≤60∧ ∀p∈b.fParts,partBad p=false:=by
 simp only[batchOk,within,Bool.and_eq_true,decide_eq_true_eq,Bool.not_eq_true',List.any_eq_false] at h
 refine ⟨by omega,by omega,by omega,by omega,by omega,fun p hp=>by have:=h.2.2.2 p hp;simpa using this⟩
theorem packA_len {b:GBatch} (h:batchOk b=true) (n:Nat):(packH b++(b.fParts.take n).flatMap partB).length≤80000:=by
 have hb:=batch_b h
 have:=flat_len (w:=partB) (k:=60) (B:=1300) (l:=b.fParts.take n) (by rw[List.length_take];omega) fun p hp=>partB_len (hb.2.2.2.2.2 p (List.mem_of_mem_take hp))
 simp only[packH,List.length_append,List.length_cons,numB_len,List.length_nil]
 omega
theorem packB_len {b:GBatch} (h:batchOk b=true):(packB b).length≤80003:=by
 have:=packA_len h b.fParts.length
 rw[List.take_length] at this
 simp only[packB,packA,List.length_append,numB_len] at this⊢
 omega
theorem pack_w (b:GBatch):(wPack (packOf b).1).sum≤80003:=by
 unfold packOf
 split
 ·rename_i h
  simpa [wPack,wByteS] using packB_len h
 ·simp[wPack,wByteS]
theorem PackOf_r0 (b:GBatch) (o0:okBatch b) (hs: ∀n∈wBatch b,n≤1048576) (_:(wBatch b).sum≤1048576):(∀n∈wPack (packOf b).1,n≤1048576)∧(wPack (packOf b).1).sum≤1099511627776:=of_sum (by have:=pack_w b;omega)
end Go.Proofs.YteeolohhmfjafaaGreat
namespace Go.Proofs.YteeolohhmfjafaaGreat
open Go Go.Proofs Go.Sm
attribute [local simp] ti eStr eInt eByte eVal vVal vValS vRow eCol vCol vColS vStrS cDdl vDdl vStmt ePart vPart vPartS eBatch cBatch vBatch eTable cTable vTable vTableS vCat vByteS vPack
set_option linter.unusedVariables false
set_option linter.unusedSimpArgs false
set_option maxRecDepth 8000
theorem shrW (n k:Nat) (h1:1≤k) (h2:k≤6):IntKind.u8.wrap (Int.fdiv (n:Int) (2^min (IntKind.i64.wrap (8* ((k:Int)-1))).toNat IntKind.i64.bits))=((bN n (k-1)).toNat:Int):=by
 have e:(IntKind.i64.wrap (8* ((k:Int)-1))).toNat=8* (k-1):=by
  rw[wrapI (by omega) (by omega)]
  omega
 rw[e,show IntKind.i64.bits=64 from rfl,shr8 n (k-1) (by omega),wrapU8]
 rfl
theorem num_ok (l:List UInt8) (n size:Nat) (hn:n≤9223372036854775807) (hs:size≤6) (hl:l.length≤1048576):VX Tryz.prog 128 [.v false [.r [900]],int .i64 n,int .i64 size] (mByteS l) [(false,mByteS (l++numB n size))]:=by
 refine vx_of_ew good hm [0,1,2,6,7,11] Tryz.func128 rfl (by kernel_rfl) (by kernel_rfl) rfl ?_
 simp[Tryz.f128,mByteS]
 have hw:IntKind.i64.wrap ((size:Int)-1)=(size:Int)-1:=wrapI (by omega) (by omega)
 rw[hw]
 refine ew_loop (fun E=> ∃ (k:Nat) (o:List UInt8),k≤size∧o.length+k=l.length+size∧o++numB n k=l++numB n size∧E= {nt:=23,sl:= [(0,.v false [.r [900]]),(1,int .i64 n),(7,int .i64 ((k:Int)-1))],bx:= [],rt:=(mByteS o).map fun y=>(900,y)}) (fun E=>(E.num 7+1).toNat) _ (Gh.kb _ [0,1,7] [] [900]) ⟨size,l,by omega,rfl,rfl,by simp[mByteS]⟩ ?_
 rintro E1 ⟨k,o,hk,hol,he,rfl⟩
 simp[mByteS]
 refine ⟨fun h1=> ?_,fun h1=> ?_⟩
 ·have hs:=shrW n k (by omega) (by omega)
  rw[hs]
  obtain ⟨j,rfl⟩: ∃j,k=j+1:=⟨k-1,by omega⟩
  refine ⟨by rw[wrapI (by omega) (by omega)];omega,by omega,.of _ ((Gh.kb _ [0,1,7] [] [21]).trans (Gh.rn _ 21 900)) ⟨j,by omega,o++ [bN n j], ?_, ?_, ?_⟩ ?_⟩
  ·simp;omega
  ·rw[←he,numB];simp
  ·rw[wrapI (by omega) (by omega)]
   simp[mByteS]
   try omega
  ·rw[wrapI (by omega) (by omega)]
   simp
   try omega
 ·have:k=0:=by omega
  subst this
  rw[numB,List.append_nil] at he
  subst he
  refine .of _ (Gh.refl _) ?_
  simp
theorem text_ok (l:List UInt8) (s:ByteArray) (hl:l.length≤1048576) (hs:s.size≤1048576):VX Tryz.prog 236 [.v false [.r [900]],str s] (mByteS l) [(false,mByteS (l++txB s))]:=by
 refine vx_of_ew good hm [0,1,4] Tryz.func236 rfl (by kernel_rfl) (by kernel_rfl) rfl ?_
 simp[Tryz.f236,mByteS]
 refine .use (num_ok l s.size 1 (by omega) (by omega) hl) ?_
 simp[mByteS]
 refine ⟨by rw[numB_len];omega,.of _ (Gh.refl _) ?_⟩
 simp[txB,numB_one,tx]
theorem flag_ok (l:List UInt8) (b:Bool) (hl:l.length≤1048576):VX Tryz.prog 239 [.v false [.r [900]],bool b] (mByteS l) [(false,mByteS (l++ [bB b]))]:=by
 refine vx_of_ew good hm [0,1,4,5] Tryz.func239 rfl (by kernel_rfl) (by kernel_rfl) rfl ?_
 simp[Tryz.f239,mByteS]
 refine ⟨fun h=>⟨by omega,.of _ (Gh.refl _) ?_⟩,fun h=>⟨by omega,.of _ (Gh.refl _) ?_⟩⟩
 ·simp[h,bB]
 ·simp[h,bB]
theorem val_ok (l:List UInt8) (v:GVal) (hl:l.length≤500000) (hv:valOk v=true):VX Tryz.prog 238 [.v false [.r [900]],vVal v] (mByteS l) [(false,mByteS (l++valB v))]:=by
 obtain ⟨q1,q2,q3⟩:=val_S hv
 obtain ⟨ty,hty⟩:=Int.eq_ofNat_of_zero_le q2
 refine vx_of_ew good hm [0,1,3,4,10,11,17,31] Tryz.func238 rfl (by kernel_rfl) (by kernel_rfl) rfl ?_
 simp[Tryz.f238,mByteS]
 have h0:=num_ok l ty 1 (by omega) (by omega) (by omega)
 rw[←hty] at h0
 refine .use h0 ?_
 simp[mByteS,numB_one]
 have hV:valB v=b8 v.fTy.toNat::(if v.fTy=1 then [b8 v.fN.toNat] else if v.fTy=2 then bB (decide (v.fN<0))::numB v.fN.natAbs 6 else if v.fTy=3 then txB v.fS else []):=rfl
 have htn:v.fTy.toNat=ty:=by omega
 rw[htn] at hV
 refine ⟨fun k1=> ?_,fun k1=>⟨fun k2=> ?_,fun k2=>⟨fun k3=> ?_,fun k3=> ?_⟩⟩⟩
 ·obtain ⟨m,hm⟩: ∃m:Nat,v.fN=m:=Int.eq_ofNat_of_zero_le (by
   simp only[valOk,Bool.or_eq_true,Bool.and_eq_true,decide_eq_true_eq] at hv
   omega)
  have hm1:m≤1:=by
   simp only[valOk,Bool.or_eq_true,Bool.and_eq_true,decide_eq_true_eq] at hv
   omega
  have h1:=num_ok (l++ [b8 ty]) m 1 (by omega) (by omega) (by simp;omega)
  rw[←hm] at h1
  refine .use h1 ?_
  simp[mByteS]
  refine .of _ (Gh.refl _) ?_
  simp[hV,k1,hm,numB_one]
 ·have hin: -1099511627775≤v.fN∧v.fN≤1099511627775:=by
   simp only[valOk,within,Bool.or_eq_true,Bool.and_eq_true,decide_eq_true_eq] at hv
   omega
  refine .use (flag_ok (l++ [b8 ty]) (decide (v.fN<0)) (by simp;omega)) ?_
  simp[mByteS]
  have hmx:(if v.fN<IntKind.i64.wrap (-v.fN) then IntKind.i64.wrap (-v.fN) else v.fN)=(v.fN.natAbs:Int):=by
   rw[wrapI (by omega) (by omega)]
   split<;>omega
  rw[hmx]
  refine .use (num_ok (l++ [b8 ty]++ [bB (decide (v.fN<0))]) v.fN.natAbs 6 (by omega) (by omega) (by simp;omega)) ?_
  simp[mByteS]
  refine .of _ (Gh.refl _) ?_
  simp[hV,k2]
 ·refine .use (text_ok (l++ [b8 ty]) v.fS (by simp;omega) (by omega)) ?_
  simp[mByteS]
  refine .of _ (Gh.refl _) ?_
  simp[hV,k1,k2,k3]
 ·refine .of _ (Gh.refl _) ?_
  simp[hV,k1,k2,k3]
theorem tkR {α:Type} {l:List α} {i:Nat} (d:α) (h:i<l.length):l.take (i+1)=l.take i++ [l[i]?.getD d]:=by
 rw[List.take_succ_eq_append_getElem h,List.getElem?_eq_getElem h]
 rfl
theorem flat_le {α:Type} (w:α→List UInt8) {l:List α} {i:Nat}:((l.take i).flatMap w).length≤(l.flatMap w).length:=by
 have:l.flatMap w=(l.take i).flatMap w++(l.drop i).flatMap w:=by rw[←List.flatMap_append,List.take_append_drop]
 rw[this,List.length_append]
 omega
theorem vals_okB (l:List UInt8) (vs:List GVal) (hl:l.length≤400000) (hn:vs.length≤8) (hv: ∀v∈vs,valOk v=true):VX Tryz.prog 237 [.v false [.r [900]],vValS vs] (mByteS l) [(false,mByteS (l++valsB vs))]:=by
 have hfl:=flat_len (w:=valB) hn (B:=32) fun v h=>valB_len (val_S (hv v h)).1
 refine vx_of_ew good hm [0,1,4,11,12,13,14,6] Tryz.func237 rfl (by kernel_rfl) (by kernel_rfl) rfl ?_
 simp[Tryz.f237,mByteS]
 refine .use (num_ok l vs.length 1 (by omega) (by omega) (by omega)) ?_
 simp[mByteS,numB_one]
 refine ew_loop (fun E=> ∃i:Nat,i≤vs.length∧E= {nt:=22,sl:= [(0,.v false [.r [900]]),(11,vValS vs),(12,int .i64 vs.length),(13,int .i64 i)],bx:= [],rt:=(mByteS (l++b8 vs.length::(vs.take i).flatMap valB)).map fun y=>(900,y)}) (fun E=>vs.length- (E.num 13).toNat) _ ((Gh.kb _ [0,11,12,13] [] [10]).trans (Gh.rn _ 10 900)) ⟨0,by omega,by simp[mByteS]⟩ ?_
 rintro E1 ⟨i,hi,rfl⟩
 have hf:=flat_le valB (l:=vs) (i:=i)
 simp[mByteS]
 refine ⟨fun h=>⟨h, ?_⟩,fun h=> ?_⟩
 ·refine .use (val_ok (l++b8 vs.length::(vs.take i).flatMap valB) (vs[i]?.getD dVal) (by simp only[List.length_append,List.length_cons];omega) (hv _ (getD_mem dVal h))) ?_
  simp[mByteS]
  refine .of _ ((Gh.kb _ [0,11,12,13] [] [19]).trans (Gh.rn _ 19 900)) ⟨i+1,by omega, ?_⟩ ?_
  ·simp[wrapS (show i<9223372036854775807 by omega),mByteS,tkR dVal h]
  ·simp[wrapS (show i<9223372036854775807 by omega)];omega
 ·have:i=vs.length:=by omega
  subst this
  refine .of _ (Gh.refl _) ?_
  simp[valsB]
theorem texts_okB (l:List UInt8) (vs:List ByteArray) (hl:l.length≤400000) (hn:vs.length≤8) (hv: ∀v∈vs,v.size≤8):VX Tryz.prog 130 [.v false [.r [900]],vStrS vs] (mByteS l) [(false,mByteS (l++txsB vs))]:=by
 have hfl:=flat_len (w:=txB) hn (B:=9) fun v h=>by rw[txB_len];have:=hv v h;omega
 refine vx_of_ew good hm [0,1,4,11,12,13,14,6] Tryz.func130 rfl (by kernel_rfl) (by kernel_rfl) rfl ?_
 simp[Tryz.f130,mByteS]
 refine .use (num_ok l vs.length 1 (by omega) (by omega) (by omega)) ?_
 simp[mByteS,numB_one]
 refine ew_loop (fun E=> ∃i:Nat,i≤vs.length∧E= {nt:=22,sl:= [(0,.v false [.r [900]]),(11,vStrS vs),(12,int .i64 vs.length),(13,int .i64 i)],bx:= [],rt:=(mByteS (l++b8 vs.length::(vs.take i).flatMap txB)).map fun y=>(900,y)}) (fun E=>vs.length- (E.num 13).toNat) _ ((Gh.kb _ [0,11,12,13] [] [10]).trans (Gh.rn _ 10 900)) ⟨0,by omega,by simp[mByteS]⟩ ?_
 rintro E1 ⟨i,hi,rfl⟩
 have hf:=flat_le txB (l:=vs) (i:=i)
 simp[mByteS]
 refine ⟨fun h=>⟨h, ?_⟩,fun h=> ?_⟩
 ·refine .use (text_ok (l++b8 vs.length::(vs.take i).flatMap txB) (vs[i]?.getD ⟨#[]⟩) (by simp only[List.length_append,List.length_cons];omega) (by have:=hv _ (getD_mem (⟨#[]⟩:ByteArray) h);omega)) ?_
  simp[mByteS]
  refine .of _ ((Gh.kb _ [0,11,12,13] [] [19]).trans (Gh.rn _ 19 900)) ⟨i+1,by omega, ?_⟩ ?_
  ·simp[wrapS (show i<9223372036854775807 by omega),mByteS,tkR (⟨#[]⟩:ByteArray) h]
  ·simp[wrapS (show i<9223372036854775807 by omega)];omega
 ·have:i=vs.length:=by omega
  subst this
  refine .of _ (Gh.refl _) ?_
  simp[txsB]
theorem stmtBytesI_ok (s:GStmt) (o0:okStmt s) (h1:s.fDdl.fCols.length≤1048576) (h2:s.fDdl.fKeys.length≤1048576) (hs:stmtOk s=true):VC Tryz.prog 129 [vStmt s] [(false,mByteS (stBy s)),(false,[(.s,.sc (.bool true))])]:=by
 obtain ⟨g1,g2,g3,g4,g5,g6⟩:=stmt_b hs
 have htl:=word_w g1
 obtain ⟨k,hk⟩: ∃k:Nat,s.fKind=k:=Int.eq_ofNat_of_zero_le (by omega)
 have hkey:s.fKey.length≤8∧ ∀v∈s.fKey,valOk v=true:=by
  rcases g4 with h|h
  ·simp only[valsOk,within,Bool.and_eq_true,decide_eq_true_eq,Bool.not_eq_true',List.any_eq_false] at h
   exact ⟨by omega,fun v hv=>by have:=h.2 v hv;simpa using this⟩
  ·simp[h]
 have hrow:s.fRow.fVals.length≤8∧ ∀v∈s.fRow.fVals,valOk v=true:=by
  rcases g5 with h|h
  ·simp only[valsOk,within,Bool.and_eq_true,decide_eq_true_eq,Bool.not_eq_true',List.any_eq_false] at h
   exact ⟨by omega,fun v hv=>by have:=h.2 v hv;simpa using this⟩
  ·simp[h]
 have hE:stBy s=83::b8 s.fKind.toNat::(txB s.fTable++(valsB s.fKey++(valsB s.fRow.fVals++if s.fKind=5 then ddlB s.fDdl else []))):=rfl
 have hkl:=valsB_len g4
 have hrl:=valsB_len g5
 have htb:=txB_len s.fTable
 have hkt:s.fKind.toNat=k:=by omega
 rw[hkt] at hE
 refine vc_of_ew good hm [0,1,2,3,10,4,28,5,41,42,43,44,7] Tryz.func129 rfl (by kernel_rfl) (by kernel_rfl) rfl ?_
 simp[Tryz.f129,mByteS]
 refine .of (stmtOkI_ok s o0 h1 h2) ?_
 simp[hs]
 have hkb:IntKind.u8.wrap s.fKind=((b8 k).toNat:Int):=by rw[hk,wrapU8];rfl
 rw[hkb]
 refine .use (text_ok [83,b8 k] s.fTable (by simp) (by omega)) ?_
 simp[mByteS]
 refine .use (vals_okB (83::b8 k::txB s.fTable) s.fKey (by simp;omega) hkey.1 hkey.2) ?_
 simp[mByteS]
 refine .use (vals_okB (83::b8 k::(txB s.fTable++valsB s.fKey)) s.fRow.fVals (by simp;omega) hrow.1 hrow.2) ?_
 simp[mByteS]
 refine ⟨fun h5=>by rw[hE,if_neg h5];simp,fun h5=> ?_⟩
 obtain ⟨d1,d2,d3,d4,d5,d6,d7,d8⟩:=ddl_b (g6 h5)
 obtain ⟨dk,hdk⟩: ∃k:Nat,s.fDdl.fKind=k:=Int.eq_ofNat_of_zero_le (by omega)
 have hdn:s.fDdl.fKind.toNat=dk:=by omega
 have hD:ddlB s.fDdl=b8 dk::b8 s.fDdl.fCols.length::(s.fDdl.fCols.flatMap colB++(txsB s.fDdl.fKeys++(txB s.fDdl.fName++txB s.fDdl.fTo))):=by rw[ddlB,hdn]
 rw[if_pos h5,hD] at hE
 have hn1:=num_ok (83::b8 k::(txB s.fTable++(valsB s.fKey++valsB s.fRow.fVals))) dk 1 (by omega) (by omega) (by simp only[List.length_append,List.length_cons];omega)
 rw[←hdk] at hn1
 refine .use hn1 ?_
 simp[mByteS,numB_one]
 refine .use (num_ok (83::b8 k::(txB s.fTable++(valsB s.fKey++(valsB s.fRow.fVals++ [b8 dk])))) s.fDdl.fCols.length 1 (by omega) (by omega) (by simp only[List.length_append,List.length_cons,List.length_nil];omega)) ?_
 simp[mByteS,numB_one]
 have hcl:=flat_len (w:=colB) d3 (B:=44) fun c hc=>colB_len (d4 c hc)
 obtain ⟨A,hA⟩: ∃A,A=83::b8 k::(txB s.fTable++(valsB s.fKey++(valsB s.fRow.fVals++ [b8 dk,b8 s.fDdl.fCols.length]))):=⟨_,rfl⟩
 have hAl:A.length≤600:=by
  rw[hA]
  simp only[List.length_append,List.length_cons,List.length_nil]
  omega
 have hE2:stBy s=A++(s.fDdl.fCols.flatMap colB++(txsB s.fDdl.fKeys++(txB s.fDdl.fName++txB s.fDdl.fTo))):=by
  rw[hE,hA]
  simp
 refine ew_loop (fun E=> ∃i:Nat,i≤s.fDdl.fCols.length∧E= {nt:=76,sl:= [(4,.v false [.r [39]]),(5,.p (.bx 5 0)),(41,vColS s.fDdl.fCols),(42,int .i64 s.fDdl.fCols.length),(43,int .i64 i)],bx:= [(5,cDdl s.fDdl)],rt:=(mByteS (A++(s.fDdl.fCols.take i).flatMap colB)).map fun y=>(39,y)}) (fun E=>s.fDdl.fCols.length- (E.num 43).toNat) _ (Gh.kb _ [4,5,41,42,43] [5] [39]) ⟨0,by omega,by simp[mByteS,hA]⟩ ?_
 rintro E1 ⟨i,hi,rfl⟩
 have hf:=flat_le colB (l:=s.fDdl.fCols) (i:=i)
 simp[mByteS]
 refine ⟨fun h=>⟨h, ?_⟩,fun h=> ?_⟩
 ·have hc:=d4 _ (getD_mem dCol h)
  have ht:=fun (h:i<s.fDdl.fCols.length)=>tkR dCol h
  generalize s.fDdl.fCols[i]?.getD dCol=c at hc ht⊢
  obtain ⟨c1,c2,c3,c4⟩:=col_b hc
  have c5:=word_w c1
  obtain ⟨ty,hty⟩: ∃k:Nat,c.fTy=k:=Int.eq_ofNat_of_zero_le (by omega)
  have hcb:colB c=txB c.fName++(b8 ty::bB c.fNot::bB c.fHas::valB c.fDef):=by rw[colB,show c.fTy.toNat=ty by omega]
  have htb:=txB_len c.fName
  refine .use (text_ok (A++(s.fDdl.fCols.take i).flatMap colB) c.fName (by simp only[List.length_append];omega) (by omega)) ?_
  simp[mByteS]
  have hn2:=num_ok (A++(s.fDdl.fCols.take i).flatMap colB++txB c.fName) ty 1 (by omega) (by omega) (by simp only[List.length_append];omega)
  rw[←hty] at hn2
  refine .use hn2 ?_
  simp[mByteS,numB_one]
  refine .use (flag_ok (A++(s.fDdl.fCols.take i).flatMap colB++txB c.fName++ [b8 ty]) c.fNot (by simp only[List.length_append,List.length_cons,List.length_nil];omega)) ?_
  simp[mByteS]
  refine .use (flag_ok (A++(s.fDdl.fCols.take i).flatMap colB++txB c.fName++ [b8 ty]++ [bB c.fNot]) c.fHas (by simp only[List.length_append,List.length_cons,List.length_nil];omega)) ?_
  simp[mByteS]
  refine .use (val_ok (A++(s.fDdl.fCols.take i).flatMap colB++txB c.fName++ [b8 ty]++ [bB c.fNot]++ [bB c.fHas]) c.fDef (by simp only[List.length_append,List.length_cons,List.length_nil];omega) c4) ?_
  simp[mByteS]
  refine .of _ ((Gh.kb _ [4,5,41,42,43] [5] [63]).trans (Gh.rn _ 63 39)) ⟨i+1,by omega, ?_⟩ ?_
  ·simp[wrapS (show i<9223372036854775807 by omega),mByteS,ht h,hcb]
  ·simp[wrapS (show i<9223372036854775807 by omega)];omega
 ·have:i=s.fDdl.fCols.length:=by omega
  subst this
  rw[List.take_length]
  have e7:=ew_size d7
  have e8:=ew_size d8
  have e9:=wordsB_len d5 fun s hs=>word_w (d6 s hs)
  have e10:=txB_len s.fDdl.fName
  refine .use (texts_okB (A++s.fDdl.fCols.flatMap colB) s.fDdl.fKeys (by simp only[List.length_append];omega) d5 (fun s hs=>word_w (d6 s hs))) ?_
  simp[mByteS]
  refine .use (text_ok (A++(s.fDdl.fCols.flatMap colB++txsB s.fDdl.fKeys)) s.fDdl.fName (by simp only[List.length_append];omega) (by omega)) ?_
  simp[mByteS]
  refine .use (text_ok (A++(s.fDdl.fCols.flatMap colB++(txsB s.fDdl.fKeys++txB s.fDdl.fName))) s.fDdl.fTo (by simp only[List.length_append];omega) (by omega)) ?_
  simp[mByteS]
  rw[hE2]
  simp
end Go.Proofs.YteeolohhmfjafaaGreat
namespace Go.Proofs.YteeolohhmfjafaaGreat
open Go Go.Proofs Go.Sm
attribute [local simp] ti eStr eInt eByte eVal vVal vValS vRow eCol vCol vColS vStrS cDdl vDdl vStmt ePart vPart vPartS eBatch cBatch vBatch eTable cTable vTable vTableS vCat vByteS vPack
set_option linter.unusedVariables false
set_option linter.unusedSimpArgs false
set_option maxRecDepth 8000
end Go.Proofs.YteeolohhmfjafaaGreat
namespace Go.Proofs.YteeolohhmfjafaaGreat
open Go Go.Proofs Go.Sm
attribute [local simp] ti eStr eInt eByte eVal vVal vValS vRow eCol vCol vColS vStrS cDdl vDdl vStmt ePart vPart vPartS eBatch cBatch vBatch eTable cTable vTable vTableS vCat vByteS vPack
set_option linter.unusedVariables false
set_option linter.unusedSimpArgs false
set_option maxRecDepth 8000
end Go.Proofs.YteeolohhmfjafaaGreat
namespace Go.Proofs.YteeolohhmfjafaaGreat
open Go Go.Proofs Go.Sm
attribute [local simp] ti eStr eInt eByte eVal vVal vValS vRow eCol vCol vColS vStrS cDdl vDdl vStmt ePart vPart vPartS eBatch cBatch vBatch eTable cTable vTable vTableS vCat vByteS vPack
set_option linter.unusedVariables false
set_option linter.unusedSimpArgs false
set_option maxRecDepth 8000
theorem I_PackOf_ok (b:GBatch) (o0:okBatch b) (hs: ∀n∈wBatch b,n≤1048576) (_:(wBatch b).sum≤1048576):VC Tryz.prog 46 [vBatch b] [(true,mPack (packOf b).1),(false,[(.s,.sc (.bool (packOf b).2))])]:=by
 have hE:packOf b=if batchOk b=true then (⟨packB b⟩,true) else (⟨[]⟩,false):=rfl
 refine vc_of_ew good hm [0,1,2,3,11,4,26,27,28,29,6,7] Tryz.func46 rfl (by kernel_rfl) (by kernel_rfl) rfl ?_
 simp[Tryz.f46,mPack]
 refine .of (batchOkI_ok b o0 hs) ?_
 simp
 refine ⟨fun h=>by rw[hE,if_neg (by simp[h])];simp,fun h=> ?_⟩
 rw[if_pos h] at hE
 obtain ⟨g1,g2,g3,g4,g5,g6⟩:=batch_b h
 obtain ⟨ls,hls⟩: ∃k:Nat,b.fLsn=k:=Int.eq_ofNat_of_zero_le (by omega)
 obtain ⟨pv,hpv⟩: ∃k:Nat,b.fPrev=k:=Int.eq_ofNat_of_zero_le (by omega)
 have n1:=num_ok [80] ls 2 (by omega) (by omega) (by simp)
 rw[←hls] at n1
 refine .use n1 ?_
 simp[mByteS]
 have n2:=num_ok (80::numB ls 2) pv 2 (by omega) (by omega) (by simp[numB_len])
 rw[←hpv] at n2
 refine .use n2 ?_
 simp[mByteS]
 refine .use (num_ok (80::(numB ls 2++numB pv 2)) b.fParts.length 1 (by omega) (by omega) (by simp[numB_len])) ?_
 simp[mByteS,numB_one]
 have hH:packH b=80::(numB ls 2++(numB pv 2++ [b8 b.fParts.length])):=by rw[packH,hls,hpv];rfl
 refine ew_loop (fun E=> ∃i:Nat,i≤b.fParts.length∧E= {nt:=57,sl:= [(2,.p (.bx 2 0)),(4,.v false [.r [24]]),(26,vPartS b.fParts),(27,int .i64 b.fParts.length),(28,int .i64 i)],bx:= [(2,[.n [.sc (.int .u8 0)]])],rt:=(mByteS (packH b++(b.fParts.take i).flatMap partB)).map fun y=>(24,y)}) (fun E=>b.fParts.length- (E.num 28).toNat) _ (Gh.kb _ [2,4,26,27,28] [2] [24]) ⟨0,by omega,by simp[mByteS,hH]⟩ ?_
 rintro E1 ⟨i,hi,rfl⟩
 have hpl:=packA_len h i
 rw[List.length_append] at hpl
 have hstep:i<b.fParts.length→(b.fParts.take (i+1)).flatMap partB=(b.fParts.take i).flatMap partB++partB (b.fParts[i]?.getD dPart):=fun h=>by rw[tkR dPart h,List.flatMap_append];simp
 have hall:i=b.fParts.length→(b.fParts.take i).flatMap partB=b.fParts.flatMap partB:=fun h=>by rw[h,List.take_length]
 generalize (b.fParts.take i).flatMap partB=F at hpl hstep hall
 simp[mByteS]
 refine ⟨fun hil=>⟨hil, ?_⟩,fun hil=> ?_⟩
 ·have hm:=getD_mem dPart hil
  have hp:=g6 _ hm
  have ho:=o0.2.2.1.2 _ hm
  have ht:=hstep hil
  have hw: ∀n∈wPart (b.fParts[i]?.getD dPart),n≤1048576:=fun n hn=>hs n (by
   simp only[wBatch,wPartS,List.append_nil]
   exact List.mem_cons_of_mem _ (List.mem_flatMap.2 ⟨_,hm,hn⟩))
  generalize b.fParts[i]?.getD dPart=p at hp ho ht hw⊢
  obtain ⟨p1,p2,p3⟩:=part_b hp
  have p4:=stBy_len p1
  have w2:=wordsOk_b p2
  have w3:=wordsOk_b p3
  have w4:=wordsB_len w2.1 fun s hs=>word_w (w2.2 s hs)
  have hpb:partB p=numB (stBy p.fStmt).length 2++(stBy p.fStmt++(txsB p.fCols++txsB p.fKeys)):=rfl
  refine .of (stmtBytesI_ok p.fStmt ho.1 (hw _ (by simp[wPart,wStmt,wDdl,wColS])) (hw _ (by simp[wPart,wStmt,wDdl,wStrS])) p1) ?_
  simp[mByteS]
  refine .use (num_ok (packH b++F) (stBy p.fStmt).length 2 (by omega) (by omega) (by simp only[List.length_append];omega)) ?_
  simp[mByteS]
  have q1:=numB_len (stBy p.fStmt).length 2
  refine ⟨by omega, ?_⟩
  refine .use (texts_okB (packH b++(F++(numB (stBy p.fStmt).length 2++stBy p.fStmt))) p.fCols (by simp only[List.length_append];omega) w2.1 (fun s hs=>word_w (w2.2 s hs))) ?_
  simp[mByteS]
  refine .use (texts_okB (packH b++(F++(numB (stBy p.fStmt).length 2++(stBy p.fStmt++txsB p.fCols)))) p.fKeys (by simp only[List.length_append];omega) w3.1 (fun s hs=>word_w (w3.2 s hs))) ?_
  simp[mByteS]
  refine .of _ ((Gh.kb _ [2,4,26,27,28] [2] [50]).trans (Gh.rn _ 50 24)) ⟨i+1,by omega, ?_⟩ ?_
  ·simp[wrapS (show i<9223372036854775807 by omega),mByteS,ht,hpb]
  ·simp[wrapS (show i<9223372036854775807 by omega)];omega
 ·have hi':i=b.fParts.length:=by omega
  have hA:packA b=packH b++F:=by rw[packA,hall hi']
  have hsm:=sumI_ok (packA b) (by rw[hA,List.length_append];omega)
  rw[hA] at hsm
  simp only[List.map_append] at hsm
  refine .of hsm ?_
  simp
  have hlt:=sumT_lt (packH b++F)
  refine .use (num_ok (packH b++F) (sumT (packH b++F)) 3 (by omega) (by omega) (by simp only[List.length_append];omega)) ?_
  simp[mByteS]
  rw[hE,packB,hA]
  simp
end Go.Proofs.YteeolohhmfjafaaGreat
namespace Go.Proofs.YteeolohhmfjafaaGreat
open Go Go.Proofs Go.Sm
attribute [local simp] ti eStr eInt eByte eVal vVal vValS vRow eCol vCol vColS vStrS cDdl vDdl vStmt ePart vPart vPartS eBatch cBatch vBatch eTable cTable vTable vTableS vCat vByteS vPack
set_option linter.unusedVariables false
set_option linter.unusedSimpArgs false
set_option maxRecDepth 8000
def p8 (i:Nat):Nat:=256^i
theorem p8_le {i:Nat} (h:i≤6):p8 i≤281474976710656:=Nat.le_trans (Nat.pow_le_pow_right (by omega) h) (by decide)
theorem p8_succ (i:Nat):p8 (i+1)=p8 i*256:=Nat.pow_succ ..
theorem p8_pos (i:Nat):0<p8 i:=Nat.pow_pos (by omega)
theorem l06Pow_ok (size:Nat) (h:size≤6):VC Tryz.prog 229 [int .i64 size] [(false,[(.s,.sc (.int .i64 (p8 size:Int)))])]:=by
 refine vc_of_ew good hm [0,2,3,4,7] Tryz.func229 rfl (by kernel_rfl) (by kernel_rfl) rfl ?_
 simp[Tryz.f229]
 refine ew_loop (fun E=> ∃i:Nat,i≤size∧E= {nt:=13,sl:= [(0,int .i64 size),(3,int .i64 (p8 i:Int)),(4,int .i64 i)],bx:= [],rt:= []}) (fun E=>size- (E.num 4).toNat) _ (Gh.kb _ [0,3,4] [] []) ⟨0,by omega,by simp[p8]⟩ ?_
 rintro E1 ⟨i,hi,rfl⟩
 have hp:=fun (h:i<size)=>p8_le (i:=i+1) (by omega)
 have hs:=p8_succ i
 rw[hs] at hp
 simp
 refine ⟨fun hil=> .of _ (Gh.kb _ [0,3,4] [] []) ⟨i+1,by omega, ?_⟩ ?_,fun hil=> ?_⟩
 ·have:=hp hil
  rw[wrapI (by omega) (by omega),hs]
  simp[wrapS (show i<9223372036854775807 by omega)]
 ·simp[wrapS (show i<9223372036854775807 by omega)];omega
 ·have:i=size:=by omega
  subst this
  rfl
theorem quoB (n k:Nat) (hn:n≤9223372036854775807):IntKind.u8.wrap ((IntKind.i64.wrap ((n:Int)/ (p8 k:Int))).tmod 256)=((bN n k).toNat:Int):=by
 have h1:n/p8 k≤n:=Nat.div_le_self _ _
 have h2:(n:Int)/ (p8 k:Int)=((n/p8 k:Nat):Int):=(Int.natCast_ediv _ _).symm
 have h3:((n/p8 k:Nat):Int).tmod 256=((n/p8 k%256:Nat):Int):=(Int.ofNat_tmod _ 256).symm
 have h4:=bN_mod n k
 rw[show 256^k=p8 k from rfl] at h4
 generalize n/p8 k=q at*
 rw[h2,wrapI (i:=(q:Int)) (by omega) (by omega),h3,wrapU8,h4]
theorem putNum_ok (l:List UInt8) (n size:Nat) (h1:1≤size) (h2:size≤6) (hn:n<p8 size) (hl:l.length≤1048576):VC Tryz.prog 122 [list [.sc (.int .u8 0)] (l.map eByte),int .i64 n,int .i64 size] [(false,mByteS (l++numB n size)),(false,[(.s,.sc (.bool true))])]:=by
 have hp:=p8_le h2
 refine vc_of_ew good hm [0,1,2,6,7,25,8,9,32] Tryz.func122 rfl (by kernel_rfl) (by kernel_rfl) rfl ?_
 simp[Tryz.f122,mByteS]
 refine .of (fun g=>⟨by omega,l06Pow_ok size h2⟩) ?_
 simp
 refine ⟨⟨⟨by omega,by omega⟩,by omega⟩,fun _ _ _=>⟨by omega, ?_⟩⟩
 have hw:IntKind.i64.wrap ((size:Int)-1)=(size:Int)-1:=wrapI (by omega) (by omega)
 rw[hw]
 refine ew_loop (fun E=> ∃ (k:Nat) (o:List UInt8),k≤size∧o.length+k=l.length+size∧o++numB n k=l++numB n size∧E= {nt:=45,sl:= [(1,int .i64 n),(8,.v false [.r [28]]),(9,int .i64 ((k:Int)-1))],bx:= [],rt:=(mByteS o).map fun y=>(28,y)}) (fun E=>(E.num 9+1).toNat) _ (Gh.kb _ [1,8,9] [] [28]) ⟨size,l,by omega,rfl,rfl,by simp[mByteS]⟩ ?_
 rintro E1 ⟨k,o,hk,hol,he,rfl⟩
 simp[mByteS]
 refine ⟨fun h1=> ?_,fun h1=> ?_⟩
 ·obtain ⟨j,rfl⟩: ∃j,k=j+1:=⟨k-1,by omega⟩
  have ej:(((j+1:Nat):Int)-1)=(j:Int):=by omega
  have hpw:=l06Pow_ok j (by omega)
  have hq:=quoB n j (by omega)
  have hpp:=p8_pos j
  rw[ej]
  refine .of hpw ?_
  simp
  refine ⟨by omega, ?_⟩
  rw[hq]
  refine ⟨by omega,.of _ ((Gh.kb _ [1,8,9] [] [43]).trans (Gh.rn _ 43 28)) ⟨j,by omega,o++ [bN n j], ?_, ?_, ?_⟩ ?_⟩
  ·simp;omega
  ·rw[←he,numB];simp
  ·rw[wrapI (by omega) (by omega)]
   simp[mByteS]
  ·rw[wrapI (by omega) (by omega)]
   simp
   try omega
 ·have:k=0:=by omega
  subst this
  rw[numB,List.append_nil] at he
  subst he
  simp
theorem u8I {x:Int} {n:Nat} (h:x=n):IntKind.u8.wrap x=((b8 n).toNat:Int):=by
 rw[h,wrapU8]
 rfl
theorem valBytes_ok (v:GVal) (hv:valOk v=true):VC Tryz.prog 344 [vVal v] [(false,mByteS (valB v)),(false,[(.s,.sc (.bool true))])]:=by
 obtain ⟨q1,q2,q3⟩:=val_S hv
 obtain ⟨ty,hty⟩:=Int.eq_ofNat_of_zero_le q2
 have hV:valB v=b8 v.fTy.toNat::(if v.fTy=1 then [b8 v.fN.toNat] else if v.fTy=2 then bB (decide (v.fN<0))::numB v.fN.natAbs 6 else if v.fTy=3 then txB v.fS else []):=rfl
 rw[show v.fTy.toNat=ty by omega] at hV
 refine vc_of_ew good hm [0,1,2,3,9,4,15,16,24,5,6,29,40] Tryz.func344 rfl (by kernel_rfl) (by kernel_rfl) rfl ?_
 simp[Tryz.f344,mByteS]
 refine .of (valOkS_ok _) ?_
 simp[hv]
 rw[u8I hty]
 refine ⟨fun k1=> ?_,fun k1=>⟨fun k2=> ?_,fun k2=>⟨fun k3=> ?_,fun k3=> ?_⟩⟩⟩
 ·obtain ⟨m,hm⟩: ∃m:Nat,v.fN=m:=Int.eq_ofNat_of_zero_le (by
   simp only[valOk,Bool.or_eq_true,Bool.and_eq_true,decide_eq_true_eq] at hv
   omega)
  rw[u8I hm,hV,if_pos k1,hm]
  simp
 ·have hin: -1099511627775≤v.fN∧v.fN≤1099511627775:=by
   simp only[valOk,within,Bool.or_eq_true,Bool.and_eq_true,decide_eq_true_eq] at hv
   omega
  rw[if_neg k1,if_pos k2] at hV
  have hp6:p8 6=281474976710656:=rfl
  refine ⟨fun hneg=> ?_,fun hpos=> ?_⟩
  ·have hw:IntKind.i64.wrap (-v.fN)=(v.fN.natAbs:Int):=by rw[wrapI (by omega) (by omega)];omega
   rw[hw]
   have hpn:=putNum_ok [b8 ty,1] v.fN.natAbs 6 (by omega) (by omega) (by omega) (by simp)
   refine .of hpn ?_
   simp[mByteS]
   rw[hV]
   simp[hneg,bB]
   exact of_eq_true (ow_ByteS (b8 ty::1::numB v.fN.natAbs 6))
  ·have hw:v.fN=(v.fN.natAbs:Int):=by omega
   have hpn:=putNum_ok [b8 ty,0] v.fN.natAbs 6 (by omega) (by omega) (by omega) (by simp)
   rw[←hw] at hpn
   refine .of hpn ?_
   simp[mByteS]
   rw[hV]
   simp[show¬v.fN<0 by omega,bB]
   exact of_eq_true (ow_ByteS (b8 ty::0::numB v.fN.natAbs 6))
 ·rw[hV,if_neg k1,if_neg k2,if_pos k3]
  simp[szMk]
  rw[u8I (n:=v.fS.size) rfl]
  rw[Lib.toList_data]
  refine ⟨?_,by simp[txB,tx]⟩
  have:=tx_len v.fS
  unfold tx at this
  omega
 ·rw[hV,if_neg k1,if_neg k2,if_neg k3]
  simp
theorem vals_b {l:List GVal} (h:valsOk l=true∨l= []):l.length≤8∧ ∀v∈l,valOk v=true:=by
 rcases h with h|rfl
 ·simp only[valsOk,within,Bool.and_eq_true,decide_eq_true_eq,Bool.not_eq_true',List.any_eq_false] at h
  exact ⟨by omega,fun v hv=>by have:=h.2 v hv;simpa using this⟩
 ·simp
theorem rowBytes_ok (l:List GVal) (h:valsOk l=true∨l= []):VC Tryz.prog 231 [vValS l] [(false,mByteS (valsB l)),(false,[(.s,.sc (.bool true))])]:=by
 obtain ⟨hl,hv⟩:=vals_b h
 refine vc_of_ew good hm [0,2,3,11,4,16,17,18,19,6,7,8,28] Tryz.func231 rfl (by kernel_rfl) (by kernel_rfl) rfl ?_
 simp[Tryz.f231,mByteS]
 rw[u8I rfl]
 refine ⟨by omega,fun _=> ?_⟩
 refine ew_loop (fun E=> ∃i:Nat,i≤l.length∧E= {nt:=34,sl:= [(4,.v false [.r [15]]),(16,vValS l),(17,int .i64 l.length),(18,int .i64 i)],bx:= [],rt:=(mByteS (b8 l.length::(l.take i).flatMap valB)).map fun y=>(15,y)}) (fun E=>l.length- (E.num 18).toNat) _ (Gh.kb _ [4,16,17,18] [] [15]) ⟨0,by omega,by simp[mByteS]⟩ ?_
 rintro E1 ⟨i,hi,rfl⟩
 have hstep:i<l.length→(l.take (i+1)).flatMap valB=(l.take i).flatMap valB++valB (l[i]?.getD dVal):=fun h=>by rw[tkR dVal h,List.flatMap_append];simp
 have hall:i=l.length→(l.take i).flatMap valB=l.flatMap valB:=fun h=>by rw[h,List.take_length]
 have hlen:((l.take i).flatMap valB).length≤8*32:=flat_len (by rw[List.length_take];omega) fun v hm=>valB_len (val_S (hv v (List.mem_of_mem_take hm))).1
 generalize (l.take i).flatMap valB=F at*
 simp[mByteS]
 refine ⟨fun hil=>⟨hil, ?_⟩,fun hil=> ?_⟩
 ·have hm:=hv _ (getD_mem dVal hil)
  have hb:=valB_len (val_S hm).1
  refine .of (valBytes_ok _ hm) ?_
  simp[mByteS]
  have hst:=hstep hil
  have hw:=wrapS (n:=i) (by omega)
  push_cast at hw
  refine ⟨by omega,.of _ ((Gh.kb _ [4,16,17,18] [] [31]).trans (Gh.rn _ 31 15)) ⟨i+1,by omega, ?_⟩ ?_⟩
  ·simp[hw,hst,mByteS]
  ·simp[hw]
   omega
 ·rw[hall (by omega)]
  simp[valsB]
theorem wordBytes_ok (s:ByteArray) (h:s.size=0∨wordOk s=true):VC Tryz.prog 343 [str s] [(false,mByteS (txB s)),(false,[(.s,.sc (.bool true))])]:=by
 refine vc_of_ew good hm [0,2,3,10] Tryz.func343 rfl (by kernel_rfl) (by kernel_rfl) rfl ?_
 simp[Tryz.f343,mByteS]
 have hsz:s.size≤8:=by
  rcases h with h|h
  ·omega
  ·exact word_w h
 refine .of (fun g=>⟨g,wordOkS_ok s (by unfold okM;omega)⟩) ?_
 simp
 have hl:s.toList.length=s.size:=by rw[Lib.toList_data];rfl
 refine ⟨fun g=> ?_,fun _=>⟨by omega, ?_⟩⟩
 ·rcases h with h|h
  ·exact absurd (List.length_eq_zero_iff.1 (hl.trans h)) g
  ·exact h
 ·rw[u8I (n:=s.size) rfl,Lib.toList_data]
  simp[txB,tx]
theorem l06Bool_ok (b:Bool):VC Tryz.prog 345 [bool b] [(false,[(.s,.sc (.int .u8 ((bB b).toNat:Int)))])]:=by
 refine vc_of_ew good hm [0,2,3] Tryz.func345 rfl (by kernel_rfl) (by kernel_rfl) rfl ?_
 simp[Tryz.f345]
 refine ⟨fun h=>by simp[h,bB],fun h=>by simp[h,bB]⟩
theorem l06Word_ok (l:List UInt8) (s:ByteArray) (hl:l.length≤1048576) (h:s.size=0∨wordOk s=true):VX Tryz.prog 230 [.v false [.r [900]],str s] (mByteS l) [(false,mByteS (l++txB s))]:=by
 have hsz:s.size≤8:=by
  rcases h with h|h
  ·omega
  ·exact word_w h
 have ht:=txB_len s
 refine vx_of_ew good hm [0,1,4,5] Tryz.func230 rfl (by kernel_rfl) (by kernel_rfl) rfl ?_
 simp[Tryz.f230,mByteS]
 refine .of (wordBytes_ok s h) ?_
 simp[mByteS]
 refine ⟨by omega,.of _ (Gh.refl _) ?_⟩
 simp
theorem emw {s:ByteArray} (h:em s=true∨wordOk s=true):s.size=0∨wordOk s=true:=h.imp_left em_size
theorem l06Ddl_ok (l:List UInt8) (d:GDdl) (hl:l.length≤500000) (hd:ddlOk d=true):VX Tryz.prog 232 [.v false [.r [900]],vDdl d] (mByteS l) [(false,mByteS (l++ddlB d))]:=by
 obtain ⟨d1,d2,d3,d4,d5,d6,d7,d8⟩:=ddl_b hd
 obtain ⟨kd,hkd⟩:=Int.eq_ofNat_of_zero_le (show 0≤d.fKind by omega)
 have s7:=ew_size d7
 have s8:=ew_size d8
 refine vx_of_ew good hm [0,1,3,4,22,23,24,25,6,7,61,62,63,64,10] Tryz.func232 rfl (by kernel_rfl) (by kernel_rfl) rfl ?_
 simp[Tryz.f232,mByteS]
 rw[u8I hkd,u8I (n:=d.fCols.length) rfl]
 refine ⟨by omega, ?_⟩
 refine ew_loop (fun E=> ∃i:Nat,i≤d.fCols.length∧E= {nt:=78,sl:= [(0,.v false [.r [20]]),(3,.p (.bx 3 0)),(22,vColS d.fCols),(23,int .i64 d.fCols.length),(24,int .i64 i)],bx:= [(3,cDdl d)],rt:=(mByteS (l++(b8 kd::b8 d.fCols.length::(d.fCols.take i).flatMap colB))).map fun y=>(20,y)}) (fun E=>d.fCols.length- (E.num 24).toNat) _ (Gh.kb _ [0,3,22,23,24] [3] [20]) ⟨0,by omega,by simp[mByteS]⟩ ?_
 rintro E1 ⟨i,hi,rfl⟩
 have hstep:i<d.fCols.length→(d.fCols.take (i+1)).flatMap colB=(d.fCols.take i).flatMap colB++colB (d.fCols[i]?.getD dCol):=fun h=>by rw[tkR dCol h,List.flatMap_append];simp
 have hall:i=d.fCols.length→(d.fCols.take i).flatMap colB=d.fCols.flatMap colB:=fun h=>by rw[h,List.take_length]
 have hlen:((d.fCols.take i).flatMap colB).length≤8*44:=flat_len (by rw[List.length_take];omega) fun c hm=>colB_len (d4 c (List.mem_of_mem_take hm))
 generalize (d.fCols.take i).flatMap colB=F at*
 simp[mByteS]
 refine ⟨fun hil=>⟨hil, ?_⟩,fun hil=> ?_⟩
 ·have hc:=d4 _ (getD_mem dCol hil)
  have hst:=hstep hil
  generalize d.fCols[i]?.getD dCol=c at*
  obtain ⟨c1,c2,c3,c4⟩:=col_b hc
  have hw8:=word_w c1
  have hvl:=valB_len (val_S c4).1
  obtain ⟨tc,htc⟩:=Int.eq_ofNat_of_zero_le (show 0≤c.fTy by omega)
  have hW:=l06Word_ok (l++(b8 kd::b8 d.fCols.length::F)) c.fName (by simp;omega) (.inr c1)
  refine .use hW ?_
  simp[mByteS]
  refine .of (l06Bool_ok _) ?_
  simp
  refine .of (l06Bool_ok _) ?_
  simp
  rw[u8I htc]
  refine ⟨by rw[txB_len];omega, ?_⟩
  refine .of (valBytes_ok _ c4) ?_
  simp[mByteS]
  have hw:=wrapS (n:=i) (by omega)
  push_cast at hw
  refine ⟨by rw[txB_len];omega,.of _ ((Gh.kb _ [0,3,22,23,24] [3] [51]).trans (Gh.rn _ 51 20)) ⟨i+1,by omega, ?_⟩ ?_⟩
  ·simp[hw,hst,mByteS,colB,htc]
  ·simp[hw]
   omega
 ·rw[u8I (n:=d.fKeys.length) rfl]
  refine ⟨by omega, ?_⟩
  have hall:=hall (by omega)
  have hG:ddlB d=(b8 kd::b8 d.fCols.length::(F++(b8 d.fKeys.length::d.fKeys.flatMap txB)))++(txB d.fName++txB d.fTo):=by
   rw[ddlB,hall,txsB,hkd]
   simp
  generalize hB:b8 kd::b8 d.fCols.length::(F++ [b8 d.fKeys.length])=B at*
  have hBl:B.length≤400:=by rw[←hB];simp;omega
  refine ew_loop (fun E=> ∃j:Nat,j≤d.fKeys.length∧E= {nt:=78,sl:= [(0,.v false [.r [59]]),(3,.p (.bx 3 0)),(61,vStrS d.fKeys),(62,int .i64 d.fKeys.length),(63,int .i64 j)],bx:= [(3,cDdl d)],rt:=(mByteS (l++(B++(d.fKeys.take j).flatMap txB))).map fun y=>(59,y)}) (fun E=>d.fKeys.length- (E.num 63).toNat) _ (Gh.kb _ [0,3,61,62,63] [3] [59]) ⟨0,by omega,by rw[←hB];simp[mByteS]⟩ ?_
  rintro E2 ⟨j,hj,rfl⟩
  have hstep2:j<d.fKeys.length→(d.fKeys.take (j+1)).flatMap txB=(d.fKeys.take j).flatMap txB++txB (d.fKeys[j]?.getD ⟨#[]⟩):=fun h=>by rw[tkR ⟨#[]⟩ h,List.flatMap_append];simp
  have hall2:j=d.fKeys.length→(d.fKeys.take j).flatMap txB=d.fKeys.flatMap txB:=fun h=>by rw[h,List.take_length]
  have hlen2:((d.fKeys.take j).flatMap txB).length≤8*9:=flat_len (by rw[List.length_take];omega) fun s hm=>by rw[txB_len];have:=word_w (d6 s (List.mem_of_mem_take hm));omega
  generalize (d.fKeys.take j).flatMap txB=G at*
  simp[mByteS]
  refine ⟨fun hjl=>⟨hjl, ?_⟩,fun hjl=> ?_⟩
  ·have hk:=d6 _ (getD_mem ⟨#[]⟩ hjl)
   have hst:=hstep2 hjl
   generalize d.fKeys[j]?.getD ⟨#[]⟩=k at*
   have hW:=l06Word_ok (l++(B++G)) k (by simp;omega) (.inr hk)
   refine .use hW ?_
   simp[mByteS]
   have hw:=wrapS (n:=j) (by omega)
   push_cast at hw
   refine .of _ ((Gh.kb _ [0,3,61,62,63] [3] [69]).trans (Gh.rn _ 69 59)) ⟨j+1,by omega, ?_⟩ ?_
   ·simp[hw,hst,mByteS]
   ·simp[hw]
    omega
  ·have h2:=hall2 (by omega)
   have hW1:=l06Word_ok (l++(B++G)) d.fName (by simp;omega) (emw d7)
   refine .use hW1 ?_
   simp[mByteS]
   have hW2:=l06Word_ok (l++(B++(G++txB d.fName))) d.fTo (by simp[txB_len];omega) (emw d8)
   refine .use hW2 ?_
   simp[mByteS]
   refine .of _ (Gh.refl _) ?_
   rw[hG,←h2,←hB]
   simp
theorem stmtBytes_ok (s:GStmt) (h:stmtOk s=true):VC Tryz.prog 123 [vStmt s] [(false,mByteS (stBy s)),(false,[(.s,.sc (.bool true))])]:=by
 obtain ⟨g1,g2,g3,g4,g5,g6⟩:=stmt_b h
 obtain ⟨kd,hkd⟩:=Int.eq_ofNat_of_zero_le (show 0≤s.fKind by omega)
 have l1:=word_w g1
 have l2:=valsB_len g4
 have l3:=valsB_len g5
 have hS:stBy s=83::b8 kd::(txB s.fTable++(valsB s.fKey++(valsB s.fRow.fVals++if s.fKind=5 then ddlB s.fDdl else []))):=by rw[stBy,hkd];rfl
 refine vc_of_ew good hm [0,1,2,3,11,4,5,7,39] Tryz.func123 rfl (by kernel_rfl) (by kernel_rfl) rfl ?_
 simp[Tryz.f123,mByteS]
 refine .of (stmtOkS_ok s (stmtOk_ok h).1) ?_
 simp[h]
 rw[u8I hkd]
 have hW:=l06Word_ok [83,b8 kd] s.fTable (by simp) (.inr g1)
 refine .use hW ?_
 simp[mByteS]
 refine .of (rowBytes_ok s.fKey g4) ?_
 simp[mByteS]
 refine .of (rowBytes_ok s.fRow.fVals g5) ?_
 simp[mByteS]
 rw[hS]
 have h1:=txB_len s.fTable
 refine ⟨by omega,by omega,fun k=> ?_,fun k=> ?_⟩
 ·have hD:=l06Ddl_ok (83::b8 kd::(txB s.fTable++(valsB s.fKey++valsB s.fRow.fVals))) s.fDdl (by simp;omega) (g6 k)
  refine .use hD ?_
  simp[mByteS,k]
 ·simp[k]
theorem l09Put_ok (l:List UInt8) (ws:List ByteArray) (hl:l.length≤900000) (h1:ws.length≤8) (h2: ∀s∈ws,wordOk s=true):VX Tryz.prog 124 [.v false [.r [900]],vStrS ws] (mByteS l) [(false,mByteS (l++txsB ws))]:=by
 refine vx_of_ew good hm [0,1,4,13,14,15,16,6] Tryz.func124 rfl (by kernel_rfl) (by kernel_rfl) rfl ?_
 simp[Tryz.f124,mByteS]
 rw[u8I (n:=ws.length) rfl]
 refine ⟨by omega, ?_⟩
 refine ew_loop (fun E=> ∃j:Nat,j≤ws.length∧E= {nt:=24,sl:= [(0,.v false [.r [12]]),(13,vStrS ws),(14,int .i64 ws.length),(15,int .i64 j)],bx:= [],rt:=(mByteS (l++(b8 ws.length::(ws.take j).flatMap txB))).map fun y=>(12,y)}) (fun E=>ws.length- (E.num 15).toNat) _ (Gh.kb _ [0,13,14,15] [] [12]) ⟨0,by omega,by simp[mByteS]⟩ ?_
 rintro E2 ⟨j,hj,rfl⟩
 have hstep2:j<ws.length→(ws.take (j+1)).flatMap txB=(ws.take j).flatMap txB++txB (ws[j]?.getD ⟨#[]⟩):=fun h=>by rw[tkR ⟨#[]⟩ h,List.flatMap_append];simp
 have hall2:j=ws.length→(ws.take j).flatMap txB=ws.flatMap txB:=fun h=>by rw[h,List.take_length]
 have hlen2:((ws.take j).flatMap txB).length≤8*9:=flat_len (by rw[List.length_take];omega) fun s hm=>by rw[txB_len];have:=word_w (h2 s (List.mem_of_mem_take hm));omega
 generalize (ws.take j).flatMap txB=G at*
 simp[mByteS]
 refine ⟨fun hjl=>⟨hjl, ?_⟩,fun hjl=> ?_⟩
 ·have hk:=h2 _ (getD_mem ⟨#[]⟩ hjl)
  have hst:=hstep2 hjl
  generalize ws[j]?.getD ⟨#[]⟩=k at*
  have hW:=l06Word_ok (l++(b8 ws.length::G)) k (by simp;omega) (.inr hk)
  refine .use hW ?_
  simp[mByteS]
  have hw:=wrapS (n:=j) (by omega)
  push_cast at hw
  refine .of _ ((Gh.kb _ [0,13,14,15] [] [21]).trans (Gh.rn _ 21 12)) ⟨j+1,by omega, ?_⟩ ?_
  ·simp[hw,hst,mByteS]
  ·simp[hw]
   omega
 ·have h3:=hall2 (by omega)
  refine .of _ (Gh.refl _) ?_
  rw[txsB,←h3]
  simp
theorem part_b' {p:GPart} (h:partBad p=false):stmtOk p.fStmt=true∧(p.fCols.length≤8∧ ∀s∈p.fCols,wordOk s=true)∧(p.fKeys.length≤8∧ ∀s∈p.fKeys,wordOk s=true):=by
 obtain ⟨p1,p2,p3⟩:=part_b h
 exact ⟨p1,wordsOk_b p2,wordsOk_b p3⟩
theorem p8_2:p8 2=65536:=rfl
theorem p8_3:p8 3=16777216:=rfl
theorem S_PackOf_ok (b:GBatch) (o0:okBatch b) (hs: ∀n∈wBatch b,n≤1048576) (_:(wBatch b).sum≤1048576):VC Tryz.prog 44 [vBatch b] [(true,mPack (packOf b).1),(false,[(.s,.sc (.bool (packOf b).2))])]:=by
 have hE:packOf b=if batchOk b=true then (⟨packB b⟩,true) else (⟨[]⟩,false):=rfl
 refine vc_of_ew good hm [0,1,2,3,12,4,36,37,38,39,7,8] Tryz.func44 rfl (by kernel_rfl) (by kernel_rfl) rfl ?_
 simp[Tryz.f44,mPack]
 refine .of (batchOkS_ok b o0) ?_
 cases h:batchOk b with
 |false=>rw[hE,if_neg (by simp[h])];simp
 |true=>
 rw[if_pos h] at hE
 obtain ⟨g1,g2,g3,g4,g5,g6⟩:=batch_b h
 obtain ⟨ls,hls⟩: ∃k:Nat,b.fLsn=k:=Int.eq_ofNat_of_zero_le (by omega)
 obtain ⟨pv,hpv⟩: ∃k:Nat,b.fPrev=k:=Int.eq_ofNat_of_zero_le (by omega)
 have e2:=p8_2
 have e3:=p8_3
 have n1:=putNum_ok [80] ls 2 (by omega) (by omega) (by omega) (by simp)
 rw[←hls] at n1
 simp
 refine .of n1 ?_
 simp[mByteS]
 have n2:=putNum_ok (80::numB ls 2) pv 2 (by omega) (by omega) (by omega) (by simp[numB_len])
 rw[←hpv] at n2
 refine ⟨of_eq_true (ow_ByteS (80::numB ls 2)),.of n2 ?_⟩
 simp[mByteS]
 rw[u8I (n:=b.fParts.length) rfl]
 have hH:packH b=80::(numB ls 2++(numB pv 2++ [b8 b.fParts.length])):=by rw[packH,hls,hpv];rfl
 have hO:=ow_ByteS (80::(numB ls 2++numB pv 2))
 simp only[List.map_cons,List.map_append] at hO
 refine ⟨of_eq_true hO,by simp[numB_len], ?_⟩
 refine ew_loop (fun E=> ∃i:Nat,i≤b.fParts.length∧E= {nt:=74,sl:= [(2,.p (.bx 2 0)),(4,.v false [.r [34]]),(36,vPartS b.fParts),(37,int .i64 b.fParts.length),(38,int .i64 i)],bx:= [(2,[.n [.sc (.int .u8 0)]])],rt:=(mByteS (packH b++(b.fParts.take i).flatMap partB)).map fun y=>(34,y)}) (fun E=>b.fParts.length- (E.num 38).toNat) _ (Gh.kb _ [2,4,36,37,38] [2] [34]) ⟨0,by omega,by rw[hH];simp[mByteS]⟩ ?_
 rintro E1 ⟨i,hi,rfl⟩
 have hpl:=packA_len h i
 rw[List.length_append] at hpl
 have hstep:i<b.fParts.length→(b.fParts.take (i+1)).flatMap partB=(b.fParts.take i).flatMap partB++partB (b.fParts[i]?.getD dPart):=fun h=>by rw[tkR dPart h,List.flatMap_append];simp
 have hall:i=b.fParts.length→(b.fParts.take i).flatMap partB=b.fParts.flatMap partB:=fun h=>by rw[h,List.take_length]
 generalize (b.fParts.take i).flatMap partB=F at hpl hstep hall
 simp[mByteS]
 refine ⟨fun hil=>⟨hil, ?_⟩,fun hil=> ?_⟩
 ·have hp:=g6 _ (getD_mem dPart hil)
  have ht:=hstep hil
  generalize b.fParts[i]?.getD dPart=p at hp ht⊢
  obtain ⟨p1,⟨w1,w2⟩,⟨w3,w4⟩⟩:=part_b' hp
  have p4:=stBy_len p1
  have w5:=wordsB_len w1 fun s hs=>word_w (w2 s hs)
  have hpb:partB p=numB (stBy p.fStmt).length 2++(stBy p.fStmt++(txsB p.fCols++txsB p.fKeys)):=rfl
  have q1:=numB_len (stBy p.fStmt).length 2
  refine .of (stmtBytes_ok p.fStmt p1) ?_
  simp[mByteS]
  have n3:=putNum_ok (packH b++F) (stBy p.fStmt).length 2 (by omega) (by omega) (by omega) (by simp only[List.length_append];omega)
  simp only[List.map_append] at n3
  refine .of n3 ?_
  simp[mByteS]
  have hO1:=ow_ByteS (packH b++(F++numB (stBy p.fStmt).length 2))
  simp only[List.map_append] at hO1
  have hW1:=l09Put_ok (packH b++(F++(numB (stBy p.fStmt).length 2++stBy p.fStmt))) p.fCols (by simp only[List.length_append];omega) w1 w2
  have hW2:=l09Put_ok (packH b++(F++(numB (stBy p.fStmt).length 2++(stBy p.fStmt++txsB p.fCols)))) p.fKeys (by simp only[List.length_append];omega) w3 w4
  refine ⟨of_eq_true hO1,by omega,.use hW1 ?_⟩
  simp[mByteS]
  refine .use hW2 ?_
  simp[mByteS]
  have hw:=wrapS (n:=i) (by omega)
  push_cast at hw
  refine .of _ ((Gh.kb _ [2,4,36,37,38] [2] [63]).trans (Gh.rn _ 63 34)) ⟨i+1,by omega, ?_⟩ ?_
  ·simp[hw,mByteS,ht,hpb]
  ·simp[hw]
   omega
 ·have hi':i=b.fParts.length:=by omega
  have hA:packA b=packH b++F:=by rw[packA,hall hi']
  have hsm:=sumS_ok (packA b) (by rw[hA,List.length_append];omega)
  rw[hA] at hsm
  simp only[List.map_append] at hsm
  refine .of hsm ?_
  simp
  have hlt:=sumT_lt (packH b++F)
  have n4:=putNum_ok (packH b++F) (sumT (packH b++F)) 3 (by omega) (by omega) (by omega) (by simp only[List.length_append];omega)
  simp only[List.map_append] at n4
  have hO2:=ow_ByteS (packH b++(F++numB (sumT (packH b++F)) 3))
  simp only[List.map_append] at hO2
  refine .of n4 ?_
  simp[mByteS]
  refine ⟨of_eq_true hO2, ?_⟩
  rw[hE,packB,hA]
  simp
end Go.Proofs.YteeolohhmfjafaaGreat
