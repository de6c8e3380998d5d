import Derived.Test.YteeolohhmfjafaaGreatG5
import Derived.Test.YteeolohhmfjafaaGreatG4
set_option maxHeartbeats 8000000
set_option maxRecDepth 8000
namespace Go.Proofs.YteeolohhmfjafaaGreat
open Go Go.Proofs Go.Sm
attribute [local simp] ti
set_option linter.unusedVariables false
set_option linter.unusedSimpArgs false
theorem markText_ok (k':Int) (k:Nat) (hkk:k'=(k:Int)) (hk:k≤4611686018427387904):VC Tryz.prog 103 [int .i64 k'] [(false,[(.s,.sc (.string (mtext k)))])]:=by
 subst hkk
 refine vc_of_ew good hm [0,2,5,3,7] Tryz.func103 rfl (by kernel_rfl) (by kernel_rfl) rfl ?_
 simp[Tryz.f103]
 refine ⟨fun h=>by simp[mtext,h],fun h0=> ?_⟩
 refine ew_loop (fun E=> ∃ (j f:Nat) (out:ByteArray),j≤f∧out.size+j≤k∧dgo f j out=dgo k k ⟨#[]⟩∧E= {nt:=20,sl:= [(0,int .i64 j),(3,str out)],bx:= [],rt:= []}) (fun E=>(E.num 0).toNat) _ (Gh.kb _ [0,3] [] []) ⟨k,k,⟨#[]⟩,by omega,by simp[ByteArray.size],rfl,by simp⟩ ?_
 rintro E1 ⟨j,f,out,hjf,hsz,hd,rfl⟩
 have q1:(j:Int).tmod 10=((j%10:Nat):Int):=(Int.ofNat_tmod j 10).symm
 have q2:IntKind.i64.wrap (48+((j%10:Nat):Int))=((48+j%10:Nat):Int):=by rw[wrapI (by omega) (by omega)];omega
 have q3:(j:Int).tdiv 10=((j/10:Nat):Int):=(Int.ofNat_tdiv j 10).symm
 have q4:IntKind.i64.wrap ((j/10:Nat):Int)=((j/10:Nat):Int):=wrapI (by omega) (by omega)
 have q5:=wrapU8 (48+j%10)
 obtain ⟨b,hb⟩: ∃b:UInt8,b=UInt8.ofNat (48+j%10):=⟨_,rfl⟩
 rw[←hb] at q5
 simp only[Int.natCast_add,Int.natCast_emod,Int.natCast_ediv,Int.cast_ofNat_Int] at q1 q2 q3 q4 q5
 simp[q1,q2,q3,q4,q5,md]
 have hba: ∀s:ByteArray,(⟨#[b]⟩++s:ByteArray).size=1+s.size:=fun s=>by rw[ByteArray.size_append];rfl
 refine ⟨fun hj=> ?_,fun hj=> ?_⟩
 ·obtain ⟨f',rfl⟩: ∃f',f=f'+1:=⟨f-1,by omega⟩
  rw[dgo,if_neg (by omega),←hb] at hd
  refine ⟨by have h1:(⟨#[b]⟩:ByteArray).size=1:=rfl;omega,.of _ (Gh.kb _ [0,3] [] []) ⟨j/10,f',by omega,_, ?_,hd,by simp⟩ (by simp;omega)⟩
  rw[hba];omega
 ·subst hj
  have:dgo f 0 out=out:=by cases f<;>simp[dgo]
  rw[this] at hd
  subst hd
  exact ⟨by have h1:(⟨#[109]⟩:ByteArray).size=1:=rfl;omega,by simp[mtext,h0]⟩
def okInt (n:Int):Prop:=okI n
theorem fit_Int (ls:List Lf) (h:Fit ti ck 3 ls): ∃x:Int,ls=eInt x∧okInt x:=by
 obtain ⟨x,r,rfl,h1,h2⟩:=All2.cons_inv h
 obtain rfl:=All2.nil_inv h2
 obtain ⟨s,rfl,hs⟩:=h1.int_inv
 exact ⟨s,rfl,okI_wf hs⟩
def wStr (s:ByteArray):List Nat:= [s.size]
def okStr (s:ByteArray):Prop:=okM s.size
theorem okw_Str (x:ByteArray) (h:okStr x): ∀n∈wStr x,okM n:=by
 intro n hn
 rcases List.mem_singleton.1 hn with rfl
 exact h
theorem fit_Str (ls:List Lf) (h:Fit ti ck 9 ls): ∃x:ByteArray,ls=eStr x∧okStr x:=by
 obtain ⟨x,r,rfl,h1,h2⟩:=All2.cons_inv h
 obtain rfl:=All2.nil_inv h2
 obtain ⟨s,rfl,hs⟩:=h1.str_inv
 exact ⟨s,rfl,hs⟩
structure GVal where
 fTy:Int
 fN:Int
 fS:ByteArray
def eVal (x:GVal):List Lf:= [.sc (.int .i64 x.fTy),.sc (.int .i64 x.fN),.sc (.string x.fS)]
def vVal (x:GVal):SV:= .v true [.s (.sc (.int .i64 x.fTy)),.s (.sc (.int .i64 x.fN)),.s (.sc (.string x.fS))]
def dVal:GVal:=⟨0,0,⟨#[]⟩⟩
@[simp] theorem row_Val (l:List GVal) (i:Nat):(Option.map eVal l[i]?).getD [.sc (.int .i64 0),.sc (.int .i64 0),.sc (.string ⟨#[]⟩)]=eVal (l[i]?.getD dVal):=by cases l[i]? <;>rfl
def wVal (x:GVal):List Nat:=x.fS.size::([])
def okVal (x:GVal):Prop:=okI x.fTy∧okI x.fN∧okM x.fS.size∧True
theorem okw_Val (x:GVal) (h:okVal x): ∀n∈wVal x,okM n:=by
 obtain ⟨h0,h1,h2,_⟩:=h
 intro n hn
 simp only[wVal,List.mem_cons,List.mem_append,List.not_mem_nil,or_false,false_or] at hn
 rcases hn with rfl
 ·exact h2
theorem fit_Val (ls:List Lf) (h:Fit ti ck 311 ls): ∃x:GVal,ls=eVal x∧okVal x:=by
 obtain ⟨c0,r0,rfl,h0,g0⟩:=All2.cons_inv h
 obtain ⟨a0,rfl,b0⟩:=h0.int_inv
 obtain ⟨c1,r1,rfl,h1,g1⟩:=All2.cons_inv g0
 obtain ⟨a1,rfl,b1⟩:=h1.int_inv
 obtain ⟨c2,r2,rfl,h2,g2⟩:=All2.cons_inv g1
 obtain ⟨a2,rfl,b2⟩:=h2.str_inv
 obtain rfl:=All2.nil_inv g2
 exact ⟨⟨a0,a1,a2⟩,rfl,⟨okI_wf b0,okI_wf b1,b2,trivial⟩⟩
def mVal (x:GVal):ML:= [(.s,.sc (.int .i64 x.fTy)),(.s,.sc (.int .i64 x.fN)),(.s,.sc (.string x.fS))]
theorem szVal_ok (x:GVal) (left:Int) (h0:0≤left) (h1:left≤1048576) (hs: ∀n∈wVal x,okM n):VC Tryz.prog 277 [vVal x,int .i64 left] [(false,[(.s,.sc (.int .i64 (szL (wVal x) left)))])]:=by
 refine vc_of_ew good hm [0,1,2,4,11] Tryz.func277 rfl (by kernel_rfl) (by kernel_rfl) rfl ?_
 simp[Tryz.f277,vVal]
 have hb0:x.fS.size≤9223372036854775807:=hs _ (by simp[wVal])
 rw[wrapI (i:=left- (x.fS.size:Nat)) (by omega) (by omega)]
 by_cases hn:(left- (x.fS.size:Nat))<0
 ·have e:szL (wVal x) left= -1:=by rw[wVal,szL,if_pos hn]
  rw[e]
  try omega
 ·have e:szL (wVal x) left=(left- (x.fS.size:Nat)):=by rw[wVal,szL,if_neg hn];rfl
  rw[e]
  try omega
theorem toVal_ok (x:GVal) (hs: ∀n∈wVal x,n≤1048576):VC Tryz.prog 296 [vVal x] [(true,mVal x)]:=by
 refine vc_of_ew good hm [0,1,2,3] Tryz.func296 rfl (by kernel_rfl) (by kernel_rfl) rfl ?_
 simp[Tryz.f296,vVal,mVal]
theorem eqVal_ok (x:GVal) (hs: ∀n∈wVal x,n≤1048576):VC Tryz.prog 323 [vVal x,vVal x] [(false,[(.s,.sc (.bool true))])]:=by
 refine vc_of_ew good hm [0,1,2,3,4,9,14,19] Tryz.func323 rfl (by kernel_rfl) (by kernel_rfl) rfl ?_
 simp[Tryz.f323,vVal]
def eValS (l:List GVal):List Lf:= [.ls [.sc (.int .i64 0),.sc (.int .i64 0),.sc (.string ⟨#[]⟩)] (l.map eVal)]
def vValS (l:List GVal):SV:=list [.sc (.int .i64 0),.sc (.int .i64 0),.sc (.string ⟨#[]⟩)] (l.map eVal)
@[simp] theorem row_ValS (l:List (List GVal)) (i:Nat):(Option.map eValS l[i]?).getD [.ls [.sc (.int .i64 0),.sc (.int .i64 0),.sc (.string ⟨#[]⟩)] []]=eValS (l[i]?.getD []):=by cases l[i]? <;>rfl
def wValS (l:List GVal):List Nat:=l.length::l.flatMap wVal
def okValS (l:List GVal):Prop:=okM l.length∧ ∀a∈l,okVal a
theorem okw_ValS (l:List GVal) (h:okValS l): ∀n∈wValS l,okM n:=by
 intro n hn
 rcases List.mem_cons.1 hn with rfl|hn
 ·exact h.1
 ·obtain ⟨a,ha,hn⟩:=List.mem_flatMap.1 hn
  exact okw_Val a (h.2 a ha) n hn
def mValS (x:List GVal):ML:= [(.o 234 (fun _=> [.s,.s,.s]),.ls [.sc (.int .i64 0),.sc (.int .i64 0),.sc (.string ⟨#[]⟩)] (x.map eVal))]
@[simp] theorem ow_ValS (l:List GVal):Ow (.o 234 (fun _=> [.s,.s,.s])) (.ls [.sc (.int .i64 0),.sc (.int .i64 0),.sc (.string ⟨#[]⟩)] (l.map eVal))=True:=eq_true (Ow_rows (fun x j hj=>match j,hj with|0,_=> .sc|1,_=> .sc|2,_=> .sc|n+3,hj=>absurd hj (by simp)) l)
@[simp] theorem full_ValS (l:List GVal):Full (.o 234 (fun _=> [.s,.s,.s])) (.ls [.sc (.int .i64 0),.sc (.int .i64 0),.sc (.string ⟨#[]⟩)] (l.map eVal))=True:=eq_true (Full_rows (fun x j hj=>match j,hj with|0,_=> .s|1,_=> .s|2,_=> .s|n+3,hj=>absurd hj (by simp)) l)
theorem szValS_ok (x:List GVal) (left:Int) (h0:0≤left) (h1:left≤1048576) (hs: ∀n∈wValS x,okM n):VC Tryz.prog 176 [vValS x,int .i64 left] [(false,[(.s,.sc (.int .i64 (szL (wValS x) left)))])]:=by
 refine vc_of_ew good hm [0,1,4,11,5,15,25] Tryz.func176 rfl (by kernel_rfl) (by kernel_rfl) rfl ?_
 have hl:x.length≤9223372036854775807:=hs _ (by simp[wValS])
 simp[Tryz.f176,vValS]
 rw[wrapI (i:=left-x.length) (by omega) (by omega)]
 refine ⟨fun h=>by simp[wValS,szL,h],fun hk=> ?_⟩
 refine ew_loop (fun E=> ∃i:Nat,i≤x.length∧0≤szL ((x.take i).flatMap wVal) (left-x.length)∧E= {nt:=27,sl:= [(0,vValS x),(1,int .i64 (szL ((x.take i).flatMap wVal) (left-x.length))),(5,int .i64 i)],bx:= [],rt:= []}) (fun E=>x.length- (E.num 5).toNat) _ (Gh.keep _ [0,1,5]) ⟨0,by omega,by simp[szL];omega,by simp[szL,vValS]⟩ ?_
 rintro E1 ⟨i,hi,hr0,rfl⟩
 have hr1:=szL_le' (l:=(x.take i).flatMap wVal) (left:=left-x.length) (by omega)
 simp[vValS,eVal]
 refine ⟨fun h=> ?_,fun h=> ?_⟩
 ·obtain ⟨q1,q2⟩:=szF_step wVal (dVal) h (by omega:0≤left-x.length) hr0
  have hm: ∀n∈wVal (x[i]?.getD (dVal)),okM n:=fun n hn=>hs n (List.mem_cons_of_mem _ (mem_flat h hn))
  have hn1:=szL_neg (wVal (x[i]?.getD (dVal))) _ hr0
  refine ⟨h,.of (szVal_ok _ _ hr0 (by omega) hm) ?_⟩
  simp
  refine ⟨fun h2=> ?_,fun h2=> .of _ (Gh.keep _ [0,1,5]) ⟨i+1,by omega, ?_, ?_⟩ ?_⟩
  ·rw[wValS,szL,if_neg (by omega),q1 h2]
  ·rw[q2];exact h2
  ·rw[q2];simp[wrapS (show i<9223372036854775807 by omega)]
  ·simp[wrapS (show i<9223372036854775807 by omega)];omega
 ·rw[wValS,szL,if_neg (by omega),List.take_of_length_le (by simpa using h)]
theorem toValS_ok (x:List GVal) (hs: ∀n∈wValS x,n≤1048576):VC Tryz.prog 189 [vValS x] [(false,mValS x)]:=by
 refine vc_of_ew good hm [0,2,3,4,11] Tryz.func189 rfl (by kernel_rfl) (by kernel_rfl) rfl ?_
 have hl:x.length≤1048576:=hs _ (by simp[wValS])
 simp[Tryz.f189,vValS,mValS]
 refine ⟨by omega, ?_⟩
 refine ew_loop (fun E=> ∃i:Nat,i≤x.length∧E= {nt:=23,sl:= [(0,vValS x),(3,.v false [.r [7]]),(4,int .i64 i)],bx:= [],rt:= [(7,.o 234 (fun _=> [.s,.s,.s]),.ls [.sc (.int .i64 0),.sc (.int .i64 0),.sc (.string ⟨#[]⟩)] (fillR [.sc (.int .i64 0),.sc (.int .i64 0),.sc (.string ⟨#[]⟩)] (x.map eVal) i))]}) (fun E=>x.length- (E.num 4).toNat) _ (Gh.keep _ [0,3,4]) ⟨0,by omega,by simp[vValS,fillR]⟩ ?_
 rintro E1 ⟨i,hi,rfl⟩
 have hfl:(fillR [.sc (.int .i64 0),.sc (.int .i64 0),.sc (.string ⟨#[]⟩)] (x.map eVal) i).length=x.length:=by rw[fillR_len _ _ (by simpa using hi)];simp
 simp[vValS,eVal] at hfl⊢
 try simp[hfl]
 refine ⟨fun h=>⟨h,.of (toVal_ok (x[i]?.getD dVal) (fun n hn=>hs n (List.mem_cons_of_mem _ (mem_flat (wt:=wVal) h hn)))) ?_⟩,fun h=>fillR_all _ _ (by simpa using h)⟩
 simp[mVal]
 try simp[hfl,h]
 refine .of _ (Gh.keep _ [0,3,4]) ⟨i+1,by omega, ?_⟩ ?_
 ·have:=fillR_set [.sc (.int .i64 0),.sc (.int .i64 0),.sc (.string ⟨#[]⟩)] (x.map eVal) (i:=i) (by simpa using h)
  simp[wrapS (show i<9223372036854775807 by omega),vValS,eVal,h] at this⊢
  rw[←this]
 ·simp[wrapS (show i<9223372036854775807 by omega)];omega
theorem eqValS_ok (x:List GVal) (hs: ∀n∈wValS x,n≤1048576):VC Tryz.prog 209 [vValS x,vValS x] [(false,[(.s,.sc (.bool true))])]:=by
 refine vc_of_ew good hm [0,1,4,10,5,14,26] Tryz.func209 rfl (by kernel_rfl) (by kernel_rfl) rfl ?_
 have hl:x.length≤1048576:=hs _ (by simp[wValS])
 simp[Tryz.f209,vValS]
 refine ew_loop (fun E=> ∃i:Nat,i≤x.length∧E= {nt:=27,sl:= [(0,vValS x),(1,vValS x),(5,int .i64 i)],bx:= [],rt:= []}) (fun E=>x.length- (E.num 5).toNat) _ (Gh.keep _ [0,1,5]) ⟨0,by omega,by simp[vValS]⟩ ?_
 rintro E1 ⟨i,hi,rfl⟩
 simp[vValS,eVal]
 intro h
 refine ⟨h,.of (eqVal_ok (x[i]?.getD dVal) (fun n hn=>hs n (List.mem_cons_of_mem _ (mem_flat (wt:=wVal) h hn)))) ?_⟩
 simp
 refine .of _ (Gh.keep _ [0,1,5]) ⟨i+1,by omega, ?_⟩ ?_
 ·simp[wrapS (show i<9223372036854775807 by omega),vValS]
 ·simp[wrapS (show i<9223372036854775807 by omega)];omega
def ctVal (x:GVal):Nat:=3
def mkVal (k:Nat) (x:GVal):GVal:=⟨mkInt (k) x.fTy,mkInt (k+1) x.fN,mkStr (k+2) x.fS⟩
theorem ctle_Val (x:GVal):ctVal x≤64+64* (wVal x).sum:=by
 simp only[ctVal,wVal,List.sum_cons,List.sum_append,List.sum_nil]
 omega
def ctValS (l:List GVal):Nat:=ctRw ctVal l
def mkValS (k:Nat) (l:List GVal):List GVal:=mkRw mkVal ctVal k l
theorem ctle_ValS (l:List GVal):ctValS l≤64* (wValS l).sum:=by
 have:=ctRw_le64 ctVal wVal l (fun x _=>ctle_Val x)
 simp only[wValS,List.sum_cons]
 exact this
theorem markValS_ok (x:List GVal) (k:Nat) (k':Int) (hkk':k'=(k:Int)) (hk:k+ctValS x≤4611686018427387904) (hs: ∀n∈wValS x,n≤4611686018427387904):VM Tryz.prog 104 [.v false [.r [900]],int .i64 k'] [(.o 234 (fun _=> [.s,.s,.s]),.ls [.sc (.int .i64 0),.sc (.int .i64 0),.sc (.string ⟨#[]⟩)] (x.map eVal),.ls [.sc (.int .i64 0),.sc (.int .i64 0),.sc (.string ⟨#[]⟩)] ((mkValS k x).map eVal))] (some ((k:Int)+(ctValS x:Int))):=by
 subst hkk'
 have hl:x.length≤4611686018427387904:=hs _ (by simp[wValS])
 refine vm_of_ew good hm [0,1,4,5,9,5000] Tryz.func104 rfl (by kernel_rfl) (by kernel_rfl) rfl fun pv=> ?_
 simp[Tryz.f104]
 refine ew_loop (fun E=> ∃ (i K:Nat) (M:List (GVal)),i≤x.length∧K=k+ctRw ctVal (x.take i)∧M=mixR mkVal ctVal k x i∧E= {nt:=35,sl:= [(0,.v false [.r [900]]),(1,int .i64 (K:Int)),(5,int .i64 i),(5000,.pin 900 [] (pv 900))],bx:= [],rt:= [(900,.o 234 (fun _=> [.s,.s,.s]),.ls [.sc (.int .i64 0),.sc (.int .i64 0),.sc (.string ⟨#[]⟩)] (M.map eVal))]}) (fun E=>x.length- (E.num 5).toNat) _ (Gh.kb _ [0,1,5,5000] [] [900]) ⟨0,k,x,by omega,by simp[ctRw],by simp[mixR_zero],by simp⟩ ?_
 rintro E1 ⟨i,K,M,hi,hK,hM,rfl⟩
 have hfl:M.length=x.length:=by rw[hM];exact mixR_len mkVal ctVal k x i
 have hct:=ctRw_le ctVal x i
 simp only[ctValS] at hk
 simp[hfl]
 refine ⟨fun h=> ?_,fun h=> ?_⟩
 ·have hg:M[i]? =x[i]? :=by rw[hM];exact mixR_get mkVal ctVal k x i h
  have hst:=mixR_set mkVal ctVal k x i (dVal) h
  have hc1:=ctRw_lt ctVal (dVal) h
  have hs1:ctRw ctVal (x.take (i+1))=ctRw ctVal (x.take i)+ctVal (x[i]?.getD (dVal)):=ctRw_succ ctVal (dVal) h
  have hxi:x[i]? =some (x[i]?.getD (dVal)):=by rw[List.getElem?_eq_getElem h];rfl
  have hy:(x[i]?.getD (dVal))∈x:=getD_mem _ h
  rw[hxi] at hg
  rw[←hK,←hM] at hst
  generalize (x[i]?.getD (dVal))=y at*
  have hg': ∀h',M[i]'h'=y:=fun h'=>by simpa [List.getElem?_eq_getElem h'] using hg
  have hse: ∀n∈wVal y,n≤4611686018427387904:=fun n hn=>hs n (List.mem_cons_of_mem _ (List.mem_flatMap.2 ⟨y,hy,hn⟩))
  simp only[ctVal] at hc1 hs1
  have w0:IntKind.i64.wrap ((K:Int)+1)=(K:Int)+1:=(wrapI (by omega) (by omega)).trans (by omega)
  have w1:IntKind.i64.wrap ((K:Int)+1+1)=(K:Int)+2:=(wrapI (by omega) (by omega)).trans (by omega)
  simp[md,lf,hg',hg,h,hfl,eVal,w0,w1]
  refine .of (markText_ok _ (K+2) (by omega) (by omega)) ?_
  have w2:IntKind.i64.wrap ((K:Int)+2+1)=(K:Int)+3:=(wrapI (by omega) (by omega)).trans (by omega)
  simp[md,lf,hg',hg,h,hfl,eVal,w0,w1,w2]
  have e1:(k:Int)+(ctRw ctVal (x.take (i+1)):Int)=(K:Int)+3:=by omega
  refine .of _ (Gh.kb _ [0,1,5,5000] [] [900]) ⟨i+1,by omega, ?_⟩ ?_
  ·simp[wrapS (show i<9223372036854775807 by omega),e1,←hst,List.map_set,mkVal,mkInt,mkStr,eVal,wrapU8]
  ·simp[wrapS (show i<9223372036854775807 by omega)];omega
 ·have:i=x.length:=by omega
  subst this
  subst hM
  subst hK
  simp[mixR_all,ctValS,mkValS]
theorem heldValS_ok (x:List GVal) (k:Nat) (k':Int) (hkk':k'=(k:Int)) (hk:k+ctValS x≤4611686018427387904) (hs: ∀n∈wValS x,n≤4611686018427387904):VC Tryz.prog 107 [vValS (mkValS k x),int .i64 k'] [(false,[(.s,.sc (.int .i64 ((k:Int)+(ctValS x:Int))))])]:=by
 subst hkk'
 have hl:x.length≤4611686018427387904:=hs _ (by simp[wValS])
 refine vc_of_ew good hm [0,1,4,5,9,18,27,37] Tryz.func107 rfl (by kernel_rfl) (by kernel_rfl) rfl ?_
 simp[Tryz.f107,vValS]
 refine ew_loop (fun E=> ∃ (i K:Nat),i≤x.length∧K=k+ctRw ctVal (x.take i)∧E= {nt:=41,sl:= [(0,vValS (mkValS k x)),(1,int .i64 (K:Int)),(5,int .i64 i)],bx:= [],rt:= []}) (fun E=>x.length- (E.num 5).toNat) _ (Gh.kb _ [0,1,5] [] []) ⟨0,k,by omega,by simp[ctRw],by simp[vValS]⟩ ?_
 rintro E1 ⟨i,K,hi,hK,rfl⟩
 have hfl:(mkValS k x).length=x.length:=mkRw_len mkVal ctVal k x
 have hct:=ctRw_le ctVal x i
 simp only[ctValS] at hk
 simp[vValS,hfl]
 refine ⟨fun h=> ?_,fun h=> ?_⟩
 ·have hg:(mkValS k x)[i]? =some (mkVal (k+ctRw ctVal (x.take i)) (x[i]?.getD (dVal))):=mkRw_get mkVal ctVal (dVal) k x i h
  have hc1:=ctRw_lt ctVal (dVal) h
  have hs1:ctRw ctVal (x.take (i+1))=ctRw ctVal (x.take i)+ctVal (x[i]?.getD (dVal)):=ctRw_succ ctVal (dVal) h
  have hy:(x[i]?.getD (dVal))∈x:=getD_mem _ h
  rw[←hK] at hg
  generalize (x[i]?.getD (dVal))=y at*
  have hg2: ∀hh:i< (mkValS k x).length,(mkValS k x)[i]=mkVal K y:=fun hh=>(List.getElem_eq_iff hh).2 hg
  have hse: ∀n∈wVal y,n≤4611686018427387904:=fun n hn=>hs n (List.mem_cons_of_mem _ (List.mem_flatMap.2 ⟨y,hy,hn⟩))
  simp only[ctVal] at hc1 hs1
  have w0:IntKind.i64.wrap ((K:Int)+1)=(K:Int)+1:=(wrapI (by omega) (by omega)).trans (by omega)
  have w1:IntKind.i64.wrap ((K:Int)+1+1)=(K:Int)+2:=(wrapI (by omega) (by omega)).trans (by omega)
  simp[md,lf,hg,hg2,h,hfl,eVal,mkVal,mkInt,mkStr,wrapU8,w0,w1]
  refine .of (markText_ok _ (K+2) (by omega) (by omega)) ?_
  have w2:IntKind.i64.wrap ((K:Int)+2+1)=(K:Int)+3:=(wrapI (by omega) (by omega)).trans (by omega)
  simp[md,lf,hg,hg2,h,hfl,eVal,mkVal,mkInt,mkStr,wrapU8,w0,w1,w2]
  have e1:(k:Int)+(ctRw ctVal (x.take (i+1)):Int)=(K:Int)+3:=by omega
  refine .of _ (Gh.kb _ [0,1,5] [] []) ⟨i+1,by omega, ?_⟩ ?_
  ·simp[wrapS (show i<9223372036854775807 by omega),e1,vValS]
  ·simp[wrapS (show i<9223372036854775807 by omega)];omega
 ·have:i=x.length:=by omega
  subst this
  subst hK
  simp[ctValS]
structure GRow where
 fVals:List GVal
def eRow (x:GRow):List Lf:= [.ls [.sc (.int .i64 0),.sc (.int .i64 0),.sc (.string ⟨#[]⟩)] (x.fVals.map eVal)]
def cRow (x:GRow):List LV:= [.s (.ls [.sc (.int .i64 0),.sc (.int .i64 0),.sc (.string ⟨#[]⟩)] (x.fVals.map eVal))]
def vRow (x:GRow):SV:= .v true [.s (.ls [.sc (.int .i64 0),.sc (.int .i64 0),.sc (.string ⟨#[]⟩)] (x.fVals.map eVal))]
def dRow:GRow:=⟨[]⟩
@[simp] theorem row_Row (l:List GRow) (i:Nat):(Option.map eRow l[i]?).getD [.ls [.sc (.int .i64 0),.sc (.int .i64 0),.sc (.string ⟨#[]⟩)] []]=eRow (l[i]?.getD dRow):=by cases l[i]? <;>rfl
def wRow (x:GRow):List Nat:=wValS x.fVals++([])
def okRow (x:GRow):Prop:=okValS x.fVals∧True
theorem okw_Row (x:GRow) (h:okRow x): ∀n∈wRow x,okM n:=by
 obtain ⟨h0,_⟩:=h
 intro n hn
 simp only[wRow,List.mem_cons,List.mem_append,List.not_mem_nil,or_false,false_or] at hn
 rcases hn with hn
 ·exact okw_ValS _ h0 n hn
theorem fit_Row (ls:List Lf) (h:Fit ti ck 141 ls): ∃x:GRow,ls=eRow x∧okRow x:=by
 obtain ⟨c0,r0,rfl,h0,g0⟩:=All2.cons_inv h
 obtain ⟨a0,rfl,b0,b0'⟩:=h0.list eVal okVal fit_Val
 obtain rfl:=All2.nil_inv g0
 exact ⟨⟨a0⟩,rfl,⟨⟨b0,b0'⟩,trivial⟩⟩
def mRow (x:GRow):ML:= [(.o 234 (fun _=> [.s,.s,.s]),.ls [.sc (.int .i64 0),.sc (.int .i64 0),.sc (.string ⟨#[]⟩)] (x.fVals.map eVal))]
theorem szRow_ok (x:GRow) (left:Int) (h0:0≤left) (h1:left≤1048576) (hs: ∀n∈wRow x,okM n):VC Tryz.prog 177 [vRow x,int .i64 left] [(false,[(.s,.sc (.int .i64 (szL (wRow x) left)))])]:=by
 refine vc_of_ew good hm [0,1,2,4,10] Tryz.func177 rfl (by kernel_rfl) (by kernel_rfl) rfl ?_
 simp[Tryz.f177,vRow]
 refine .of (szValS_ok x.fVals left (by omega) (by omega) (fun n hn=>hs n (by simp[wRow,hn]))) ?_
 simp
 have hb0:=szL_le' (l:=wValS x.fVals) (left:=left) (by omega)
 have hc0:=szL_neg (wValS x.fVals) left (by omega)
 by_cases hn:(szL (wValS x.fVals) left)<0
 ·have e:szL (wRow x) left= -1:=by rw[wRow,szL_app _ _ _ h0,if_pos hn]
  rw[e]
  try omega
 ·have e:szL (wRow x) left=(szL (wValS x.fVals) left):=by rw[wRow,szL_app _ _ _ h0,if_neg hn];rfl
  rw[e]
  try omega
theorem toRow_ok (x:GRow) (hs: ∀n∈wRow x,n≤1048576):VC Tryz.prog 190 [vRow x] [(true,mRow x)]:=by
 refine vc_of_ew good hm [0,1,2,3] Tryz.func190 rfl (by kernel_rfl) (by kernel_rfl) rfl ?_
 simp[Tryz.f190,vRow,mRow]
 refine .of (toValS_ok x.fVals (fun n hn=>hs n (by simp[wRow,hn]))) ?_
 simp[mValS]
theorem eqRow_ok (x:GRow) (hs: ∀n∈wRow x,n≤1048576):VC Tryz.prog 210 [vRow x,vRow x] [(false,[(.s,.sc (.bool true))])]:=by
 refine vc_of_ew good hm [0,1,2,3,4,10] Tryz.func210 rfl (by kernel_rfl) (by kernel_rfl) rfl ?_
 simp[Tryz.f210,vRow]
 refine .of (eqValS_ok x.fVals (fun n hn=>hs n (by simp[wRow,hn]))) ?_
 simp
def cvRow (x:GRow):Nat:=ctValS x.fVals
def mvRow (k:Nat) (x:GRow):GRow:= {x with fVals:=mkValS (k) x.fVals}
structure GCol where
 fName:ByteArray
 fTy:Int
 fNot:Bool
 fHas:Bool
 fDef:GVal
def eCol (x:GCol):List Lf:= [.sc (.string x.fName),.sc (.int .i64 x.fTy),.sc (.bool x.fNot),.sc (.bool x.fHas),.sc (.int .i64 x.fDef.fTy),.sc (.int .i64 x.fDef.fN),.sc (.string x.fDef.fS)]
def vCol (x:GCol):SV:= .v true [.s (.sc (.string x.fName)),.s (.sc (.int .i64 x.fTy)),.s (.sc (.bool x.fNot)),.s (.sc (.bool x.fHas)),.s (.sc (.int .i64 x.fDef.fTy)),.s (.sc (.int .i64 x.fDef.fN)),.s (.sc (.string x.fDef.fS))]
def dCol:GCol:=⟨⟨#[]⟩,0,false,false,⟨0,0,⟨#[]⟩⟩⟩
@[simp] theorem row_Col (l:List GCol) (i:Nat):(Option.map eCol l[i]?).getD [.sc (.string ⟨#[]⟩),.sc (.int .i64 0),.sc (.bool false),.sc (.bool false),.sc (.int .i64 0),.sc (.int .i64 0),.sc (.string ⟨#[]⟩)]=eCol (l[i]?.getD dCol):=by cases l[i]? <;>rfl
def wCol (x:GCol):List Nat:=x.fName.size::(wVal x.fDef++([]))
def okCol (x:GCol):Prop:=okM x.fName.size∧okI x.fTy∧okVal x.fDef∧True
theorem okw_Col (x:GCol) (h:okCol x): ∀n∈wCol x,okM n:=by
 obtain ⟨h0,h1,h4,_⟩:=h
 intro n hn
 simp only[wCol,List.mem_cons,List.mem_append,List.not_mem_nil,or_false,false_or] at hn
 rcases hn with rfl|hn
 ·exact h0
 ·exact okw_Val _ h4 n hn
theorem fit_Col (ls:List Lf) (h:Fit ti ck 367 ls): ∃x:GCol,ls=eCol x∧okCol x:=by
 obtain ⟨c0,r0,rfl,h0,g0⟩:=All2.cons_inv h
 obtain ⟨a0,rfl,b0⟩:=h0.str_inv
 obtain ⟨c1,r1,rfl,h1,g1⟩:=All2.cons_inv g0
 obtain ⟨a1,rfl,b1⟩:=h1.int_inv
 obtain ⟨c2,r2,rfl,h2,g2⟩:=All2.cons_inv g1
 obtain ⟨a2,rfl⟩:=h2.bool_inv
 obtain ⟨c3,r3,rfl,h3,g3⟩:=All2.cons_inv g2
 obtain ⟨a3,rfl⟩:=h3.bool_inv
 obtain ⟨c4,r4,rfl,h4,g4⟩:=All2.cons_inv g3
 obtain ⟨a4,rfl,b4⟩:=h4.int_inv
 obtain ⟨c5,r5,rfl,h5,g5⟩:=All2.cons_inv g4
 obtain ⟨a5,rfl,b5⟩:=h5.int_inv
 obtain ⟨c6,r6,rfl,h6,g6⟩:=All2.cons_inv g5
 obtain ⟨a6,rfl,b6⟩:=h6.str_inv
 obtain rfl:=All2.nil_inv g6
 exact ⟨⟨a0,a1,a2,a3,⟨a4,a5,a6⟩⟩,rfl,⟨b0,okI_wf b1,⟨okI_wf b4,okI_wf b5,b6,trivial⟩,trivial⟩⟩
def mCol (x:GCol):ML:= [(.s,.sc (.string x.fName)),(.s,.sc (.int .i64 x.fTy)),(.s,.sc (.bool x.fNot)),(.s,.sc (.bool x.fHas)),(.s,.sc (.int .i64 x.fDef.fTy)),(.s,.sc (.int .i64 x.fDef.fN)),(.s,.sc (.string x.fDef.fS))]
theorem szCol_ok (x:GCol) (left:Int) (h0:0≤left) (h1:left≤1048576) (hs: ∀n∈wCol x,okM n):VC Tryz.prog 374 [vCol x,int .i64 left] [(false,[(.s,.sc (.int .i64 (szL (wCol x) left)))])]:=by
 refine vc_of_ew good hm [0,1,2,4,11,17] Tryz.func374 rfl (by kernel_rfl) (by kernel_rfl) rfl ?_
 simp[Tryz.f374,vCol]
 have hb0:x.fName.size≤9223372036854775807:=hs _ (by simp[wCol])
 rw[wrapI (i:=left- (x.fName.size:Nat)) (by omega) (by omega)]
 refine ⟨fun hn=> ?_,fun hk0=> ?_⟩
 ·have e:szL (wCol x) left= -1:=by rw[wCol,szL,if_pos (by omega)]
  rw[e]
  try omega
 have hq0: ¬(left- (x.fName.size:Nat))<0:=by omega
 have hz0:0≤(left- (x.fName.size:Nat)):=by omega
 refine .of (szVal_ok x.fDef (left- (x.fName.size:Nat)) (by omega) (by omega) (fun n hn=>hs n (by simp[wCol,hn]))) ?_
 simp
 have hb1:=szL_le' (l:=wVal x.fDef) (left:=(left- (x.fName.size:Nat))) (by omega)
 have hc1:=szL_neg (wVal x.fDef) (left- (x.fName.size:Nat)) (by omega)
 by_cases hn:(szL (wVal x.fDef) (left- (x.fName.size:Nat)))<0
 ·have e:szL (wCol x) left= -1:=by rw[wCol,szL,if_neg hq0,szL_app _ _ _ hz0,if_pos hn]
  rw[e]
  try omega
 ·have e:szL (wCol x) left=(szL (wVal x.fDef) (left- (x.fName.size:Nat))):=by rw[wCol,szL,if_neg hq0,szL_app _ _ _ hz0,if_neg hn];rfl
  rw[e]
  try omega
theorem toCol_ok (x:GCol) (hs: ∀n∈wCol x,n≤1048576):VC Tryz.prog 384 [vCol x] [(true,mCol x)]:=by
 refine vc_of_ew good hm [0,1,2,3] Tryz.func384 rfl (by kernel_rfl) (by kernel_rfl) rfl ?_
 simp[Tryz.f384,vCol,mCol]
 refine .of (toVal_ok x.fDef (fun n hn=>hs n (by simp[wCol,hn]))) ?_
 simp[mVal]
theorem eqCol_ok (x:GCol) (hs: ∀n∈wCol x,n≤1048576):VC Tryz.prog 399 [vCol x,vCol x] [(false,[(.s,.sc (.bool true))])]:=by
 refine vc_of_ew good hm [0,1,2,3,4,9,14,19,24,30] Tryz.func399 rfl (by kernel_rfl) (by kernel_rfl) rfl ?_
 simp[Tryz.f399,vCol]
 refine .of (eqVal_ok x.fDef (fun n hn=>hs n (by simp[wCol,hn]))) ?_
 simp
def vColS (l:List GCol):SV:=list [.sc (.string ⟨#[]⟩),.sc (.int .i64 0),.sc (.bool false),.sc (.bool false),.sc (.int .i64 0),.sc (.int .i64 0),.sc (.string ⟨#[]⟩)] (l.map eCol)
def wColS (l:List GCol):List Nat:=l.length::l.flatMap wCol
def okColS (l:List GCol):Prop:=okM l.length∧ ∀a∈l,okCol a
theorem okw_ColS (l:List GCol) (h:okColS l): ∀n∈wColS l,okM n:=by
 intro n hn
 rcases List.mem_cons.1 hn with rfl|hn
 ·exact h.1
 ·obtain ⟨a,ha,hn⟩:=List.mem_flatMap.1 hn
  exact okw_Col a (h.2 a ha) n hn
def mColS (x:List GCol):ML:= [(.o 236 (fun _=> [.s,.s,.s,.s,.s,.s,.s]),.ls [.sc (.string ⟨#[]⟩),.sc (.int .i64 0),.sc (.bool false),.sc (.bool false),.sc (.int .i64 0),.sc (.int .i64 0),.sc (.string ⟨#[]⟩)] (x.map eCol))]
@[simp] theorem ow_ColS (l:List GCol):Ow (.o 236 (fun _=> [.s,.s,.s,.s,.s,.s,.s])) (.ls [.sc (.string ⟨#[]⟩),.sc (.int .i64 0),.sc (.bool false),.sc (.bool false),.sc (.int .i64 0),.sc (.int .i64 0),.sc (.string ⟨#[]⟩)] (l.map eCol))=True:=eq_true (Ow_rows (fun x j hj=>match j,hj with|0,_=> .sc|1,_=> .sc|2,_=> .sc|3,_=> .sc|4,_=> .sc|5,_=> .sc|6,_=> .sc|n+7,hj=>absurd hj (by simp)) l)
@[simp] theorem full_ColS (l:List GCol):Full (.o 236 (fun _=> [.s,.s,.s,.s,.s,.s,.s])) (.ls [.sc (.string ⟨#[]⟩),.sc (.int .i64 0),.sc (.bool false),.sc (.bool false),.sc (.int .i64 0),.sc (.int .i64 0),.sc (.string ⟨#[]⟩)] (l.map eCol))=True:=eq_true (Full_rows (fun x j hj=>match j,hj with|0,_=> .s|1,_=> .s|2,_=> .s|3,_=> .s|4,_=> .s|5,_=> .s|6,_=> .s|n+7,hj=>absurd hj (by simp)) l)
theorem szColS_ok (x:List GCol) (left:Int) (h0:0≤left) (h1:left≤1048576) (hs: ∀n∈wColS x,okM n):VC Tryz.prog 278 [vColS x,int .i64 left] [(false,[(.s,.sc (.int .i64 (szL (wColS x) left)))])]:=by
 refine vc_of_ew good hm [0,1,4,11,5,15,25] Tryz.func278 rfl (by kernel_rfl) (by kernel_rfl) rfl ?_
 have hl:x.length≤9223372036854775807:=hs _ (by simp[wColS])
 simp[Tryz.f278,vColS]
 rw[wrapI (i:=left-x.length) (by omega) (by omega)]
 refine ⟨fun h=>by simp[wColS,szL,h],fun hk=> ?_⟩
 refine ew_loop (fun E=> ∃i:Nat,i≤x.length∧0≤szL ((x.take i).flatMap wCol) (left-x.length)∧E= {nt:=27,sl:= [(0,vColS x),(1,int .i64 (szL ((x.take i).flatMap wCol) (left-x.length))),(5,int .i64 i)],bx:= [],rt:= []}) (fun E=>x.length- (E.num 5).toNat) _ (Gh.keep _ [0,1,5]) ⟨0,by omega,by simp[szL];omega,by simp[szL,vColS]⟩ ?_
 rintro E1 ⟨i,hi,hr0,rfl⟩
 have hr1:=szL_le' (l:=(x.take i).flatMap wCol) (left:=left-x.length) (by omega)
 simp[vColS,eCol]
 refine ⟨fun h=> ?_,fun h=> ?_⟩
 ·obtain ⟨q1,q2⟩:=szF_step wCol (dCol) h (by omega:0≤left-x.length) hr0
  have hm: ∀n∈wCol (x[i]?.getD (dCol)),okM n:=fun n hn=>hs n (List.mem_cons_of_mem _ (mem_flat h hn))
  have hn1:=szL_neg (wCol (x[i]?.getD (dCol))) _ hr0
  refine ⟨h,.of (szCol_ok _ _ hr0 (by omega) hm) ?_⟩
  simp
  refine ⟨fun h2=> ?_,fun h2=> .of _ (Gh.keep _ [0,1,5]) ⟨i+1,by omega, ?_, ?_⟩ ?_⟩
  ·rw[wColS,szL,if_neg (by omega),q1 h2]
  ·rw[q2];exact h2
  ·rw[q2];simp[wrapS (show i<9223372036854775807 by omega)]
  ·simp[wrapS (show i<9223372036854775807 by omega)];omega
 ·rw[wColS,szL,if_neg (by omega),List.take_of_length_le (by simpa using h)]
theorem toColS_ok (x:List GCol) (hs: ∀n∈wColS x,n≤1048576):VC Tryz.prog 297 [vColS x] [(false,mColS x)]:=by
 refine vc_of_ew good hm [0,2,3,4,11] Tryz.func297 rfl (by kernel_rfl) (by kernel_rfl) rfl ?_
 have hl:x.length≤1048576:=hs _ (by simp[wColS])
 simp[Tryz.f297,vColS,mColS]
 refine ⟨by omega, ?_⟩
 refine ew_loop (fun E=> ∃i:Nat,i≤x.length∧E= {nt:=23,sl:= [(0,vColS x),(3,.v false [.r [7]]),(4,int .i64 i)],bx:= [],rt:= [(7,.o 236 (fun _=> [.s,.s,.s,.s,.s,.s,.s]),.ls [.sc (.string ⟨#[]⟩),.sc (.int .i64 0),.sc (.bool false),.sc (.bool false),.sc (.int .i64 0),.sc (.int .i64 0),.sc (.string ⟨#[]⟩)] (fillR [.sc (.string ⟨#[]⟩),.sc (.int .i64 0),.sc (.bool false),.sc (.bool false),.sc (.int .i64 0),.sc (.int .i64 0),.sc (.string ⟨#[]⟩)] (x.map eCol) i))]}) (fun E=>x.length- (E.num 4).toNat) _ (Gh.keep _ [0,3,4]) ⟨0,by omega,by simp[vColS,fillR]⟩ ?_
 rintro E1 ⟨i,hi,rfl⟩
 have hfl:(fillR [.sc (.string ⟨#[]⟩),.sc (.int .i64 0),.sc (.bool false),.sc (.bool false),.sc (.int .i64 0),.sc (.int .i64 0),.sc (.string ⟨#[]⟩)] (x.map eCol) i).length=x.length:=by rw[fillR_len _ _ (by simpa using hi)];simp
 simp[vColS,eCol] at hfl⊢
 try simp[hfl]
 refine ⟨fun h=>⟨h,.of (toCol_ok (x[i]?.getD dCol) (fun n hn=>hs n (List.mem_cons_of_mem _ (mem_flat (wt:=wCol) h hn)))) ?_⟩,fun h=>fillR_all _ _ (by simpa using h)⟩
 simp[mCol]
 try simp[hfl,h]
 refine .of _ (Gh.keep _ [0,3,4]) ⟨i+1,by omega, ?_⟩ ?_
 ·have:=fillR_set [.sc (.string ⟨#[]⟩),.sc (.int .i64 0),.sc (.bool false),.sc (.bool false),.sc (.int .i64 0),.sc (.int .i64 0),.sc (.string ⟨#[]⟩)] (x.map eCol) (i:=i) (by simpa using h)
  simp[wrapS (show i<9223372036854775807 by omega),vColS,eCol,h] at this⊢
  rw[←this]
 ·simp[wrapS (show i<9223372036854775807 by omega)];omega
theorem eqColS_ok (x:List GCol) (hs: ∀n∈wColS x,n≤1048576):VC Tryz.prog 324 [vColS x,vColS x] [(false,[(.s,.sc (.bool true))])]:=by
 refine vc_of_ew good hm [0,1,4,10,5,14,26] Tryz.func324 rfl (by kernel_rfl) (by kernel_rfl) rfl ?_
 have hl:x.length≤1048576:=hs _ (by simp[wColS])
 simp[Tryz.f324,vColS]
 refine ew_loop (fun E=> ∃i:Nat,i≤x.length∧E= {nt:=27,sl:= [(0,vColS x),(1,vColS x),(5,int .i64 i)],bx:= [],rt:= []}) (fun E=>x.length- (E.num 5).toNat) _ (Gh.keep _ [0,1,5]) ⟨0,by omega,by simp[vColS]⟩ ?_
 rintro E1 ⟨i,hi,rfl⟩
 simp[vColS,eCol]
 intro h
 refine ⟨h,.of (eqCol_ok (x[i]?.getD dCol) (fun n hn=>hs n (List.mem_cons_of_mem _ (mem_flat (wt:=wCol) h hn)))) ?_⟩
 simp
 refine .of _ (Gh.keep _ [0,1,5]) ⟨i+1,by omega, ?_⟩ ?_
 ·simp[wrapS (show i<9223372036854775807 by omega),vColS]
 ·simp[wrapS (show i<9223372036854775807 by omega)];omega
def ctCol (x:GCol):Nat:=7
def mkCol (k:Nat) (x:GCol):GCol:=⟨mkStr (k) x.fName,mkInt (k+1) x.fTy,mkBool (k+2) x.fNot,mkBool (k+3) x.fHas,⟨mkInt (k+4) x.fDef.fTy,mkInt (k+5) x.fDef.fN,mkStr (k+6) x.fDef.fS⟩⟩
theorem ctle_Col (x:GCol):ctCol x≤64+64* (wCol x).sum:=by
 simp only[ctCol,wCol,wVal,List.sum_cons,List.sum_append,List.sum_nil]
 omega
def ctColS (l:List GCol):Nat:=ctRw ctCol l
def mkColS (k:Nat) (l:List GCol):List GCol:=mkRw mkCol ctCol k l
theorem ctle_ColS (l:List GCol):ctColS l≤64* (wColS l).sum:=by
 have:=ctRw_le64 ctCol wCol l (fun x _=>ctle_Col x)
 simp only[wColS,List.sum_cons]
 exact this
theorem markColS_ok (x:List GCol) (k:Nat) (k':Int) (hkk':k'=(k:Int)) (hk:k+ctColS x≤4611686018427387904) (hs: ∀n∈wColS x,n≤4611686018427387904):VM Tryz.prog 105 [.v false [.r [900]],int .i64 k'] [(.o 236 (fun _=> [.s,.s,.s,.s,.s,.s,.s]),.ls [.sc (.string ⟨#[]⟩),.sc (.int .i64 0),.sc (.bool false),.sc (.bool false),.sc (.int .i64 0),.sc (.int .i64 0),.sc (.string ⟨#[]⟩)] (x.map eCol),.ls [.sc (.string ⟨#[]⟩),.sc (.int .i64 0),.sc (.bool false),.sc (.bool false),.sc (.int .i64 0),.sc (.int .i64 0),.sc (.string ⟨#[]⟩)] ((mkColS k x).map eCol))] (some ((k:Int)+(ctColS x:Int))):=by
 subst hkk'
 have hl:x.length≤4611686018427387904:=hs _ (by simp[wColS])
 refine vm_of_ew good hm [0,1,4,5,9,5000] Tryz.func105 rfl (by kernel_rfl) (by kernel_rfl) rfl fun pv=> ?_
 simp[Tryz.f105]
 refine ew_loop (fun E=> ∃ (i K:Nat) (M:List (GCol)),i≤x.length∧K=k+ctRw ctCol (x.take i)∧M=mixR mkCol ctCol k x i∧E= {nt:=71,sl:= [(0,.v false [.r [900]]),(1,int .i64 (K:Int)),(5,int .i64 i),(5000,.pin 900 [] (pv 900))],bx:= [],rt:= [(900,.o 236 (fun _=> [.s,.s,.s,.s,.s,.s,.s]),.ls [.sc (.string ⟨#[]⟩),.sc (.int .i64 0),.sc (.bool false),.sc (.bool false),.sc (.int .i64 0),.sc (.int .i64 0),.sc (.string ⟨#[]⟩)] (M.map eCol))]}) (fun E=>x.length- (E.num 5).toNat) _ (Gh.kb _ [0,1,5,5000] [] [900]) ⟨0,k,x,by omega,by simp[ctRw],by simp[mixR_zero],by simp⟩ ?_
 rintro E1 ⟨i,K,M,hi,hK,hM,rfl⟩
 have hfl:M.length=x.length:=by rw[hM];exact mixR_len mkCol ctCol k x i
 have hct:=ctRw_le ctCol x i
 simp only[ctColS] at hk
 simp[hfl]
 refine ⟨fun h=> ?_,fun h=> ?_⟩
 ·have hg:M[i]? =x[i]? :=by rw[hM];exact mixR_get mkCol ctCol k x i h
  have hst:=mixR_set mkCol ctCol k x i (dCol) h
  have hc1:=ctRw_lt ctCol (dCol) h
  have hs1:ctRw ctCol (x.take (i+1))=ctRw ctCol (x.take i)+ctCol (x[i]?.getD (dCol)):=ctRw_succ ctCol (dCol) h
  have hxi:x[i]? =some (x[i]?.getD (dCol)):=by rw[List.getElem?_eq_getElem h];rfl
  have hy:(x[i]?.getD (dCol))∈x:=getD_mem _ h
  rw[hxi] at hg
  rw[←hK,←hM] at hst
  generalize (x[i]?.getD (dCol))=y at*
  have hg': ∀h',M[i]'h'=y:=fun h'=>by simpa [List.getElem?_eq_getElem h'] using hg
  have hse: ∀n∈wCol y,n≤4611686018427387904:=fun n hn=>hs n (List.mem_cons_of_mem _ (List.mem_flatMap.2 ⟨y,hy,hn⟩))
  simp only[ctCol] at hc1 hs1
  simp[md,lf,hg',hg,h,hfl,eCol]
  refine .of (markText_ok _ (K) (by omega) (by omega)) ?_
  have w0:IntKind.i64.wrap ((K:Int)+1)=(K:Int)+1:=(wrapI (by omega) (by omega)).trans (by omega)
  have w1:IntKind.i64.wrap ((K:Int)+1+1)=(K:Int)+2:=(wrapI (by omega) (by omega)).trans (by omega)
  have w2:IntKind.i64.wrap ((K:Int)+2+1)=(K:Int)+3:=(wrapI (by omega) (by omega)).trans (by omega)
  have w3:IntKind.i64.wrap ((K:Int)+3+1)=(K:Int)+4:=(wrapI (by omega) (by omega)).trans (by omega)
  have w4:IntKind.i64.wrap ((K:Int)+4+1)=(K:Int)+5:=(wrapI (by omega) (by omega)).trans (by omega)
  have w5:IntKind.i64.wrap ((K:Int)+5+1)=(K:Int)+6:=(wrapI (by omega) (by omega)).trans (by omega)
  simp[md,lf,hg',hg,h,hfl,eCol,w0,w1,w2,w3,w4,w5]
  refine .of (markText_ok _ (K+6) (by omega) (by omega)) ?_
  have w6:IntKind.i64.wrap ((K:Int)+6+1)=(K:Int)+7:=(wrapI (by omega) (by omega)).trans (by omega)
  simp[md,lf,hg',hg,h,hfl,eCol,w0,w1,w2,w3,w4,w5,w6]
  have e1:(k:Int)+(ctRw ctCol (x.take (i+1)):Int)=(K:Int)+7:=by omega
  refine .of _ (Gh.kb _ [0,1,5,5000] [] [900]) ⟨i+1,by omega, ?_⟩ ?_
  ·simp[wrapS (show i<9223372036854775807 by omega),e1,←hst,List.map_set,mkCol,mkBool,mkInt,mkStr,eCol,wrapU8]
  ·simp[wrapS (show i<9223372036854775807 by omega)];omega
 ·have:i=x.length:=by omega
  subst this
  subst hM
  subst hK
  simp[mixR_all,ctColS,mkColS]
theorem heldColS_ok (x:List GCol) (k:Nat) (k':Int) (hkk':k'=(k:Int)) (hk:k+ctColS x≤4611686018427387904) (hs: ∀n∈wColS x,n≤4611686018427387904):VC Tryz.prog 108 [vColS (mkColS k x),int .i64 k'] [(false,[(.s,.sc (.int .i64 ((k:Int)+(ctColS x:Int))))])]:=by
 subst hkk'
 have hl:x.length≤4611686018427387904:=hs _ (by simp[wColS])
 refine vc_of_ew good hm [0,1,4,5,9,19,28,39,50,60,70,81] Tryz.func108 rfl (by kernel_rfl) (by kernel_rfl) rfl ?_
 simp[Tryz.f108,vColS]
 refine ew_loop (fun E=> ∃ (i K:Nat),i≤x.length∧K=k+ctRw ctCol (x.take i)∧E= {nt:=85,sl:= [(0,vColS (mkColS k x)),(1,int .i64 (K:Int)),(5,int .i64 i)],bx:= [],rt:= []}) (fun E=>x.length- (E.num 5).toNat) _ (Gh.kb _ [0,1,5] [] []) ⟨0,k,by omega,by simp[ctRw],by simp[vColS]⟩ ?_
 rintro E1 ⟨i,K,hi,hK,rfl⟩
 have hfl:(mkColS k x).length=x.length:=mkRw_len mkCol ctCol k x
 have hct:=ctRw_le ctCol x i
 simp only[ctColS] at hk
 simp[vColS,hfl]
 refine ⟨fun h=> ?_,fun h=> ?_⟩
 ·have hg:(mkColS k x)[i]? =some (mkCol (k+ctRw ctCol (x.take i)) (x[i]?.getD (dCol))):=mkRw_get mkCol ctCol (dCol) k x i h
  have hc1:=ctRw_lt ctCol (dCol) h
  have hs1:ctRw ctCol (x.take (i+1))=ctRw ctCol (x.take i)+ctCol (x[i]?.getD (dCol)):=ctRw_succ ctCol (dCol) h
  have hy:(x[i]?.getD (dCol))∈x:=getD_mem _ h
  rw[←hK] at hg
  generalize (x[i]?.getD (dCol))=y at*
  have hg2: ∀hh:i< (mkColS k x).length,(mkColS k x)[i]=mkCol K y:=fun hh=>(List.getElem_eq_iff hh).2 hg
  have hse: ∀n∈wCol y,n≤4611686018427387904:=fun n hn=>hs n (List.mem_cons_of_mem _ (List.mem_flatMap.2 ⟨y,hy,hn⟩))
  simp only[ctCol] at hc1 hs1
  simp[md,lf,hg,hg2,h,hfl,eCol,mkCol,mkBool,mkInt,mkStr,wrapU8]
  refine .of (markText_ok _ (K) (by omega) (by omega)) ?_
  have w0:IntKind.i64.wrap ((K:Int)+1)=(K:Int)+1:=(wrapI (by omega) (by omega)).trans (by omega)
  have w1:IntKind.i64.wrap ((K:Int)+1+1)=(K:Int)+2:=(wrapI (by omega) (by omega)).trans (by omega)
  have w2:IntKind.i64.wrap ((K:Int)+2+1)=(K:Int)+3:=(wrapI (by omega) (by omega)).trans (by omega)
  have w3:IntKind.i64.wrap ((K:Int)+3+1)=(K:Int)+4:=(wrapI (by omega) (by omega)).trans (by omega)
  have w4:IntKind.i64.wrap ((K:Int)+4+1)=(K:Int)+5:=(wrapI (by omega) (by omega)).trans (by omega)
  have w5:IntKind.i64.wrap ((K:Int)+5+1)=(K:Int)+6:=(wrapI (by omega) (by omega)).trans (by omega)
  simp[md,lf,hg,hg2,h,hfl,eCol,mkCol,mkBool,mkInt,mkStr,wrapU8,w0,w1,w2,w3,w4,w5]
  refine .of (markText_ok _ (K+6) (by omega) (by omega)) ?_
  have w6:IntKind.i64.wrap ((K:Int)+6+1)=(K:Int)+7:=(wrapI (by omega) (by omega)).trans (by omega)
  simp[md,lf,hg,hg2,h,hfl,eCol,mkCol,mkBool,mkInt,mkStr,wrapU8,w0,w1,w2,w3,w4,w5,w6]
  have e1:(k:Int)+(ctRw ctCol (x.take (i+1)):Int)=(K:Int)+7:=by omega
  refine .of _ (Gh.kb _ [0,1,5] [] []) ⟨i+1,by omega, ?_⟩ ?_
  ·simp[wrapS (show i<9223372036854775807 by omega),e1,vColS]
  ·simp[wrapS (show i<9223372036854775807 by omega)];omega
 ·have:i=x.length:=by omega
  subst this
  subst hK
  simp[ctColS]
def vStrS (l:List ByteArray):SV:=list [.sc (.string ⟨#[]⟩)] (l.map eStr)
def wStrS (l:List ByteArray):List Nat:=l.length::l.flatMap wStr
def okStrS (l:List ByteArray):Prop:=okM l.length∧ ∀a∈l,okStr a
theorem okw_StrS (l:List ByteArray) (h:okStrS l): ∀n∈wStrS l,okM n:=by
 intro n hn
 rcases List.mem_cons.1 hn with rfl|hn
 ·exact h.1
 ·obtain ⟨a,ha,hn⟩:=List.mem_flatMap.1 hn
  exact okw_Str a (h.2 a ha) n hn
def mStrS (x:List ByteArray):ML:= [(.o 9 (fun _=> [.s]),.ls [.sc (.string ⟨#[]⟩)] (x.map eStr))]
@[simp] theorem ow_StrS (l:List ByteArray):Ow (.o 9 (fun _=> [.s])) (.ls [.sc (.string ⟨#[]⟩)] (l.map eStr))=True:=eq_true (Ow_rows (fun x j hj=>match j,hj with|0,_=> .sc|n+1,hj=>absurd hj (by simp)) l)
@[simp] theorem full_StrS (l:List ByteArray):Full (.o 9 (fun _=> [.s])) (.ls [.sc (.string ⟨#[]⟩)] (l.map eStr))=True:=eq_true (Full_rows (fun x j hj=>match j,hj with|0,_=> .s|n+1,hj=>absurd hj (by simp)) l)
theorem szStrS_ok (x:List ByteArray) (left:Int) (h0:0≤left) (h1:left≤1048576) (hs: ∀n∈wStrS x,okM n):VC Tryz.prog 279 [vStrS x,int .i64 left] [(false,[(.s,.sc (.int .i64 (szL (wStrS x) left)))])]:=by
 refine vc_of_ew good hm [0,1,4,11,5,15,26] Tryz.func279 rfl (by kernel_rfl) (by kernel_rfl) rfl ?_
 have hl:x.length≤9223372036854775807:=hs _ (by simp[wStrS])
 simp[Tryz.f279,vStrS]
 rw[wrapI (i:=left-x.length) (by omega) (by omega)]
 refine ⟨fun h=>by simp[wStrS,szL,h],fun hk=> ?_⟩
 refine ew_loop (fun E=> ∃i:Nat,i≤x.length∧0≤szL ((x.take i).flatMap wStr) (left-x.length)∧E= {nt:=28,sl:= [(0,vStrS x),(1,int .i64 (szL ((x.take i).flatMap wStr) (left-x.length))),(5,int .i64 i)],bx:= [],rt:= []}) (fun E=>x.length- (E.num 5).toNat) _ (Gh.keep _ [0,1,5]) ⟨0,by omega,by simp[szL];omega,by simp[szL,vStrS]⟩ ?_
 rintro E1 ⟨i,hi,hr0,rfl⟩
 have hr1:=szL_le' (l:=(x.take i).flatMap wStr) (left:=left-x.length) (by omega)
 simp[vStrS,eStr]
 refine ⟨fun h=> ?_,fun h=> ?_⟩
 ·obtain ⟨q1,q2⟩:=szF_step wStr (⟨#[]⟩) h (by omega:0≤left-x.length) hr0
  have hm: ∀n∈wStr (x[i]?.getD (⟨#[]⟩)),okM n:=fun n hn=>hs n (List.mem_cons_of_mem _ (mem_flat h hn))
  have hb:(x[i]?.getD (⟨#[]⟩:ByteArray)).size≤9223372036854775807:=hm _ (by simp[wStr])
  simp only[wStr,szL] at q1 q2
  try simp[eStr]
  rw[wrapI (i:=szL ((x.take i).flatMap wStr) (left-x.length)- ((x[i]?.getD (⟨#[]⟩:ByteArray)).size:Nat)) (by omega) (by omega)]
  refine ⟨h,fun h2=> ?_,fun h2=> .of _ (Gh.keep _ [0,1,5]) ⟨i+1,by omega, ?_, ?_⟩ ?_⟩
  ·simp[h2] at q1;rw[wStrS,szL,if_neg (by omega),q1]
  ·rw[q2,if_neg (by omega)];exact h2
  ·rw[q2,if_neg (by omega)];simp[wrapS (show i<9223372036854775807 by omega)]
  ·simp[wrapS (show i<9223372036854775807 by omega)];omega
 ·rw[wStrS,szL,if_neg (by omega),List.take_of_length_le (by simpa using h)]
theorem toStrS_ok (x:List ByteArray) (hs: ∀n∈wStrS x,n≤1048576):VC Tryz.prog 298 [vStrS x] [(false,mStrS x)]:=by
 refine vc_of_ew good hm [0,2,3,4,11] Tryz.func298 rfl (by kernel_rfl) (by kernel_rfl) rfl ?_
 have hl:x.length≤1048576:=hs _ (by simp[wStrS])
 simp[Tryz.f298,vStrS,mStrS]
 refine ⟨by omega, ?_⟩
 refine ew_loop (fun E=> ∃i:Nat,i≤x.length∧E= {nt:=22,sl:= [(0,vStrS x),(3,.v false [.r [7]]),(4,int .i64 i)],bx:= [],rt:= [(7,.o 9 (fun _=> [.s]),.ls [.sc (.string ⟨#[]⟩)] (fillR [.sc (.string ⟨#[]⟩)] (x.map eStr) i))]}) (fun E=>x.length- (E.num 4).toNat) _ (Gh.keep _ [0,3,4]) ⟨0,by omega,by simp[vStrS,fillR]⟩ ?_
 rintro E1 ⟨i,hi,rfl⟩
 have hfl:(fillR [.sc (.string ⟨#[]⟩)] (x.map eStr) i).length=x.length:=by rw[fillR_len _ _ (by simpa using hi)];simp
 simp[vStrS,eStr] at hfl⊢
 try simp[hfl]
 refine ⟨fun h=> ?_,fun h=>fillR_all _ _ (by simpa using h)⟩
 simp[eStr,hfl,h]
 refine .of _ (Gh.keep _ [0,3,4]) ⟨i+1,by omega, ?_⟩ ?_
 ·have:=fillR_set [.sc (.string ⟨#[]⟩)] (x.map eStr) (i:=i) (by simpa using h)
  simp[wrapS (show i<9223372036854775807 by omega),vStrS,eStr,h] at this⊢
  rw[←this]
 ·simp[wrapS (show i<9223372036854775807 by omega)];omega
theorem eqStrS_ok (x:List ByteArray) (hs: ∀n∈wStrS x,n≤1048576):VC Tryz.prog 206 [vStrS x,vStrS x] [(false,[(.s,.sc (.bool true))])]:=by
 refine vc_of_ew good hm [0,1,4,10,5,14,25] Tryz.func206 rfl (by kernel_rfl) (by kernel_rfl) rfl ?_
 have hl:x.length≤1048576:=hs _ (by simp[wStrS])
 simp[Tryz.f206,vStrS]
 refine ew_loop (fun E=> ∃i:Nat,i≤x.length∧E= {nt:=26,sl:= [(0,vStrS x),(1,vStrS x),(5,int .i64 i)],bx:= [],rt:= []}) (fun E=>x.length- (E.num 5).toNat) _ (Gh.keep _ [0,1,5]) ⟨0,by omega,by simp[vStrS]⟩ ?_
 rintro E1 ⟨i,hi,rfl⟩
 simp[vStrS,eStr]
 intro h
 simp[eStr,h]
 refine .of _ (Gh.keep _ [0,1,5]) ⟨i+1,by omega, ?_⟩ ?_
 ·simp[wrapS (show i<9223372036854775807 by omega),vStrS]
 ·simp[wrapS (show i<9223372036854775807 by omega)];omega
def ctStrS (l:List ByteArray):Nat:=ctRw ctStr l
def mkStrS (k:Nat) (l:List ByteArray):List ByteArray:=mkRw mkStr ctStr k l
theorem ctle_StrS (l:List ByteArray):ctStrS l≤64* (wStrS l).sum:=by
 have:=ctRw_le64 ctStr wStr l (fun x _=>by simp only[ctStr];omega)
 simp only[wStrS,List.sum_cons]
 exact this
theorem markStrS_ok (x:List ByteArray) (k:Nat) (k':Int) (hkk':k'=(k:Int)) (hk:k+ctStrS x≤4611686018427387904) (hs: ∀n∈wStrS x,n≤4611686018427387904):VM Tryz.prog 106 [.v false [.r [900]],int .i64 k'] [(.o 9 (fun _=> [.s]),.ls [.sc (.string ⟨#[]⟩)] (x.map eStr),.ls [.sc (.string ⟨#[]⟩)] ((mkStrS k x).map eStr))] (some ((k:Int)+(ctStrS x:Int))):=by
 subst hkk'
 have hl:x.length≤4611686018427387904:=hs _ (by simp[wStrS])
 refine vm_of_ew good hm [0,1,4,5,9,5000] Tryz.func106 rfl (by kernel_rfl) (by kernel_rfl) rfl fun pv=> ?_
 simp[Tryz.f106]
 refine ew_loop (fun E=> ∃ (i K:Nat) (M:List (ByteArray)),i≤x.length∧K=k+ctRw ctStr (x.take i)∧M=mixR mkStr ctStr k x i∧E= {nt:=20,sl:= [(0,.v false [.r [900]]),(1,int .i64 (K:Int)),(5,int .i64 i),(5000,.pin 900 [] (pv 900))],bx:= [],rt:= [(900,.o 9 (fun _=> [.s]),.ls [.sc (.string ⟨#[]⟩)] (M.map eStr))]}) (fun E=>x.length- (E.num 5).toNat) _ (Gh.kb _ [0,1,5,5000] [] [900]) ⟨0,k,x,by omega,by simp[ctRw],by simp[mixR_zero],by simp⟩ ?_
 rintro E1 ⟨i,K,M,hi,hK,hM,rfl⟩
 have hfl:M.length=x.length:=by rw[hM];exact mixR_len mkStr ctStr k x i
 have hct:=ctRw_le ctStr x i
 simp only[ctStrS] at hk
 simp[hfl]
 refine ⟨fun h=> ?_,fun h=> ?_⟩
 ·have hg:M[i]? =x[i]? :=by rw[hM];exact mixR_get mkStr ctStr k x i h
  have hst:=mixR_set mkStr ctStr k x i (⟨#[]⟩) h
  have hc1:=ctRw_lt ctStr (⟨#[]⟩) h
  have hs1:ctRw ctStr (x.take (i+1))=ctRw ctStr (x.take i)+ctStr (x[i]?.getD (⟨#[]⟩)):=ctRw_succ ctStr (⟨#[]⟩) h
  have hxi:x[i]? =some (x[i]?.getD (⟨#[]⟩)):=by rw[List.getElem?_eq_getElem h];rfl
  have hy:(x[i]?.getD (⟨#[]⟩))∈x:=getD_mem _ h
  rw[hxi] at hg
  rw[←hK,←hM] at hst
  generalize (x[i]?.getD (⟨#[]⟩))=y at*
  have hg': ∀h',M[i]'h'=y:=fun h'=>by simpa [List.getElem?_eq_getElem h'] using hg
  have hse: ∀n∈wStr y,n≤4611686018427387904:=fun n hn=>hs n (List.mem_cons_of_mem _ (List.mem_flatMap.2 ⟨y,hy,hn⟩))
  simp only[ctStr] at hc1 hs1
  simp[md,lf,hg',hg,h,hfl,eStr]
  refine .of (markText_ok _ (K) (by omega) (by omega)) ?_
  have w0:IntKind.i64.wrap ((K:Int)+1)=(K:Int)+1:=(wrapI (by omega) (by omega)).trans (by omega)
  simp[md,lf,hg',hg,h,hfl,eStr,w0]
  have e1:(k:Int)+(ctRw ctStr (x.take (i+1)):Int)=(K:Int)+1:=by omega
  refine .of _ (Gh.kb _ [0,1,5,5000] [] [900]) ⟨i+1,by omega, ?_⟩ ?_
  ·simp[wrapS (show i<9223372036854775807 by omega),e1,←hst,List.map_set,mkStr,eStr,wrapU8]
  ·simp[wrapS (show i<9223372036854775807 by omega)];omega
 ·have:i=x.length:=by omega
  subst this
  subst hM
  subst hK
  simp[mixR_all,ctStrS,mkStrS]
theorem heldStrS_ok (x:List ByteArray) (k:Nat) (k':Int) (hkk':k'=(k:Int)) (hk:k+ctStrS x≤4611686018427387904) (hs: ∀n∈wStrS x,n≤4611686018427387904):VC Tryz.prog 109 [vStrS (mkStrS k x),int .i64 k'] [(false,[(.s,.sc (.int .i64 ((k:Int)+(ctStrS x:Int))))])]:=by
 subst hkk'
 have hl:x.length≤4611686018427387904:=hs _ (by simp[wStrS])
 refine vc_of_ew good hm [0,1,4,5,9,18] Tryz.func109 rfl (by kernel_rfl) (by kernel_rfl) rfl ?_
 simp[Tryz.f109,vStrS]
 refine ew_loop (fun E=> ∃ (i K:Nat),i≤x.length∧K=k+ctRw ctStr (x.take i)∧E= {nt:=22,sl:= [(0,vStrS (mkStrS k x)),(1,int .i64 (K:Int)),(5,int .i64 i)],bx:= [],rt:= []}) (fun E=>x.length- (E.num 5).toNat) _ (Gh.kb _ [0,1,5] [] []) ⟨0,k,by omega,by simp[ctRw],by simp[vStrS]⟩ ?_
 rintro E1 ⟨i,K,hi,hK,rfl⟩
 have hfl:(mkStrS k x).length=x.length:=mkRw_len mkStr ctStr k x
 have hct:=ctRw_le ctStr x i
 simp only[ctStrS] at hk
 simp[vStrS,hfl]
 refine ⟨fun h=> ?_,fun h=> ?_⟩
 ·have hg:(mkStrS k x)[i]? =some (mkStr (k+ctRw ctStr (x.take i)) (x[i]?.getD (⟨#[]⟩))):=mkRw_get mkStr ctStr (⟨#[]⟩) k x i h
  have hc1:=ctRw_lt ctStr (⟨#[]⟩) h
  have hs1:ctRw ctStr (x.take (i+1))=ctRw ctStr (x.take i)+ctStr (x[i]?.getD (⟨#[]⟩)):=ctRw_succ ctStr (⟨#[]⟩) h
  have hy:(x[i]?.getD (⟨#[]⟩))∈x:=getD_mem _ h
  rw[←hK] at hg
  generalize (x[i]?.getD (⟨#[]⟩))=y at*
  have hg2: ∀hh:i< (mkStrS k x).length,(mkStrS k x)[i]=mkStr K y:=fun hh=>(List.getElem_eq_iff hh).2 hg
  have hse: ∀n∈wStr y,n≤4611686018427387904:=fun n hn=>hs n (List.mem_cons_of_mem _ (List.mem_flatMap.2 ⟨y,hy,hn⟩))
  simp only[ctStr] at hc1 hs1
  simp[md,lf,hg,hg2,h,hfl,eStr,mkStr,wrapU8]
  refine .of (markText_ok _ (K) (by omega) (by omega)) ?_
  have w0:IntKind.i64.wrap ((K:Int)+1)=(K:Int)+1:=(wrapI (by omega) (by omega)).trans (by omega)
  simp[md,lf,hg,hg2,h,hfl,eStr,mkStr,wrapU8,w0]
  have e1:(k:Int)+(ctRw ctStr (x.take (i+1)):Int)=(K:Int)+1:=by omega
  refine .of _ (Gh.kb _ [0,1,5] [] []) ⟨i+1,by omega, ?_⟩ ?_
  ·simp[wrapS (show i<9223372036854775807 by omega),e1,vStrS]
  ·simp[wrapS (show i<9223372036854775807 by omega)];omega
 ·have:i=x.length:=by omega
  subst this
  subst hK
  simp[ctStrS]
structure GDdl where
 fKind:Int
 fTable:ByteArray
 fCols:List GCol
 fKeys:List ByteArray
 fName:ByteArray
 fTo:ByteArray
def eDdl (x:GDdl):List Lf:= [.sc (.int .i64 x.fKind),.sc (.string x.fTable),.ls [.sc (.string ⟨#[]⟩),.sc (.int .i64 0),.sc (.bool false),.sc (.bool false),.sc (.int .i64 0),.sc (.int .i64 0),.sc (.string ⟨#[]⟩)] (x.fCols.map eCol),.ls [.sc (.string ⟨#[]⟩)] (x.fKeys.map eStr),.sc (.string x.fName),.sc (.string x.fTo)]
def cDdl (x:GDdl):List LV:= [.s (.sc (.int .i64 x.fKind)),.s (.sc (.string x.fTable)),.s (.ls [.sc (.string ⟨#[]⟩),.sc (.int .i64 0),.sc (.bool false),.sc (.bool false),.sc (.int .i64 0),.sc (.int .i64 0),.sc (.string ⟨#[]⟩)] (x.fCols.map eCol)),.s (.ls [.sc (.string ⟨#[]⟩)] (x.fKeys.map eStr)),.s (.sc (.string x.fName)),.s (.sc (.string x.fTo))]
def vDdl (x:GDdl):SV:= .v true [.s (.sc (.int .i64 x.fKind)),.s (.sc (.string x.fTable)),.s (.ls [.sc (.string ⟨#[]⟩),.sc (.int .i64 0),.sc (.bool false),.sc (.bool false),.sc (.int .i64 0),.sc (.int .i64 0),.sc (.string ⟨#[]⟩)] (x.fCols.map eCol)),.s (.ls [.sc (.string ⟨#[]⟩)] (x.fKeys.map eStr)),.s (.sc (.string x.fName)),.s (.sc (.string x.fTo))]
def dDdl:GDdl:=⟨0,⟨#[]⟩,[],[],⟨#[]⟩,⟨#[]⟩⟩
@[simp] theorem row_Ddl (l:List GDdl) (i:Nat):(Option.map eDdl l[i]?).getD [.sc (.int .i64 0),.sc (.string ⟨#[]⟩),.ls [.sc (.string ⟨#[]⟩),.sc (.int .i64 0),.sc (.bool false),.sc (.bool false),.sc (.int .i64 0),.sc (.int .i64 0),.sc (.string ⟨#[]⟩)] [],.ls [.sc (.string ⟨#[]⟩)] [],.sc (.string ⟨#[]⟩),.sc (.string ⟨#[]⟩)]=eDdl (l[i]?.getD dDdl):=by cases l[i]? <;>rfl
def wDdl (x:GDdl):List Nat:=x.fTable.size::(wColS x.fCols++(wStrS x.fKeys++(x.fName.size::(x.fTo.size::([])))))
def okDdl (x:GDdl):Prop:=okI x.fKind∧okM x.fTable.size∧okColS x.fCols∧okStrS x.fKeys∧okM x.fName.size∧okM x.fTo.size∧True
theorem okw_Ddl (x:GDdl) (h:okDdl x): ∀n∈wDdl x,okM n:=by
 obtain ⟨h0,h1,h2,h3,h4,h5,_⟩:=h
 intro n hn
 simp only[wDdl,List.mem_cons,List.mem_append,List.not_mem_nil,or_false,false_or] at hn
 rcases hn with rfl|hn|hn|rfl|rfl
 ·exact h1
 ·exact okw_ColS _ h2 n hn
 ·exact okw_StrS _ h3 n hn
 ·exact h4
 ·exact h5
def mDdl (x:GDdl):ML:= [(.s,.sc (.int .i64 x.fKind)),(.s,.sc (.string x.fTable)),(.o 236 (fun _=> [.s,.s,.s,.s,.s,.s,.s]),.ls [.sc (.string ⟨#[]⟩),.sc (.int .i64 0),.sc (.bool false),.sc (.bool false),.sc (.int .i64 0),.sc (.int .i64 0),.sc (.string ⟨#[]⟩)] (x.fCols.map eCol)),(.o 9 (fun _=> [.s]),.ls [.sc (.string ⟨#[]⟩)] (x.fKeys.map eStr)),(.s,.sc (.string x.fName)),(.s,.sc (.string x.fTo))]
theorem szDdl_ok (x:GDdl) (left:Int) (h0:0≤left) (h1:left≤1048576) (hs: ∀n∈wDdl x,okM n):VC Tryz.prog 178 [vDdl x,int .i64 left] [(false,[(.s,.sc (.int .i64 (szL (wDdl x) left)))])]:=by
 refine vc_of_ew good hm [0,1,2,4,11,17,23,30,37] Tryz.func178 rfl (by kernel_rfl) (by kernel_rfl) rfl ?_
 simp[Tryz.f178,vDdl]
 have hb0:x.fTable.size≤9223372036854775807:=hs _ (by simp[wDdl])
 rw[wrapI (i:=left- (x.fTable.size:Nat)) (by omega) (by omega)]
 refine ⟨fun hn=> ?_,fun hk0=> ?_⟩
 ·have e:szL (wDdl x) left= -1:=by rw[wDdl,szL,if_pos (by omega)]
  rw[e]
  try omega
 have hq0: ¬(left- (x.fTable.size:Nat))<0:=by omega
 have hz0:0≤(left- (x.fTable.size:Nat)):=by omega
 refine .of (szColS_ok x.fCols (left- (x.fTable.size:Nat)) (by omega) (by omega) (fun n hn=>hs n (by simp[wDdl,hn]))) ?_
 simp
 have hb1:=szL_le' (l:=wColS x.fCols) (left:=(left- (x.fTable.size:Nat))) (by omega)
 have hc1:=szL_neg (wColS x.fCols) (left- (x.fTable.size:Nat)) (by omega)
 refine ⟨fun hn=> ?_,fun hk1=> ?_⟩
 ·have e:szL (wDdl x) left= -1:=by rw[wDdl,szL,if_neg hq0,szL_app _ _ _ hz0,if_pos (by omega)]
  rw[e]
  try omega
 have hq1: ¬(szL (wColS x.fCols) (left- (x.fTable.size:Nat)))<0:=by omega
 have hz1:0≤(szL (wColS x.fCols) (left- (x.fTable.size:Nat))):=by omega
 refine .of (szStrS_ok x.fKeys (szL (wColS x.fCols) (left- (x.fTable.size:Nat))) (by omega) (by omega) (fun n hn=>hs n (by simp[wDdl,hn]))) ?_
 simp
 have hb2:=szL_le' (l:=wStrS x.fKeys) (left:=(szL (wColS x.fCols) (left- (x.fTable.size:Nat)))) (by omega)
 have hc2:=szL_neg (wStrS x.fKeys) (szL (wColS x.fCols) (left- (x.fTable.size:Nat))) (by omega)
 refine ⟨fun hn=> ?_,fun hk2=> ?_⟩
 ·have e:szL (wDdl x) left= -1:=by rw[wDdl,szL,if_neg hq0,szL_app _ _ _ hz0,if_neg hq1,szL_app _ _ _ hz1,if_pos (by omega)]
  rw[e]
  try omega
 have hq2: ¬(szL (wStrS x.fKeys) (szL (wColS x.fCols) (left- (x.fTable.size:Nat))))<0:=by omega
 have hz2:0≤(szL (wStrS x.fKeys) (szL (wColS x.fCols) (left- (x.fTable.size:Nat)))):=by omega
 have hb3:x.fName.size≤9223372036854775807:=hs _ (by simp[wDdl])
 rw[wrapI (i:=(szL (wStrS x.fKeys) (szL (wColS x.fCols) (left- (x.fTable.size:Nat))))- (x.fName.size:Nat)) (by omega) (by omega)]
 refine ⟨fun hn=> ?_,fun hk3=> ?_⟩
 ·have e:szL (wDdl x) left= -1:=by rw[wDdl,szL,if_neg hq0,szL_app _ _ _ hz0,if_neg hq1,szL_app _ _ _ hz1,if_neg hq2,szL,if_pos (by omega)]
  rw[e]
  try omega
 have hq3: ¬((szL (wStrS x.fKeys) (szL (wColS x.fCols) (left- (x.fTable.size:Nat))))- (x.fName.size:Nat))<0:=by omega
 have hz3:0≤((szL (wStrS x.fKeys) (szL (wColS x.fCols) (left- (x.fTable.size:Nat))))- (x.fName.size:Nat)):=by omega
 have hb4:x.fTo.size≤9223372036854775807:=hs _ (by simp[wDdl])
 rw[wrapI (i:=((szL (wStrS x.fKeys) (szL (wColS x.fCols) (left- (x.fTable.size:Nat))))- (x.fName.size:Nat))- (x.fTo.size:Nat)) (by omega) (by omega)]
 by_cases hn:(((szL (wStrS x.fKeys) (szL (wColS x.fCols) (left- (x.fTable.size:Nat))))- (x.fName.size:Nat))- (x.fTo.size:Nat))<0
 ·have e:szL (wDdl x) left= -1:=by rw[wDdl,szL,if_neg hq0,szL_app _ _ _ hz0,if_neg hq1,szL_app _ _ _ hz1,if_neg hq2,szL,if_neg hq3,szL,if_pos hn]
  rw[e]
  try omega
 ·have e:szL (wDdl x) left=(((szL (wStrS x.fKeys) (szL (wColS x.fCols) (left- (x.fTable.size:Nat))))- (x.fName.size:Nat))- (x.fTo.size:Nat)):=by rw[wDdl,szL,if_neg hq0,szL_app _ _ _ hz0,if_neg hq1,szL_app _ _ _ hz1,if_neg hq2,szL,if_neg hq3,szL,if_neg hn];rfl
  rw[e]
  try omega
theorem toDdl_ok (x:GDdl) (hs: ∀n∈wDdl x,n≤1048576):VC Tryz.prog 191 [vDdl x] [(true,mDdl x)]:=by
 refine vc_of_ew good hm [0,1,2,3] Tryz.func191 rfl (by kernel_rfl) (by kernel_rfl) rfl ?_
 simp[Tryz.f191,vDdl,mDdl]
 refine .of (toColS_ok x.fCols (fun n hn=>hs n (by simp[wDdl,hn]))) ?_
 simp[mColS]
 refine .of (toStrS_ok x.fKeys (fun n hn=>hs n (by simp[wDdl,hn]))) ?_
 simp[mStrS]
theorem eqDdl_ok (x:GDdl) (hs: ∀n∈wDdl x,n≤1048576):VC Tryz.prog 211 [vDdl x,vDdl x] [(false,[(.s,.sc (.bool true))])]:=by
 refine vc_of_ew good hm [0,1,2,3,4,9,14,20,26,31,36] Tryz.func211 rfl (by kernel_rfl) (by kernel_rfl) rfl ?_
 simp[Tryz.f211,vDdl]
 refine .of (eqColS_ok x.fCols (fun n hn=>hs n (by simp[wDdl,hn]))) ?_
 simp
 refine .of (eqStrS_ok x.fKeys (fun n hn=>hs n (by simp[wDdl,hn]))) ?_
 simp
def mvDdl (k:Nat) (x:GDdl):GDdl:= {x with fCols:=mkColS (k) x.fCols,fKeys:=mkStrS (k+ctColS x.fCols) x.fKeys}
structure GStmt where
 fKind:Int
 fTable:ByteArray
 fKey:List GVal
 fRow:GRow
 fDdl:GDdl
def eStmt (x:GStmt):List Lf:= [.sc (.int .i64 x.fKind),.sc (.string x.fTable),.ls [.sc (.int .i64 0),.sc (.int .i64 0),.sc (.string ⟨#[]⟩)] (x.fKey.map eVal),.ls [.sc (.int .i64 0),.sc (.int .i64 0),.sc (.string ⟨#[]⟩)] (x.fRow.fVals.map eVal),.sc (.int .i64 x.fDdl.fKind),.sc (.string x.fDdl.fTable),.ls [.sc (.string ⟨#[]⟩),.sc (.int .i64 0),.sc (.bool false),.sc (.bool false),.sc (.int .i64 0),.sc (.int .i64 0),.sc (.string ⟨#[]⟩)] (x.fDdl.fCols.map eCol),.ls [.sc (.string ⟨#[]⟩)] (x.fDdl.fKeys.map eStr),.sc (.string x.fDdl.fName),.sc (.string x.fDdl.fTo)]
def cStmt (x:GStmt):List LV:= [.s (.sc (.int .i64 x.fKind)),.s (.sc (.string x.fTable)),.s (.ls [.sc (.int .i64 0),.sc (.int .i64 0),.sc (.string ⟨#[]⟩)] (x.fKey.map eVal)),.s (.ls [.sc (.int .i64 0),.sc (.int .i64 0),.sc (.string ⟨#[]⟩)] (x.fRow.fVals.map eVal)),.s (.sc (.int .i64 x.fDdl.fKind)),.s (.sc (.string x.fDdl.fTable)),.s (.ls [.sc (.string ⟨#[]⟩),.sc (.int .i64 0),.sc (.bool false),.sc (.bool false),.sc (.int .i64 0),.sc (.int .i64 0),.sc (.string ⟨#[]⟩)] (x.fDdl.fCols.map eCol)),.s (.ls [.sc (.string ⟨#[]⟩)] (x.fDdl.fKeys.map eStr)),.s (.sc (.string x.fDdl.fName)),.s (.sc (.string x.fDdl.fTo))]
def vStmt (x:GStmt):SV:= .v true [.s (.sc (.int .i64 x.fKind)),.s (.sc (.string x.fTable)),.s (.ls [.sc (.int .i64 0),.sc (.int .i64 0),.sc (.string ⟨#[]⟩)] (x.fKey.map eVal)),.s (.ls [.sc (.int .i64 0),.sc (.int .i64 0),.sc (.string ⟨#[]⟩)] (x.fRow.fVals.map eVal)),.s (.sc (.int .i64 x.fDdl.fKind)),.s (.sc (.string x.fDdl.fTable)),.s (.ls [.sc (.string ⟨#[]⟩),.sc (.int .i64 0),.sc (.bool false),.sc (.bool false),.sc (.int .i64 0),.sc (.int .i64 0),.sc (.string ⟨#[]⟩)] (x.fDdl.fCols.map eCol)),.s (.ls [.sc (.string ⟨#[]⟩)] (x.fDdl.fKeys.map eStr)),.s (.sc (.string x.fDdl.fName)),.s (.sc (.string x.fDdl.fTo))]
def dStmt:GStmt:=⟨0,⟨#[]⟩,[],⟨[]⟩,⟨0,⟨#[]⟩,[],[],⟨#[]⟩,⟨#[]⟩⟩⟩
@[simp] theorem row_Stmt (l:List GStmt) (i:Nat):(Option.map eStmt l[i]?).getD [.sc (.int .i64 0),.sc (.string ⟨#[]⟩),.ls [.sc (.int .i64 0),.sc (.int .i64 0),.sc (.string ⟨#[]⟩)] [],.ls [.sc (.int .i64 0),.sc (.int .i64 0),.sc (.string ⟨#[]⟩)] [],.sc (.int .i64 0),.sc (.string ⟨#[]⟩),.ls [.sc (.string ⟨#[]⟩),.sc (.int .i64 0),.sc (.bool false),.sc (.bool false),.sc (.int .i64 0),.sc (.int .i64 0),.sc (.string ⟨#[]⟩)] [],.ls [.sc (.string ⟨#[]⟩)] [],.sc (.string ⟨#[]⟩),.sc (.string ⟨#[]⟩)]=eStmt (l[i]?.getD dStmt):=by cases l[i]? <;>rfl
def wStmt (x:GStmt):List Nat:=x.fTable.size::(wValS x.fKey++(wRow x.fRow++(wDdl x.fDdl++([]))))
def okStmt (x:GStmt):Prop:=okI x.fKind∧okM x.fTable.size∧okValS x.fKey∧okRow x.fRow∧okDdl x.fDdl∧True
theorem okw_Stmt (x:GStmt) (h:okStmt x): ∀n∈wStmt x,okM n:=by
 obtain ⟨h0,h1,h2,h3,h4,_⟩:=h
 intro n hn
 simp only[wStmt,List.mem_cons,List.mem_append,List.not_mem_nil,or_false,false_or] at hn
 rcases hn with rfl|hn|hn|hn
 ·exact h1
 ·exact okw_ValS _ h2 n hn
 ·exact okw_Row _ h3 n hn
 ·exact okw_Ddl _ h4 n hn
def mStmt (x:GStmt):ML:= [(.s,.sc (.int .i64 x.fKind)),(.s,.sc (.string x.fTable)),(.o 234 (fun _=> [.s,.s,.s]),.ls [.sc (.int .i64 0),.sc (.int .i64 0),.sc (.string ⟨#[]⟩)] (x.fKey.map eVal)),(.o 234 (fun _=> [.s,.s,.s]),.ls [.sc (.int .i64 0),.sc (.int .i64 0),.sc (.string ⟨#[]⟩)] (x.fRow.fVals.map eVal)),(.s,.sc (.int .i64 x.fDdl.fKind)),(.s,.sc (.string x.fDdl.fTable)),(.o 236 (fun _=> [.s,.s,.s,.s,.s,.s,.s]),.ls [.sc (.string ⟨#[]⟩),.sc (.int .i64 0),.sc (.bool false),.sc (.bool false),.sc (.int .i64 0),.sc (.int .i64 0),.sc (.string ⟨#[]⟩)] (x.fDdl.fCols.map eCol)),(.o 9 (fun _=> [.s]),.ls [.sc (.string ⟨#[]⟩)] (x.fDdl.fKeys.map eStr)),(.s,.sc (.string x.fDdl.fName)),(.s,.sc (.string x.fDdl.fTo))]
theorem szStmt_ok (x:GStmt) (left:Int) (h0:0≤left) (h1:left≤1048576) (hs: ∀n∈wStmt x,okM n):VC Tryz.prog 84 [vStmt x,int .i64 left] [(false,[(.s,.sc (.int .i64 (szL (wStmt x) left)))])]:=by
 refine vc_of_ew good hm [0,1,2,4,11,17,23,29] Tryz.func84 rfl (by kernel_rfl) (by kernel_rfl) rfl ?_
 simp[Tryz.f84,vStmt]
 have hb0:x.fTable.size≤9223372036854775807:=hs _ (by simp[wStmt])
 rw[wrapI (i:=left- (x.fTable.size:Nat)) (by omega) (by omega)]
 refine ⟨fun hn=> ?_,fun hk0=> ?_⟩
 ·have e:szL (wStmt x) left= -1:=by rw[wStmt,szL,if_pos (by omega)]
  rw[e]
  try omega
 have hq0: ¬(left- (x.fTable.size:Nat))<0:=by omega
 have hz0:0≤(left- (x.fTable.size:Nat)):=by omega
 refine .of (szValS_ok x.fKey (left- (x.fTable.size:Nat)) (by omega) (by omega) (fun n hn=>hs n (by simp[wStmt,hn]))) ?_
 simp
 have hb1:=szL_le' (l:=wValS x.fKey) (left:=(left- (x.fTable.size:Nat))) (by omega)
 have hc1:=szL_neg (wValS x.fKey) (left- (x.fTable.size:Nat)) (by omega)
 refine ⟨fun hn=> ?_,fun hk1=> ?_⟩
 ·have e:szL (wStmt x) left= -1:=by rw[wStmt,szL,if_neg hq0,szL_app _ _ _ hz0,if_pos (by omega)]
  rw[e]
  try omega
 have hq1: ¬(szL (wValS x.fKey) (left- (x.fTable.size:Nat)))<0:=by omega
 have hz1:0≤(szL (wValS x.fKey) (left- (x.fTable.size:Nat))):=by omega
 refine .of (szRow_ok x.fRow (szL (wValS x.fKey) (left- (x.fTable.size:Nat))) (by omega) (by omega) (fun n hn=>hs n (by simp[wStmt,hn]))) ?_
 simp
 have hb2:=szL_le' (l:=wRow x.fRow) (left:=(szL (wValS x.fKey) (left- (x.fTable.size:Nat)))) (by omega)
 have hc2:=szL_neg (wRow x.fRow) (szL (wValS x.fKey) (left- (x.fTable.size:Nat))) (by omega)
 refine ⟨fun hn=> ?_,fun hk2=> ?_⟩
 ·have e:szL (wStmt x) left= -1:=by rw[wStmt,szL,if_neg hq0,szL_app _ _ _ hz0,if_neg hq1,szL_app _ _ _ hz1,if_pos (by omega)]
  rw[e]
  try omega
 have hq2: ¬(szL (wRow x.fRow) (szL (wValS x.fKey) (left- (x.fTable.size:Nat))))<0:=by omega
 have hz2:0≤(szL (wRow x.fRow) (szL (wValS x.fKey) (left- (x.fTable.size:Nat)))):=by omega
 refine .of (szDdl_ok x.fDdl (szL (wRow x.fRow) (szL (wValS x.fKey) (left- (x.fTable.size:Nat)))) (by omega) (by omega) (fun n hn=>hs n (by simp[wStmt,hn]))) ?_
 simp
 have hb3:=szL_le' (l:=wDdl x.fDdl) (left:=(szL (wRow x.fRow) (szL (wValS x.fKey) (left- (x.fTable.size:Nat))))) (by omega)
 have hc3:=szL_neg (wDdl x.fDdl) (szL (wRow x.fRow) (szL (wValS x.fKey) (left- (x.fTable.size:Nat)))) (by omega)
 by_cases hn:(szL (wDdl x.fDdl) (szL (wRow x.fRow) (szL (wValS x.fKey) (left- (x.fTable.size:Nat)))))<0
 ·have e:szL (wStmt x) left= -1:=by rw[wStmt,szL,if_neg hq0,szL_app _ _ _ hz0,if_neg hq1,szL_app _ _ _ hz1,if_neg hq2,szL_app _ _ _ hz2,if_pos hn]
  rw[e]
  try omega
 ·have e:szL (wStmt x) left=(szL (wDdl x.fDdl) (szL (wRow x.fRow) (szL (wValS x.fKey) (left- (x.fTable.size:Nat))))):=by rw[wStmt,szL,if_neg hq0,szL_app _ _ _ hz0,if_neg hq1,szL_app _ _ _ hz1,if_neg hq2,szL_app _ _ _ hz2,if_neg hn];rfl
  rw[e]
  try omega
theorem toStmt_ok (x:GStmt) (hs: ∀n∈wStmt x,n≤1048576):VC Tryz.prog 91 [vStmt x] [(true,mStmt x)]:=by
 refine vc_of_ew good hm [0,1,2,3] Tryz.func91 rfl (by kernel_rfl) (by kernel_rfl) rfl ?_
 simp[Tryz.f91,vStmt,mStmt]
 refine .of (toValS_ok x.fKey (fun n hn=>hs n (by simp[wStmt,hn]))) ?_
 simp[mValS]
 refine .of (toRow_ok x.fRow (fun n hn=>hs n (by simp[wStmt,hn]))) ?_
 simp[mRow]
 refine .of (toDdl_ok x.fDdl (fun n hn=>hs n (by simp[wStmt,hn]))) ?_
 simp[mDdl]
theorem eqStmt_ok (x:GStmt) (hs: ∀n∈wStmt x,n≤1048576):VC Tryz.prog 100 [vStmt x,vStmt x] [(false,[(.s,.sc (.bool true))])]:=by
 refine vc_of_ew good hm [0,1,2,3,4,9,14,20,26,32] Tryz.func100 rfl (by kernel_rfl) (by kernel_rfl) rfl ?_
 simp[Tryz.f100,vStmt]
 refine .of (eqValS_ok x.fKey (fun n hn=>hs n (by simp[wStmt,hn]))) ?_
 simp
 refine .of (eqRow_ok x.fRow (fun n hn=>hs n (by simp[wStmt,hn]))) ?_
 simp
 refine .of (eqDdl_ok x.fDdl (fun n hn=>hs n (by simp[wStmt,hn]))) ?_
 simp
def mvStmt (k:Nat) (x:GStmt):GStmt:= {x with fKey:=mkValS (k) x.fKey,fRow:=mvRow (k+ctValS x.fKey) x.fRow,fDdl:=mvDdl (k+ctValS x.fKey+cvRow x.fRow) x.fDdl}
structure GPart where
 fStmt:GStmt
 fCols:List ByteArray
 fKeys:List ByteArray
def ePart (x:GPart):List Lf:= [.sc (.int .i64 x.fStmt.fKind),.sc (.string x.fStmt.fTable),.ls [.sc (.int .i64 0),.sc (.int .i64 0),.sc (.string ⟨#[]⟩)] (x.fStmt.fKey.map eVal),.ls [.sc (.int .i64 0),.sc (.int .i64 0),.sc (.string ⟨#[]⟩)] (x.fStmt.fRow.fVals.map eVal),.sc (.int .i64 x.fStmt.fDdl.fKind),.sc (.string x.fStmt.fDdl.fTable),.ls [.sc (.string ⟨#[]⟩),.sc (.int .i64 0),.sc (.bool false),.sc (.bool false),.sc (.int .i64 0),.sc (.int .i64 0),.sc (.string ⟨#[]⟩)] (x.fStmt.fDdl.fCols.map eCol),.ls [.sc (.string ⟨#[]⟩)] (x.fStmt.fDdl.fKeys.map eStr),.sc (.string x.fStmt.fDdl.fName),.sc (.string x.fStmt.fDdl.fTo),.ls [.sc (.string ⟨#[]⟩)] (x.fCols.map eStr),.ls [.sc (.string ⟨#[]⟩)] (x.fKeys.map eStr)]
def vPart (x:GPart):SV:= .v true [.s (.sc (.int .i64 x.fStmt.fKind)),.s (.sc (.string x.fStmt.fTable)),.s (.ls [.sc (.int .i64 0),.sc (.int .i64 0),.sc (.string ⟨#[]⟩)] (x.fStmt.fKey.map eVal)),.s (.ls [.sc (.int .i64 0),.sc (.int .i64 0),.sc (.string ⟨#[]⟩)] (x.fStmt.fRow.fVals.map eVal)),.s (.sc (.int .i64 x.fStmt.fDdl.fKind)),.s (.sc (.string x.fStmt.fDdl.fTable)),.s (.ls [.sc (.string ⟨#[]⟩),.sc (.int .i64 0),.sc (.bool false),.sc (.bool false),.sc (.int .i64 0),.sc (.int .i64 0),.sc (.string ⟨#[]⟩)] (x.fStmt.fDdl.fCols.map eCol)),.s (.ls [.sc (.string ⟨#[]⟩)] (x.fStmt.fDdl.fKeys.map eStr)),.s (.sc (.string x.fStmt.fDdl.fName)),.s (.sc (.string x.fStmt.fDdl.fTo)),.s (.ls [.sc (.string ⟨#[]⟩)] (x.fCols.map eStr)),.s (.ls [.sc (.string ⟨#[]⟩)] (x.fKeys.map eStr))]
def dPart:GPart:=⟨⟨0,⟨#[]⟩,[],⟨[]⟩,⟨0,⟨#[]⟩,[],[],⟨#[]⟩,⟨#[]⟩⟩⟩,[],[]⟩
@[simp] theorem row_Part (l:List GPart) (i:Nat):(Option.map ePart l[i]?).getD [.sc (.int .i64 0),.sc (.string ⟨#[]⟩),.ls [.sc (.int .i64 0),.sc (.int .i64 0),.sc (.string ⟨#[]⟩)] [],.ls [.sc (.int .i64 0),.sc (.int .i64 0),.sc (.string ⟨#[]⟩)] [],.sc (.int .i64 0),.sc (.string ⟨#[]⟩),.ls [.sc (.string ⟨#[]⟩),.sc (.int .i64 0),.sc (.bool false),.sc (.bool false),.sc (.int .i64 0),.sc (.int .i64 0),.sc (.string ⟨#[]⟩)] [],.ls [.sc (.string ⟨#[]⟩)] [],.sc (.string ⟨#[]⟩),.sc (.string ⟨#[]⟩),.ls [.sc (.string ⟨#[]⟩)] [],.ls [.sc (.string ⟨#[]⟩)] []]=ePart (l[i]?.getD dPart):=by cases l[i]? <;>rfl
def wPart (x:GPart):List Nat:=wStmt x.fStmt++(wStrS x.fCols++(wStrS x.fKeys++([])))
theorem eqPart_ok (x:GPart) (hs: ∀n∈wPart x,n≤1048576):VC Tryz.prog 97 [vPart x,vPart x] [(false,[(.s,.sc (.bool true))])]:=by
 refine vc_of_ew good hm [0,1,2,3,4,10,16,22] Tryz.func97 rfl (by kernel_rfl) (by kernel_rfl) rfl ?_
 simp[Tryz.f97,vPart]
 refine .of (eqStmt_ok x.fStmt (fun n hn=>hs n (by simp[wPart,hn]))) ?_
 simp
 refine .of (eqStrS_ok x.fCols (fun n hn=>hs n (by simp[wPart,hn]))) ?_
 simp
 refine .of (eqStrS_ok x.fKeys (fun n hn=>hs n (by simp[wPart,hn]))) ?_
 simp
def vPartS (l:List GPart):SV:=list [.sc (.int .i64 0),.sc (.string ⟨#[]⟩),.ls [.sc (.int .i64 0),.sc (.int .i64 0),.sc (.string ⟨#[]⟩)] [],.ls [.sc (.int .i64 0),.sc (.int .i64 0),.sc (.string ⟨#[]⟩)] [],.sc (.int .i64 0),.sc (.string ⟨#[]⟩),.ls [.sc (.string ⟨#[]⟩),.sc (.int .i64 0),.sc (.bool false),.sc (.bool false),.sc (.int .i64 0),.sc (.int .i64 0),.sc (.string ⟨#[]⟩)] [],.ls [.sc (.string ⟨#[]⟩)] [],.sc (.string ⟨#[]⟩),.sc (.string ⟨#[]⟩),.ls [.sc (.string ⟨#[]⟩)] [],.ls [.sc (.string ⟨#[]⟩)] []] (l.map ePart)
def wPartS (l:List GPart):List Nat:=l.length::l.flatMap wPart
def mPartS (x:List GPart):ML:= [(.o 150 (fun _=> [.s,.s,.o 234 (fun _=> [.s,.s,.s]),.o 234 (fun _=> [.s,.s,.s]),.s,.s,.o 236 (fun _=> [.s,.s,.s,.s,.s,.s,.s]),.o 9 (fun _=> [.s]),.s,.s,.o 9 (fun _=> [.s]),.o 9 (fun _=> [.s])]),.ls [.sc (.int .i64 0),.sc (.string ⟨#[]⟩),.ls [.sc (.int .i64 0),.sc (.int .i64 0),.sc (.string ⟨#[]⟩)] [],.ls [.sc (.int .i64 0),.sc (.int .i64 0),.sc (.string ⟨#[]⟩)] [],.sc (.int .i64 0),.sc (.string ⟨#[]⟩),.ls [.sc (.string ⟨#[]⟩),.sc (.int .i64 0),.sc (.bool false),.sc (.bool false),.sc (.int .i64 0),.sc (.int .i64 0),.sc (.string ⟨#[]⟩)] [],.ls [.sc (.string ⟨#[]⟩)] [],.sc (.string ⟨#[]⟩),.sc (.string ⟨#[]⟩),.ls [.sc (.string ⟨#[]⟩)] [],.ls [.sc (.string ⟨#[]⟩)] []] (x.map ePart))]
@[simp] theorem ow_PartS (l:List GPart):Ow (.o 150 (fun _=> [.s,.s,.o 234 (fun _=> [.s,.s,.s]),.o 234 (fun _=> [.s,.s,.s]),.s,.s,.o 236 (fun _=> [.s,.s,.s,.s,.s,.s,.s]),.o 9 (fun _=> [.s]),.s,.s,.o 9 (fun _=> [.s]),.o 9 (fun _=> [.s])])) (.ls [.sc (.int .i64 0),.sc (.string ⟨#[]⟩),.ls [.sc (.int .i64 0),.sc (.int .i64 0),.sc (.string ⟨#[]⟩)] [],.ls [.sc (.int .i64 0),.sc (.int .i64 0),.sc (.string ⟨#[]⟩)] [],.sc (.int .i64 0),.sc (.string ⟨#[]⟩),.ls [.sc (.string ⟨#[]⟩),.sc (.int .i64 0),.sc (.bool false),.sc (.bool false),.sc (.int .i64 0),.sc (.int .i64 0),.sc (.string ⟨#[]⟩)] [],.ls [.sc (.string ⟨#[]⟩)] [],.sc (.string ⟨#[]⟩),.sc (.string ⟨#[]⟩),.ls [.sc (.string ⟨#[]⟩)] [],.ls [.sc (.string ⟨#[]⟩)] []] (l.map ePart))=True:=eq_true (Ow_rows (fun x j hj=>match j,hj with|0,_=> .sc|1,_=> .sc|2,_=>of_eq_true (ow_ValS x.fStmt.fKey)|3,_=>of_eq_true (ow_ValS x.fStmt.fRow.fVals)|4,_=> .sc|5,_=> .sc|6,_=>of_eq_true (ow_ColS x.fStmt.fDdl.fCols)|7,_=>of_eq_true (ow_StrS x.fStmt.fDdl.fKeys)|8,_=> .sc|9,_=> .sc|10,_=>of_eq_true (ow_StrS x.fCols)|11,_=>of_eq_true (ow_StrS x.fKeys)|n+12,hj=>absurd hj (by simp)) l)
@[simp] theorem full_PartS (l:List GPart):Full (.o 150 (fun _=> [.s,.s,.o 234 (fun _=> [.s,.s,.s]),.o 234 (fun _=> [.s,.s,.s]),.s,.s,.o 236 (fun _=> [.s,.s,.s,.s,.s,.s,.s]),.o 9 (fun _=> [.s]),.s,.s,.o 9 (fun _=> [.s]),.o 9 (fun _=> [.s])])) (.ls [.sc (.int .i64 0),.sc (.string ⟨#[]⟩),.ls [.sc (.int .i64 0),.sc (.int .i64 0),.sc (.string ⟨#[]⟩)] [],.ls [.sc (.int .i64 0),.sc (.int .i64 0),.sc (.string ⟨#[]⟩)] [],.sc (.int .i64 0),.sc (.string ⟨#[]⟩),.ls [.sc (.string ⟨#[]⟩),.sc (.int .i64 0),.sc (.bool false),.sc (.bool false),.sc (.int .i64 0),.sc (.int .i64 0),.sc (.string ⟨#[]⟩)] [],.ls [.sc (.string ⟨#[]⟩)] [],.sc (.string ⟨#[]⟩),.sc (.string ⟨#[]⟩),.ls [.sc (.string ⟨#[]⟩)] [],.ls [.sc (.string ⟨#[]⟩)] []] (l.map ePart))=True:=eq_true (Full_rows (fun x j hj=>match j,hj with|0,_=> .s|1,_=> .s|2,_=>of_eq_true (full_ValS x.fStmt.fKey)|3,_=>of_eq_true (full_ValS x.fStmt.fRow.fVals)|4,_=> .s|5,_=> .s|6,_=>of_eq_true (full_ColS x.fStmt.fDdl.fCols)|7,_=>of_eq_true (full_StrS x.fStmt.fDdl.fKeys)|8,_=> .s|9,_=> .s|10,_=>of_eq_true (full_StrS x.fCols)|11,_=>of_eq_true (full_StrS x.fKeys)|n+12,hj=>absurd hj (by simp)) l)
theorem eqPartS_ok (x:List GPart) (hs: ∀n∈wPartS x,n≤1048576):VC Tryz.prog 20 [vPartS x,vPartS x] [(false,[(.s,.sc (.bool true))])]:=by
 refine vc_of_ew good hm [0,1,4,10,5,14,26] Tryz.func20 rfl (by kernel_rfl) (by kernel_rfl) rfl ?_
 have hl:x.length≤1048576:=hs _ (by simp[wPartS])
 simp[Tryz.f20,vPartS]
 refine ew_loop (fun E=> ∃i:Nat,i≤x.length∧E= {nt:=27,sl:= [(0,vPartS x),(1,vPartS x),(5,int .i64 i)],bx:= [],rt:= []}) (fun E=>x.length- (E.num 5).toNat) _ (Gh.keep _ [0,1,5]) ⟨0,by omega,by simp[vPartS]⟩ ?_
 rintro E1 ⟨i,hi,rfl⟩
 simp[vPartS,ePart]
 intro h
 refine ⟨h,.of (eqPart_ok (x[i]?.getD dPart) (fun n hn=>hs n (List.mem_cons_of_mem _ (mem_flat (wt:=wPart) h hn)))) ?_⟩
 simp
 refine .of _ (Gh.keep _ [0,1,5]) ⟨i+1,by omega, ?_⟩ ?_
 ·simp[wrapS (show i<9223372036854775807 by omega),vPartS]
 ·simp[wrapS (show i<9223372036854775807 by omega)];omega
def ctPart (x:GPart):Nat:=6+ctValS x.fStmt.fKey+ctValS x.fStmt.fRow.fVals+ctColS x.fStmt.fDdl.fCols+ctStrS x.fStmt.fDdl.fKeys+ctStrS x.fCols+ctStrS x.fKeys
def mkPart (k:Nat) (x:GPart):GPart:=⟨⟨mkInt (k) x.fStmt.fKind,mkStr (k+1) x.fStmt.fTable,mkValS (k+2) x.fStmt.fKey,⟨mkValS (k+2+ctValS x.fStmt.fKey) x.fStmt.fRow.fVals⟩,⟨mkInt (k+2+ctValS x.fStmt.fKey+ctValS x.fStmt.fRow.fVals) x.fStmt.fDdl.fKind,mkStr (k+3+ctValS x.fStmt.fKey+ctValS x.fStmt.fRow.fVals) x.fStmt.fDdl.fTable,mkColS (k+4+ctValS x.fStmt.fKey+ctValS x.fStmt.fRow.fVals) x.fStmt.fDdl.fCols,mkStrS (k+4+ctValS x.fStmt.fKey+ctValS x.fStmt.fRow.fVals+ctColS x.fStmt.fDdl.fCols) x.fStmt.fDdl.fKeys,mkStr (k+4+ctValS x.fStmt.fKey+ctValS x.fStmt.fRow.fVals+ctColS x.fStmt.fDdl.fCols+ctStrS x.fStmt.fDdl.fKeys) x.fStmt.fDdl.fName,mkStr (k+5+ctValS x.fStmt.fKey+ctValS x.fStmt.fRow.fVals+ctColS x.fStmt.fDdl.fCols+ctStrS x.fStmt.fDdl.fKeys) x.fStmt.fDdl.fTo⟩⟩,mkStrS (k+6+ctValS x.fStmt.fKey+ctValS x.fStmt.fRow.fVals+ctColS x.fStmt.fDdl.fCols+ctStrS x.fStmt.fDdl.fKeys) x.fCols,mkStrS (k+6+ctValS x.fStmt.fKey+ctValS x.fStmt.fRow.fVals+ctColS x.fStmt.fDdl.fCols+ctStrS x.fStmt.fDdl.fKeys+ctStrS x.fCols) x.fKeys⟩
theorem ctle_Part (x:GPart):ctPart x≤64+64* (wPart x).sum:=by
 have:=ctle_ValS x.fStmt.fKey
 have:=ctle_ValS x.fStmt.fRow.fVals
 have:=ctle_ColS x.fStmt.fDdl.fCols
 have:=ctle_StrS x.fStmt.fDdl.fKeys
 have:=ctle_StrS x.fCols
 have:=ctle_StrS x.fKeys
 simp only[ctPart,wPart,wStmt,wRow,wDdl,List.sum_cons,List.sum_append,List.sum_nil]
 omega
def ctPartS (l:List GPart):Nat:=ctRw ctPart l
def mkPartS (k:Nat) (l:List GPart):List GPart:=mkRw mkPart ctPart k l
theorem ctle_PartS (l:List GPart):ctPartS l≤64* (wPartS l).sum:=by
 have:=ctRw_le64 ctPart wPart l (fun x _=>ctle_Part x)
 simp only[wPartS,List.sum_cons]
 exact this
theorem markPartS_ok (x:List GPart) (k:Nat) (k':Int) (hkk':k'=(k:Int)) (hk:k+ctPartS x≤4611686018427387904) (hs: ∀n∈wPartS x,n≤4611686018427387904):VM Tryz.prog 25 [.v false [.r [900]],int .i64 k'] [(.o 150 (fun _=> [.s,.s,.o 234 (fun _=> [.s,.s,.s]),.o 234 (fun _=> [.s,.s,.s]),.s,.s,.o 236 (fun _=> [.s,.s,.s,.s,.s,.s,.s]),.o 9 (fun _=> [.s]),.s,.s,.o 9 (fun _=> [.s]),.o 9 (fun _=> [.s])]),.ls [.sc (.int .i64 0),.sc (.string ⟨#[]⟩),.ls [.sc (.int .i64 0),.sc (.int .i64 0),.sc (.string ⟨#[]⟩)] [],.ls [.sc (.int .i64 0),.sc (.int .i64 0),.sc (.string ⟨#[]⟩)] [],.sc (.int .i64 0),.sc (.string ⟨#[]⟩),.ls [.sc (.string ⟨#[]⟩),.sc (.int .i64 0),.sc (.bool false),.sc (.bool false),.sc (.int .i64 0),.sc (.int .i64 0),.sc (.string ⟨#[]⟩)] [],.ls [.sc (.string ⟨#[]⟩)] [],.sc (.string ⟨#[]⟩),.sc (.string ⟨#[]⟩),.ls [.sc (.string ⟨#[]⟩)] [],.ls [.sc (.string ⟨#[]⟩)] []] (x.map ePart),.ls [.sc (.int .i64 0),.sc (.string ⟨#[]⟩),.ls [.sc (.int .i64 0),.sc (.int .i64 0),.sc (.string ⟨#[]⟩)] [],.ls [.sc (.int .i64 0),.sc (.int .i64 0),.sc (.string ⟨#[]⟩)] [],.sc (.int .i64 0),.sc (.string ⟨#[]⟩),.ls [.sc (.string ⟨#[]⟩),.sc (.int .i64 0),.sc (.bool false),.sc (.bool false),.sc (.int .i64 0),.sc (.int .i64 0),.sc (.string ⟨#[]⟩)] [],.ls [.sc (.string ⟨#[]⟩)] [],.sc (.string ⟨#[]⟩),.sc (.string ⟨#[]⟩),.ls [.sc (.string ⟨#[]⟩)] [],.ls [.sc (.string ⟨#[]⟩)] []] ((mkPartS k x).map ePart))] (some ((k:Int)+(ctPartS x:Int))):=by
 subst hkk'
 have hl:x.length≤4611686018427387904:=hs _ (by simp[wPartS])
 refine vm_of_ew good hm [0,1,4,5,9,5000] Tryz.func25 rfl (by kernel_rfl) (by kernel_rfl) rfl fun pv=> ?_
 simp[Tryz.f25]
 refine ew_loop (fun E=> ∃ (i K:Nat) (M:List (GPart)),i≤x.length∧K=k+ctRw ctPart (x.take i)∧M=mixR mkPart ctPart k x i∧E= {nt:=118,sl:= [(0,.v false [.r [900]]),(1,int .i64 (K:Int)),(5,int .i64 i),(5000,.pin 900 [] (pv 900))],bx:= [],rt:= [(900,.o 150 (fun _=> [.s,.s,.o 234 (fun _=> [.s,.s,.s]),.o 234 (fun _=> [.s,.s,.s]),.s,.s,.o 236 (fun _=> [.s,.s,.s,.s,.s,.s,.s]),.o 9 (fun _=> [.s]),.s,.s,.o 9 (fun _=> [.s]),.o 9 (fun _=> [.s])]),.ls [.sc (.int .i64 0),.sc (.string ⟨#[]⟩),.ls [.sc (.int .i64 0),.sc (.int .i64 0),.sc (.string ⟨#[]⟩)] [],.ls [.sc (.int .i64 0),.sc (.int .i64 0),.sc (.string ⟨#[]⟩)] [],.sc (.int .i64 0),.sc (.string ⟨#[]⟩),.ls [.sc (.string ⟨#[]⟩),.sc (.int .i64 0),.sc (.bool false),.sc (.bool false),.sc (.int .i64 0),.sc (.int .i64 0),.sc (.string ⟨#[]⟩)] [],.ls [.sc (.string ⟨#[]⟩)] [],.sc (.string ⟨#[]⟩),.sc (.string ⟨#[]⟩),.ls [.sc (.string ⟨#[]⟩)] [],.ls [.sc (.string ⟨#[]⟩)] []] (M.map ePart))]}) (fun E=>x.length- (E.num 5).toNat) _ (Gh.kb _ [0,1,5,5000] [] [900]) ⟨0,k,x,by omega,by simp[ctRw],by simp[mixR_zero],by simp⟩ ?_
 rintro E1 ⟨i,K,M,hi,hK,hM,rfl⟩
 have hfl:M.length=x.length:=by rw[hM];exact mixR_len mkPart ctPart k x i
 have hct:=ctRw_le ctPart x i
 simp only[ctPartS] at hk
 simp[hfl]
 refine ⟨fun h=> ?_,fun h=> ?_⟩
 ·have hg:M[i]? =x[i]? :=by rw[hM];exact mixR_get mkPart ctPart k x i h
  have hst:=mixR_set mkPart ctPart k x i (dPart) h
  have hc1:=ctRw_lt ctPart (dPart) h
  have hs1:ctRw ctPart (x.take (i+1))=ctRw ctPart (x.take i)+ctPart (x[i]?.getD (dPart)):=ctRw_succ ctPart (dPart) h
  have hxi:x[i]? =some (x[i]?.getD (dPart)):=by rw[List.getElem?_eq_getElem h];rfl
  have hy:(x[i]?.getD (dPart))∈x:=getD_mem _ h
  rw[hxi] at hg
  rw[←hK,←hM] at hst
  generalize (x[i]?.getD (dPart))=y at*
  have hg': ∀h',M[i]'h'=y:=fun h'=>by simpa [List.getElem?_eq_getElem h'] using hg
  have hse: ∀n∈wPart y,n≤4611686018427387904:=fun n hn=>hs n (List.mem_cons_of_mem _ (List.mem_flatMap.2 ⟨y,hy,hn⟩))
  simp only[ctPart] at hc1 hs1
  have w0:IntKind.i64.wrap ((K:Int)+1)=(K:Int)+1:=(wrapI (by omega) (by omega)).trans (by omega)
  simp[md,lf,hg',hg,h,hfl,ePart,w0]
  refine .of (markText_ok _ (K+1) (by omega) (by omega)) ?_
  have w1:IntKind.i64.wrap ((K:Int)+1+1)=(K:Int)+2:=(wrapI (by omega) (by omega)).trans (by omega)
  simp[md,lf,hg',hg,h,hfl,ePart,w0,w1]
  refine .mut (markValS_ok y.fStmt.fKey (K+2) ((K:Int)+2) (by omega) (by omega) (fun n hn=>hse n (by simp[wPart,wStmt,wRow,wDdl,hn]))) ?_
  simp[md,lf,hg',hg,h,hfl,ePart,w0,w1]
  refine .mut (markValS_ok y.fStmt.fRow.fVals (K+2+ctValS y.fStmt.fKey) ((K:Int)+2+(ctValS y.fStmt.fKey:Int)) (by omega) (by omega) (fun n hn=>hse n (by simp[wPart,wStmt,wRow,wDdl,hn]))) ?_
  have w2:IntKind.i64.wrap ((K:Int)+2+(ctValS y.fStmt.fKey:Int)+(ctValS y.fStmt.fRow.fVals:Int)+1)=(K:Int)+3+(ctValS y.fStmt.fKey:Int)+(ctValS y.fStmt.fRow.fVals:Int):=(wrapI (by omega) (by omega)).trans (by omega)
  simp[md,lf,hg',hg,h,hfl,ePart,w0,w1,w2]
  refine .of (markText_ok _ (K+3+ctValS y.fStmt.fKey+ctValS y.fStmt.fRow.fVals) (by omega) (by omega)) ?_
  have w3:IntKind.i64.wrap ((K:Int)+3+(ctValS y.fStmt.fKey:Int)+(ctValS y.fStmt.fRow.fVals:Int)+1)=(K:Int)+4+(ctValS y.fStmt.fKey:Int)+(ctValS y.fStmt.fRow.fVals:Int):=(wrapI (by omega) (by omega)).trans (by omega)
  simp[md,lf,hg',hg,h,hfl,ePart,w0,w1,w2,w3]
  refine .mut (markColS_ok y.fStmt.fDdl.fCols (K+4+ctValS y.fStmt.fKey+ctValS y.fStmt.fRow.fVals) ((K:Int)+4+(ctValS y.fStmt.fKey:Int)+(ctValS y.fStmt.fRow.fVals:Int)) (by omega) (by omega) (fun n hn=>hse n (by simp[wPart,wStmt,wRow,wDdl,hn]))) ?_
  simp[md,lf,hg',hg,h,hfl,ePart,w0,w1,w2,w3]
  refine .mut (markStrS_ok y.fStmt.fDdl.fKeys (K+4+ctValS y.fStmt.fKey+ctValS y.fStmt.fRow.fVals+ctColS y.fStmt.fDdl.fCols) ((K:Int)+4+(ctValS y.fStmt.fKey:Int)+(ctValS y.fStmt.fRow.fVals:Int)+(ctColS y.fStmt.fDdl.fCols:Int)) (by omega) (by omega) (fun n hn=>hse n (by simp[wPart,wStmt,wRow,wDdl,hn]))) ?_
  simp[md,lf,hg',hg,h,hfl,ePart,w0,w1,w2,w3]
  refine .of (markText_ok _ (K+4+ctValS y.fStmt.fKey+ctValS y.fStmt.fRow.fVals+ctColS y.fStmt.fDdl.fCols+ctStrS y.fStmt.fDdl.fKeys) (by omega) (by omega)) ?_
  have w4:IntKind.i64.wrap ((K:Int)+4+(ctValS y.fStmt.fKey:Int)+(ctValS y.fStmt.fRow.fVals:Int)+(ctColS y.fStmt.fDdl.fCols:Int)+(ctStrS y.fStmt.fDdl.fKeys:Int)+1)=(K:Int)+5+(ctValS y.fStmt.fKey:Int)+(ctValS y.fStmt.fRow.fVals:Int)+(ctColS y.fStmt.fDdl.fCols:Int)+(ctStrS y.fStmt.fDdl.fKeys:Int):=(wrapI (by omega) (by omega)).trans (by omega)
  simp[md,lf,hg',hg,h,hfl,ePart,w0,w1,w2,w3,w4]
  refine .of (markText_ok _ (K+5+ctValS y.fStmt.fKey+ctValS y.fStmt.fRow.fVals+ctColS y.fStmt.fDdl.fCols+ctStrS y.fStmt.fDdl.fKeys) (by omega) (by omega)) ?_
  have w5:IntKind.i64.wrap ((K:Int)+5+(ctValS y.fStmt.fKey:Int)+(ctValS y.fStmt.fRow.fVals:Int)+(ctColS y.fStmt.fDdl.fCols:Int)+(ctStrS y.fStmt.fDdl.fKeys:Int)+1)=(K:Int)+6+(ctValS y.fStmt.fKey:Int)+(ctValS y.fStmt.fRow.fVals:Int)+(ctColS y.fStmt.fDdl.fCols:Int)+(ctStrS y.fStmt.fDdl.fKeys:Int):=(wrapI (by omega) (by omega)).trans (by omega)
  simp[md,lf,hg',hg,h,hfl,ePart,w0,w1,w2,w3,w4,w5]
  refine .mut (markStrS_ok y.fCols (K+6+ctValS y.fStmt.fKey+ctValS y.fStmt.fRow.fVals+ctColS y.fStmt.fDdl.fCols+ctStrS y.fStmt.fDdl.fKeys) ((K:Int)+6+(ctValS y.fStmt.fKey:Int)+(ctValS y.fStmt.fRow.fVals:Int)+(ctColS y.fStmt.fDdl.fCols:Int)+(ctStrS y.fStmt.fDdl.fKeys:Int)) (by omega) (by omega) (fun n hn=>hse n (by simp[wPart,wStmt,wRow,wDdl,hn]))) ?_
  simp[md,lf,hg',hg,h,hfl,ePart,w0,w1,w2,w3,w4,w5]
  refine .mut (markStrS_ok y.fKeys (K+6+ctValS y.fStmt.fKey+ctValS y.fStmt.fRow.fVals+ctColS y.fStmt.fDdl.fCols+ctStrS y.fStmt.fDdl.fKeys+ctStrS y.fCols) ((K:Int)+6+(ctValS y.fStmt.fKey:Int)+(ctValS y.fStmt.fRow.fVals:Int)+(ctColS y.fStmt.fDdl.fCols:Int)+(ctStrS y.fStmt.fDdl.fKeys:Int)+(ctStrS y.fCols:Int)) (by omega) (by omega) (fun n hn=>hse n (by simp[wPart,wStmt,wRow,wDdl,hn]))) ?_
  simp[md,lf,hg',hg,h,hfl,ePart,w0,w1,w2,w3,w4,w5]
  have e1:(k:Int)+(ctRw ctPart (x.take (i+1)):Int)=(K:Int)+6+(ctValS y.fStmt.fKey:Int)+(ctValS y.fStmt.fRow.fVals:Int)+(ctColS y.fStmt.fDdl.fCols:Int)+(ctStrS y.fStmt.fDdl.fKeys:Int)+(ctStrS y.fCols:Int)+(ctStrS y.fKeys:Int):=by omega
  refine .of _ (Gh.kb _ [0,1,5,5000] [] [900]) ⟨i+1,by omega, ?_⟩ ?_
  ·simp[wrapS (show i<9223372036854775807 by omega),e1,←hst,List.map_set,mkPart,mkInt,mkStr,ePart,wrapU8]
  ·simp[wrapS (show i<9223372036854775807 by omega)];omega
 ·have:i=x.length:=by omega
  subst this
  subst hM
  subst hK
  simp[mixR_all,ctPartS,mkPartS]
theorem heldPartS_ok (x:List GPart) (k:Nat) (k':Int) (hkk':k'=(k:Int)) (hk:k+ctPartS x≤4611686018427387904) (hs: ∀n∈wPartS x,n≤4611686018427387904):VC Tryz.prog 26 [vPartS (mkPartS k x),int .i64 k'] [(false,[(.s,.sc (.int .i64 ((k:Int)+(ctPartS x:Int))))])]:=by
 subst hkk'
 have hl:x.length≤4611686018427387904:=hs _ (by simp[wPartS])
 refine vc_of_ew good hm [0,1,4,5,9,19,30,42,53,62,74,87,98,108,120,131,140] Tryz.func26 rfl (by kernel_rfl) (by kernel_rfl) rfl ?_
 simp[Tryz.f26,vPartS]
 refine ew_loop (fun E=> ∃ (i K:Nat),i≤x.length∧K=k+ctRw ctPart (x.take i)∧E= {nt:=142,sl:= [(0,vPartS (mkPartS k x)),(1,int .i64 (K:Int)),(5,int .i64 i)],bx:= [],rt:= []}) (fun E=>x.length- (E.num 5).toNat) _ (Gh.kb _ [0,1,5] [] []) ⟨0,k,by omega,by simp[ctRw],by simp[vPartS]⟩ ?_
 rintro E1 ⟨i,K,hi,hK,rfl⟩
 have hfl:(mkPartS k x).length=x.length:=mkRw_len mkPart ctPart k x
 have hct:=ctRw_le ctPart x i
 simp only[ctPartS] at hk
 simp[vPartS,hfl]
 refine ⟨fun h=> ?_,fun h=> ?_⟩
 ·have hg:(mkPartS k x)[i]? =some (mkPart (k+ctRw ctPart (x.take i)) (x[i]?.getD (dPart))):=mkRw_get mkPart ctPart (dPart) k x i h
  have hc1:=ctRw_lt ctPart (dPart) h
  have hs1:ctRw ctPart (x.take (i+1))=ctRw ctPart (x.take i)+ctPart (x[i]?.getD (dPart)):=ctRw_succ ctPart (dPart) h
  have hy:(x[i]?.getD (dPart))∈x:=getD_mem _ h
  rw[←hK] at hg
  generalize (x[i]?.getD (dPart))=y at*
  have hg2: ∀hh:i< (mkPartS k x).length,(mkPartS k x)[i]=mkPart K y:=fun hh=>(List.getElem_eq_iff hh).2 hg
  have hse: ∀n∈wPart y,n≤4611686018427387904:=fun n hn=>hs n (List.mem_cons_of_mem _ (List.mem_flatMap.2 ⟨y,hy,hn⟩))
  simp only[ctPart] at hc1 hs1
  have w0:IntKind.i64.wrap ((K:Int)+1)=(K:Int)+1:=(wrapI (by omega) (by omega)).trans (by omega)
  simp[md,lf,hg,hg2,h,hfl,ePart,mkPart,mkInt,mkStr,wrapU8,w0]
  refine .of (markText_ok _ (K+1) (by omega) (by omega)) ?_
  have w1:IntKind.i64.wrap ((K:Int)+1+1)=(K:Int)+2:=(wrapI (by omega) (by omega)).trans (by omega)
  simp[md,lf,hg,hg2,h,hfl,ePart,mkPart,mkInt,mkStr,wrapU8,w0,w1]
  refine .of (heldValS_ok y.fStmt.fKey (K+2) _ (by omega) (by omega) (fun n hn=>hse n (by simp[wPart,wStmt,wRow,wDdl,hn]))) ?_
  have v2: ¬((K:Int)+2+(ctValS y.fStmt.fKey:Int)<0):=by omega
  have v3:0≤(K:Int)+2+(ctValS y.fStmt.fKey:Int):=by omega
  simp[md,lf,hg,hg2,h,hfl,ePart,mkPart,mkInt,mkStr,wrapU8,w0,w1,v2,v3]
  refine .of (heldValS_ok y.fStmt.fRow.fVals (K+2+ctValS y.fStmt.fKey) _ (by omega) (by omega) (fun n hn=>hse n (by simp[wPart,wStmt,wRow,wDdl,hn]))) ?_
  have v4: ¬((K:Int)+2+(ctValS y.fStmt.fKey:Int)+(ctValS y.fStmt.fRow.fVals:Int)<0):=by omega
  have v5:0≤(K:Int)+2+(ctValS y.fStmt.fKey:Int)+(ctValS y.fStmt.fRow.fVals:Int):=by omega
  have w6:IntKind.i64.wrap ((K:Int)+2+(ctValS y.fStmt.fKey:Int)+(ctValS y.fStmt.fRow.fVals:Int)+1)=(K:Int)+3+(ctValS y.fStmt.fKey:Int)+(ctValS y.fStmt.fRow.fVals:Int):=(wrapI (by omega) (by omega)).trans (by omega)
  simp[md,lf,hg,hg2,h,hfl,ePart,mkPart,mkInt,mkStr,wrapU8,w0,w1,v2,v3,v4,v5,w6]
  refine .of (markText_ok _ (K+3+ctValS y.fStmt.fKey+ctValS y.fStmt.fRow.fVals) (by omega) (by omega)) ?_
  have w7:IntKind.i64.wrap ((K:Int)+3+(ctValS y.fStmt.fKey:Int)+(ctValS y.fStmt.fRow.fVals:Int)+1)=(K:Int)+4+(ctValS y.fStmt.fKey:Int)+(ctValS y.fStmt.fRow.fVals:Int):=(wrapI (by omega) (by omega)).trans (by omega)
  simp[md,lf,hg,hg2,h,hfl,ePart,mkPart,mkInt,mkStr,wrapU8,w0,w1,v2,v3,v4,v5,w6,w7]
  refine .of (heldColS_ok y.fStmt.fDdl.fCols (K+4+ctValS y.fStmt.fKey+ctValS y.fStmt.fRow.fVals) _ (by omega) (by omega) (fun n hn=>hse n (by simp[wPart,wStmt,wRow,wDdl,hn]))) ?_
  have v8: ¬((K:Int)+4+(ctValS y.fStmt.fKey:Int)+(ctValS y.fStmt.fRow.fVals:Int)+(ctColS y.fStmt.fDdl.fCols:Int)<0):=by omega
  have v9:0≤(K:Int)+4+(ctValS y.fStmt.fKey:Int)+(ctValS y.fStmt.fRow.fVals:Int)+(ctColS y.fStmt.fDdl.fCols:Int):=by omega
  simp[md,lf,hg,hg2,h,hfl,ePart,mkPart,mkInt,mkStr,wrapU8,w0,w1,v2,v3,v4,v5,w6,w7,v8,v9]
  refine .of (heldStrS_ok y.fStmt.fDdl.fKeys (K+4+ctValS y.fStmt.fKey+ctValS y.fStmt.fRow.fVals+ctColS y.fStmt.fDdl.fCols) _ (by omega) (by omega) (fun n hn=>hse n (by simp[wPart,wStmt,wRow,wDdl,hn]))) ?_
  have v10: ¬((K:Int)+4+(ctValS y.fStmt.fKey:Int)+(ctValS y.fStmt.fRow.fVals:Int)+(ctColS y.fStmt.fDdl.fCols:Int)+(ctStrS y.fStmt.fDdl.fKeys:Int)<0):=by omega
  have v11:0≤(K:Int)+4+(ctValS y.fStmt.fKey:Int)+(ctValS y.fStmt.fRow.fVals:Int)+(ctColS y.fStmt.fDdl.fCols:Int)+(ctStrS y.fStmt.fDdl.fKeys:Int):=by omega
  simp[md,lf,hg,hg2,h,hfl,ePart,mkPart,mkInt,mkStr,wrapU8,w0,w1,v2,v3,v4,v5,w6,w7,v8,v9,v10,v11]
  refine .of (markText_ok _ (K+4+ctValS y.fStmt.fKey+ctValS y.fStmt.fRow.fVals+ctColS y.fStmt.fDdl.fCols+ctStrS y.fStmt.fDdl.fKeys) (by omega) (by omega)) ?_
  have w12:IntKind.i64.wrap ((K:Int)+4+(ctValS y.fStmt.fKey:Int)+(ctValS y.fStmt.fRow.fVals:Int)+(ctColS y.fStmt.fDdl.fCols:Int)+(ctStrS y.fStmt.fDdl.fKeys:Int)+1)=(K:Int)+5+(ctValS y.fStmt.fKey:Int)+(ctValS y.fStmt.fRow.fVals:Int)+(ctColS y.fStmt.fDdl.fCols:Int)+(ctStrS y.fStmt.fDdl.fKeys:Int):=(wrapI (by omega) (by omega)).trans (by omega)
  simp[md,lf,hg,hg2,h,hfl,ePart,mkPart,mkInt,mkStr,wrapU8,w0,w1,v2,v3,v4,v5,w6,w7,v8,v9,v10,v11,w12]
  refine .of (markText_ok _ (K+5+ctValS y.fStmt.fKey+ctValS y.fStmt.fRow.fVals+ctColS y.fStmt.fDdl.fCols+ctStrS y.fStmt.fDdl.fKeys) (by omega) (by omega)) ?_
  have w13:IntKind.i64.wrap ((K:Int)+5+(ctValS y.fStmt.fKey:Int)+(ctValS y.fStmt.fRow.fVals:Int)+(ctColS y.fStmt.fDdl.fCols:Int)+(ctStrS y.fStmt.fDdl.fKeys:Int)+1)=(K:Int)+6+(ctValS y.fStmt.fKey:Int)+(ctValS y.fStmt.fRow.fVals:Int)+(ctColS y.fStmt.fDdl.fCols:Int)+(ctStrS y.fStmt.fDdl.fKeys:Int):=(wrapI (by omega) (by omega)).trans (by omega)
  simp[md,lf,hg,hg2,h,hfl,ePart,mkPart,mkInt,mkStr,wrapU8,w0,w1,v2,v3,v4,v5,w6,w7,v8,v9,v10,v11,w12,w13]
  refine .of (heldStrS_ok y.fCols (K+6+ctValS y.fStmt.fKey+ctValS y.fStmt.fRow.fVals+ctColS y.fStmt.fDdl.fCols+ctStrS y.fStmt.fDdl.fKeys) _ (by omega) (by omega) (fun n hn=>hse n (by simp[wPart,wStmt,wRow,wDdl,hn]))) ?_
  have v14: ¬((K:Int)+6+(ctValS y.fStmt.fKey:Int)+(ctValS y.fStmt.fRow.fVals:Int)+(ctColS y.fStmt.fDdl.fCols:Int)+(ctStrS y.fStmt.fDdl.fKeys:Int)+(ctStrS y.fCols:Int)<0):=by omega
  have v15:0≤(K:Int)+6+(ctValS y.fStmt.fKey:Int)+(ctValS y.fStmt.fRow.fVals:Int)+(ctColS y.fStmt.fDdl.fCols:Int)+(ctStrS y.fStmt.fDdl.fKeys:Int)+(ctStrS y.fCols:Int):=by omega
  simp[md,lf,hg,hg2,h,hfl,ePart,mkPart,mkInt,mkStr,wrapU8,w0,w1,v2,v3,v4,v5,w6,w7,v8,v9,v10,v11,w12,w13,v14,v15]
  refine .of (heldStrS_ok y.fKeys (K+6+ctValS y.fStmt.fKey+ctValS y.fStmt.fRow.fVals+ctColS y.fStmt.fDdl.fCols+ctStrS y.fStmt.fDdl.fKeys+ctStrS y.fCols) _ (by omega) (by omega) (fun n hn=>hse n (by simp[wPart,wStmt,wRow,wDdl,hn]))) ?_
  have v16: ¬((K:Int)+6+(ctValS y.fStmt.fKey:Int)+(ctValS y.fStmt.fRow.fVals:Int)+(ctColS y.fStmt.fDdl.fCols:Int)+(ctStrS y.fStmt.fDdl.fKeys:Int)+(ctStrS y.fCols:Int)+(ctStrS y.fKeys:Int)<0):=by omega
  have v17:0≤(K:Int)+6+(ctValS y.fStmt.fKey:Int)+(ctValS y.fStmt.fRow.fVals:Int)+(ctColS y.fStmt.fDdl.fCols:Int)+(ctStrS y.fStmt.fDdl.fKeys:Int)+(ctStrS y.fCols:Int)+(ctStrS y.fKeys:Int):=by omega
  simp[md,lf,hg,hg2,h,hfl,ePart,mkPart,mkInt,mkStr,wrapU8,w0,w1,v2,v3,v4,v5,w6,w7,v8,v9,v10,v11,w12,w13,v14,v15,v16,v17]
  have e1:(k:Int)+(ctRw ctPart (x.take (i+1)):Int)=(K:Int)+6+(ctValS y.fStmt.fKey:Int)+(ctValS y.fStmt.fRow.fVals:Int)+(ctColS y.fStmt.fDdl.fCols:Int)+(ctStrS y.fStmt.fDdl.fKeys:Int)+(ctStrS y.fCols:Int)+(ctStrS y.fKeys:Int):=by omega
  refine .of _ (Gh.kb _ [0,1,5] [] []) ⟨i+1,by omega, ?_⟩ ?_
  ·simp[wrapS (show i<9223372036854775807 by omega),e1,vPartS]
  ·simp[wrapS (show i<9223372036854775807 by omega)];omega
 ·have:i=x.length:=by omega
  subst this
  subst hK
  simp[ctPartS]
structure GBatch where
 fLsn:Int
 fPrev:Int
 fParts:List GPart
def eBatch (x:GBatch):List Lf:= [.sc (.int .i64 x.fLsn),.sc (.int .i64 x.fPrev),.ls [.sc (.int .i64 0),.sc (.string ⟨#[]⟩),.ls [.sc (.int .i64 0),.sc (.int .i64 0),.sc (.string ⟨#[]⟩)] [],.ls [.sc (.int .i64 0),.sc (.int .i64 0),.sc (.string ⟨#[]⟩)] [],.sc (.int .i64 0),.sc (.string ⟨#[]⟩),.ls [.sc (.string ⟨#[]⟩),.sc (.int .i64 0),.sc (.bool false),.sc (.bool false),.sc (.int .i64 0),.sc (.int .i64 0),.sc (.string ⟨#[]⟩)] [],.ls [.sc (.string ⟨#[]⟩)] [],.sc (.string ⟨#[]⟩),.sc (.string ⟨#[]⟩),.ls [.sc (.string ⟨#[]⟩)] [],.ls [.sc (.string ⟨#[]⟩)] []] (x.fParts.map ePart)]
def vBatch (x:GBatch):SV:= .v true [.s (.sc (.int .i64 x.fLsn)),.s (.sc (.int .i64 x.fPrev)),.s (.ls [.sc (.int .i64 0),.sc (.string ⟨#[]⟩),.ls [.sc (.int .i64 0),.sc (.int .i64 0),.sc (.string ⟨#[]⟩)] [],.ls [.sc (.int .i64 0),.sc (.int .i64 0),.sc (.string ⟨#[]⟩)] [],.sc (.int .i64 0),.sc (.string ⟨#[]⟩),.ls [.sc (.string ⟨#[]⟩),.sc (.int .i64 0),.sc (.bool false),.sc (.bool false),.sc (.int .i64 0),.sc (.int .i64 0),.sc (.string ⟨#[]⟩)] [],.ls [.sc (.string ⟨#[]⟩)] [],.sc (.string ⟨#[]⟩),.sc (.string ⟨#[]⟩),.ls [.sc (.string ⟨#[]⟩)] [],.ls [.sc (.string ⟨#[]⟩)] []] (x.fParts.map ePart))]
def dBatch:GBatch:=⟨0,0,[]⟩
@[simp] theorem row_Batch (l:List GBatch) (i:Nat):(Option.map eBatch l[i]?).getD [.sc (.int .i64 0),.sc (.int .i64 0),.ls [.sc (.int .i64 0),.sc (.string ⟨#[]⟩),.ls [.sc (.int .i64 0),.sc (.int .i64 0),.sc (.string ⟨#[]⟩)] [],.ls [.sc (.int .i64 0),.sc (.int .i64 0),.sc (.string ⟨#[]⟩)] [],.sc (.int .i64 0),.sc (.string ⟨#[]⟩),.ls [.sc (.string ⟨#[]⟩),.sc (.int .i64 0),.sc (.bool false),.sc (.bool false),.sc (.int .i64 0),.sc (.int .i64 0),.sc (.string ⟨#[]⟩)] [],.ls [.sc (.string ⟨#[]⟩)] [],.sc (.string ⟨#[]⟩),.sc (.string ⟨#[]⟩),.ls [.sc (.string ⟨#[]⟩)] [],.ls [.sc (.string ⟨#[]⟩)] []] []]=eBatch (l[i]?.getD dBatch):=by cases l[i]? <;>rfl
def wBatch (x:GBatch):List Nat:=wPartS x.fParts++([])
theorem eqBatch_ok (x:GBatch) (hs: ∀n∈wBatch x,n≤1048576):VC Tryz.prog 38 [vBatch x,vBatch x] [(false,[(.s,.sc (.bool true))])]:=by
 refine vc_of_ew good hm [0,1,2,3,4,9,14,20] Tryz.func38 rfl (by kernel_rfl) (by kernel_rfl) rfl ?_
 simp[Tryz.f38,vBatch]
 refine .of (eqPartS_ok x.fParts (fun n hn=>hs n (by simp[wBatch,hn]))) ?_
 simp
def mvBatch (k:Nat) (x:GBatch):GBatch:= {x with fParts:=mkPartS (k) x.fParts}
structure GTable where
 fName:ByteArray
 fCols:List GCol
 fKeys:List ByteArray
def eTable (x:GTable):List Lf:= [.sc (.string x.fName),.ls [.sc (.string ⟨#[]⟩),.sc (.int .i64 0),.sc (.bool false),.sc (.bool false),.sc (.int .i64 0),.sc (.int .i64 0),.sc (.string ⟨#[]⟩)] (x.fCols.map eCol),.ls [.sc (.string ⟨#[]⟩)] (x.fKeys.map eStr)]
def cTable (x:GTable):List LV:= [.s (.sc (.string x.fName)),.s (.ls [.sc (.string ⟨#[]⟩),.sc (.int .i64 0),.sc (.bool false),.sc (.bool false),.sc (.int .i64 0),.sc (.int .i64 0),.sc (.string ⟨#[]⟩)] (x.fCols.map eCol)),.s (.ls [.sc (.string ⟨#[]⟩)] (x.fKeys.map eStr))]
def vTable (x:GTable):SV:= .v true [.s (.sc (.string x.fName)),.s (.ls [.sc (.string ⟨#[]⟩),.sc (.int .i64 0),.sc (.bool false),.sc (.bool false),.sc (.int .i64 0),.sc (.int .i64 0),.sc (.string ⟨#[]⟩)] (x.fCols.map eCol)),.s (.ls [.sc (.string ⟨#[]⟩)] (x.fKeys.map eStr))]
def dTable:GTable:=⟨⟨#[]⟩,[],[]⟩
@[simp] theorem row_Table (l:List GTable) (i:Nat):(Option.map eTable l[i]?).getD [.sc (.string ⟨#[]⟩),.ls [.sc (.string ⟨#[]⟩),.sc (.int .i64 0),.sc (.bool false),.sc (.bool false),.sc (.int .i64 0),.sc (.int .i64 0),.sc (.string ⟨#[]⟩)] [],.ls [.sc (.string ⟨#[]⟩)] []]=eTable (l[i]?.getD dTable):=by cases l[i]? <;>rfl
def wTable (x:GTable):List Nat:=x.fName.size::(wColS x.fCols++(wStrS x.fKeys++([])))
def okTable (x:GTable):Prop:=okM x.fName.size∧okColS x.fCols∧okStrS x.fKeys∧True
theorem okw_Table (x:GTable) (h:okTable x): ∀n∈wTable x,okM n:=by
 obtain ⟨h0,h1,h2,_⟩:=h
 intro n hn
 simp only[wTable,List.mem_cons,List.mem_append,List.not_mem_nil,or_false,false_or] at hn
 rcases hn with rfl|hn|hn
 ·exact h0
 ·exact okw_ColS _ h1 n hn
 ·exact okw_StrS _ h2 n hn
theorem fit_Table (ls:List Lf) (h:Fit ti ck 308 ls): ∃x:GTable,ls=eTable x∧okTable x:=by
 obtain ⟨c0,r0,rfl,h0,g0⟩:=All2.cons_inv h
 obtain ⟨a0,rfl,b0⟩:=h0.str_inv
 obtain ⟨c1,r1,rfl,h1,g1⟩:=All2.cons_inv g0
 obtain ⟨a1,rfl,b1,b1'⟩:=h1.list eCol okCol fit_Col
 obtain ⟨c2,r2,rfl,h2,g2⟩:=All2.cons_inv g1
 obtain ⟨a2,rfl,b2,b2'⟩:=h2.list eStr okStr fit_Str
 obtain rfl:=All2.nil_inv g2
 exact ⟨⟨a0,a1,a2⟩,rfl,⟨b0,⟨b1,b1'⟩,⟨b2,b2'⟩,trivial⟩⟩
def mTable (x:GTable):ML:= [(.s,.sc (.string x.fName)),(.o 236 (fun _=> [.s,.s,.s,.s,.s,.s,.s]),.ls [.sc (.string ⟨#[]⟩),.sc (.int .i64 0),.sc (.bool false),.sc (.bool false),.sc (.int .i64 0),.sc (.int .i64 0),.sc (.string ⟨#[]⟩)] (x.fCols.map eCol)),(.o 9 (fun _=> [.s]),.ls [.sc (.string ⟨#[]⟩)] (x.fKeys.map eStr))]
theorem szTable_ok (x:GTable) (left:Int) (h0:0≤left) (h1:left≤1048576) (hs: ∀n∈wTable x,okM n):VC Tryz.prog 275 [vTable x,int .i64 left] [(false,[(.s,.sc (.int .i64 (szL (wTable x) left)))])]:=by
 refine vc_of_ew good hm [0,1,2,4,11,17,23] Tryz.func275 rfl (by kernel_rfl) (by kernel_rfl) rfl ?_
 simp[Tryz.f275,vTable]
 have hb0:x.fName.size≤9223372036854775807:=hs _ (by simp[wTable])
 rw[wrapI (i:=left- (x.fName.size:Nat)) (by omega) (by omega)]
 refine ⟨fun hn=> ?_,fun hk0=> ?_⟩
 ·have e:szL (wTable x) left= -1:=by rw[wTable,szL,if_pos (by omega)]
  rw[e]
  try omega
 have hq0: ¬(left- (x.fName.size:Nat))<0:=by omega
 have hz0:0≤(left- (x.fName.size:Nat)):=by omega
 refine .of (szColS_ok x.fCols (left- (x.fName.size:Nat)) (by omega) (by omega) (fun n hn=>hs n (by simp[wTable,hn]))) ?_
 simp
 have hb1:=szL_le' (l:=wColS x.fCols) (left:=(left- (x.fName.size:Nat))) (by omega)
 have hc1:=szL_neg (wColS x.fCols) (left- (x.fName.size:Nat)) (by omega)
 refine ⟨fun hn=> ?_,fun hk1=> ?_⟩
 ·have e:szL (wTable x) left= -1:=by rw[wTable,szL,if_neg hq0,szL_app _ _ _ hz0,if_pos (by omega)]
  rw[e]
  try omega
 have hq1: ¬(szL (wColS x.fCols) (left- (x.fName.size:Nat)))<0:=by omega
 have hz1:0≤(szL (wColS x.fCols) (left- (x.fName.size:Nat))):=by omega
 refine .of (szStrS_ok x.fKeys (szL (wColS x.fCols) (left- (x.fName.size:Nat))) (by omega) (by omega) (fun n hn=>hs n (by simp[wTable,hn]))) ?_
 simp
 have hb2:=szL_le' (l:=wStrS x.fKeys) (left:=(szL (wColS x.fCols) (left- (x.fName.size:Nat)))) (by omega)
 have hc2:=szL_neg (wStrS x.fKeys) (szL (wColS x.fCols) (left- (x.fName.size:Nat))) (by omega)
 by_cases hn:(szL (wStrS x.fKeys) (szL (wColS x.fCols) (left- (x.fName.size:Nat))))<0
 ·have e:szL (wTable x) left= -1:=by rw[wTable,szL,if_neg hq0,szL_app _ _ _ hz0,if_neg hq1,szL_app _ _ _ hz1,if_pos hn]
  rw[e]
  try omega
 ·have e:szL (wTable x) left=(szL (wStrS x.fKeys) (szL (wColS x.fCols) (left- (x.fName.size:Nat)))):=by rw[wTable,szL,if_neg hq0,szL_app _ _ _ hz0,if_neg hq1,szL_app _ _ _ hz1,if_neg hn];rfl
  rw[e]
  try omega
theorem toTable_ok (x:GTable) (hs: ∀n∈wTable x,n≤1048576):VC Tryz.prog 294 [vTable x] [(true,mTable x)]:=by
 refine vc_of_ew good hm [0,1,2,3] Tryz.func294 rfl (by kernel_rfl) (by kernel_rfl) rfl ?_
 simp[Tryz.f294,vTable,mTable]
 refine .of (toColS_ok x.fCols (fun n hn=>hs n (by simp[wTable,hn]))) ?_
 simp[mColS]
 refine .of (toStrS_ok x.fKeys (fun n hn=>hs n (by simp[wTable,hn]))) ?_
 simp[mStrS]
theorem eqTable_ok (x:GTable) (hs: ∀n∈wTable x,n≤1048576):VC Tryz.prog 321 [vTable x,vTable x] [(false,[(.s,.sc (.bool true))])]:=by
 refine vc_of_ew good hm [0,1,2,3,4,9,15,21] Tryz.func321 rfl (by kernel_rfl) (by kernel_rfl) rfl ?_
 simp[Tryz.f321,vTable]
 refine .of (eqColS_ok x.fCols (fun n hn=>hs n (by simp[wTable,hn]))) ?_
 simp
 refine .of (eqStrS_ok x.fKeys (fun n hn=>hs n (by simp[wTable,hn]))) ?_
 simp
def vTableS (l:List GTable):SV:=list [.sc (.string ⟨#[]⟩),.ls [.sc (.string ⟨#[]⟩),.sc (.int .i64 0),.sc (.bool false),.sc (.bool false),.sc (.int .i64 0),.sc (.int .i64 0),.sc (.string ⟨#[]⟩)] [],.ls [.sc (.string ⟨#[]⟩)] []] (l.map eTable)
def wTableS (l:List GTable):List Nat:=l.length::l.flatMap wTable
def okTableS (l:List GTable):Prop:=okM l.length∧ ∀a∈l,okTable a
theorem okw_TableS (l:List GTable) (h:okTableS l): ∀n∈wTableS l,okM n:=by
 intro n hn
 rcases List.mem_cons.1 hn with rfl|hn
 ·exact h.1
 ·obtain ⟨a,ha,hn⟩:=List.mem_flatMap.1 hn
  exact okw_Table a (h.2 a ha) n hn
def mTableS (x:List GTable):ML:= [(.o 201 (fun _=> [.s,.o 236 (fun _=> [.s,.s,.s,.s,.s,.s,.s]),.o 9 (fun _=> [.s])]),.ls [.sc (.string ⟨#[]⟩),.ls [.sc (.string ⟨#[]⟩),.sc (.int .i64 0),.sc (.bool false),.sc (.bool false),.sc (.int .i64 0),.sc (.int .i64 0),.sc (.string ⟨#[]⟩)] [],.ls [.sc (.string ⟨#[]⟩)] []] (x.map eTable))]
@[simp] theorem ow_TableS (l:List GTable):Ow (.o 201 (fun _=> [.s,.o 236 (fun _=> [.s,.s,.s,.s,.s,.s,.s]),.o 9 (fun _=> [.s])])) (.ls [.sc (.string ⟨#[]⟩),.ls [.sc (.string ⟨#[]⟩),.sc (.int .i64 0),.sc (.bool false),.sc (.bool false),.sc (.int .i64 0),.sc (.int .i64 0),.sc (.string ⟨#[]⟩)] [],.ls [.sc (.string ⟨#[]⟩)] []] (l.map eTable))=True:=eq_true (Ow_rows (fun x j hj=>match j,hj with|0,_=> .sc|1,_=>of_eq_true (ow_ColS x.fCols)|2,_=>of_eq_true (ow_StrS x.fKeys)|n+3,hj=>absurd hj (by simp)) l)
@[simp] theorem full_TableS (l:List GTable):Full (.o 201 (fun _=> [.s,.o 236 (fun _=> [.s,.s,.s,.s,.s,.s,.s]),.o 9 (fun _=> [.s])])) (.ls [.sc (.string ⟨#[]⟩),.ls [.sc (.string ⟨#[]⟩),.sc (.int .i64 0),.sc (.bool false),.sc (.bool false),.sc (.int .i64 0),.sc (.int .i64 0),.sc (.string ⟨#[]⟩)] [],.ls [.sc (.string ⟨#[]⟩)] []] (l.map eTable))=True:=eq_true (Full_rows (fun x j hj=>match j,hj with|0,_=> .s|1,_=>of_eq_true (full_ColS x.fCols)|2,_=>of_eq_true (full_StrS x.fKeys)|n+3,hj=>absurd hj (by simp)) l)
theorem szTableS_ok (x:List GTable) (left:Int) (h0:0≤left) (h1:left≤1048576) (hs: ∀n∈wTableS x,okM n):VC Tryz.prog 174 [vTableS x,int .i64 left] [(false,[(.s,.sc (.int .i64 (szL (wTableS x) left)))])]:=by
 refine vc_of_ew good hm [0,1,4,11,5,15,25] Tryz.func174 rfl (by kernel_rfl) (by kernel_rfl) rfl ?_
 have hl:x.length≤9223372036854775807:=hs _ (by simp[wTableS])
 simp[Tryz.f174,vTableS]
 rw[wrapI (i:=left-x.length) (by omega) (by omega)]
 refine ⟨fun h=>by simp[wTableS,szL,h],fun hk=> ?_⟩
 refine ew_loop (fun E=> ∃i:Nat,i≤x.length∧0≤szL ((x.take i).flatMap wTable) (left-x.length)∧E= {nt:=27,sl:= [(0,vTableS x),(1,int .i64 (szL ((x.take i).flatMap wTable) (left-x.length))),(5,int .i64 i)],bx:= [],rt:= []}) (fun E=>x.length- (E.num 5).toNat) _ (Gh.keep _ [0,1,5]) ⟨0,by omega,by simp[szL];omega,by simp[szL,vTableS]⟩ ?_
 rintro E1 ⟨i,hi,hr0,rfl⟩
 have hr1:=szL_le' (l:=(x.take i).flatMap wTable) (left:=left-x.length) (by omega)
 simp[vTableS,eTable]
 refine ⟨fun h=> ?_,fun h=> ?_⟩
 ·obtain ⟨q1,q2⟩:=szF_step wTable (dTable) h (by omega:0≤left-x.length) hr0
  have hm: ∀n∈wTable (x[i]?.getD (dTable)),okM n:=fun n hn=>hs n (List.mem_cons_of_mem _ (mem_flat h hn))
  have hn1:=szL_neg (wTable (x[i]?.getD (dTable))) _ hr0
  refine ⟨h,.of (szTable_ok _ _ hr0 (by omega) hm) ?_⟩
  simp
  refine ⟨fun h2=> ?_,fun h2=> .of _ (Gh.keep _ [0,1,5]) ⟨i+1,by omega, ?_, ?_⟩ ?_⟩
  ·rw[wTableS,szL,if_neg (by omega),q1 h2]
  ·rw[q2];exact h2
  ·rw[q2];simp[wrapS (show i<9223372036854775807 by omega)]
  ·simp[wrapS (show i<9223372036854775807 by omega)];omega
 ·rw[wTableS,szL,if_neg (by omega),List.take_of_length_le (by simpa using h)]
theorem toTableS_ok (x:List GTable) (hs: ∀n∈wTableS x,n≤1048576):VC Tryz.prog 187 [vTableS x] [(false,mTableS x)]:=by
 refine vc_of_ew good hm [0,2,3,4,11] Tryz.func187 rfl (by kernel_rfl) (by kernel_rfl) rfl ?_
 have hl:x.length≤1048576:=hs _ (by simp[wTableS])
 simp[Tryz.f187,vTableS,mTableS]
 refine ⟨by omega, ?_⟩
 refine ew_loop (fun E=> ∃i:Nat,i≤x.length∧E= {nt:=23,sl:= [(0,vTableS x),(3,.v false [.r [7]]),(4,int .i64 i)],bx:= [],rt:= [(7,.o 201 (fun _=> [.s,.o 236 (fun _=> [.s,.s,.s,.s,.s,.s,.s]),.o 9 (fun _=> [.s])]),.ls [.sc (.string ⟨#[]⟩),.ls [.sc (.string ⟨#[]⟩),.sc (.int .i64 0),.sc (.bool false),.sc (.bool false),.sc (.int .i64 0),.sc (.int .i64 0),.sc (.string ⟨#[]⟩)] [],.ls [.sc (.string ⟨#[]⟩)] []] (fillR [.sc (.string ⟨#[]⟩),.ls [.sc (.string ⟨#[]⟩),.sc (.int .i64 0),.sc (.bool false),.sc (.bool false),.sc (.int .i64 0),.sc (.int .i64 0),.sc (.string ⟨#[]⟩)] [],.ls [.sc (.string ⟨#[]⟩)] []] (x.map eTable) i))]}) (fun E=>x.length- (E.num 4).toNat) _ (Gh.keep _ [0,3,4]) ⟨0,by omega,by simp[vTableS,fillR]⟩ ?_
 rintro E1 ⟨i,hi,rfl⟩
 have hfl:(fillR [.sc (.string ⟨#[]⟩),.ls [.sc (.string ⟨#[]⟩),.sc (.int .i64 0),.sc (.bool false),.sc (.bool false),.sc (.int .i64 0),.sc (.int .i64 0),.sc (.string ⟨#[]⟩)] [],.ls [.sc (.string ⟨#[]⟩)] []] (x.map eTable) i).length=x.length:=by rw[fillR_len _ _ (by simpa using hi)];simp
 simp[vTableS,eTable] at hfl⊢
 try simp[hfl]
 refine ⟨fun h=>⟨h,.of (toTable_ok (x[i]?.getD dTable) (fun n hn=>hs n (List.mem_cons_of_mem _ (mem_flat (wt:=wTable) h hn)))) ?_⟩,fun h=>fillR_all _ _ (by simpa using h)⟩
 simp[mTable]
 try simp[hfl,h]
 refine .of _ (Gh.keep _ [0,3,4]) ⟨i+1,by omega, ?_⟩ ?_
 ·have:=fillR_set [.sc (.string ⟨#[]⟩),.ls [.sc (.string ⟨#[]⟩),.sc (.int .i64 0),.sc (.bool false),.sc (.bool false),.sc (.int .i64 0),.sc (.int .i64 0),.sc (.string ⟨#[]⟩)] [],.ls [.sc (.string ⟨#[]⟩)] []] (x.map eTable) (i:=i) (by simpa using h)
  simp[wrapS (show i<9223372036854775807 by omega),vTableS,eTable,h] at this⊢
  rw[←this]
 ·simp[wrapS (show i<9223372036854775807 by omega)];omega
theorem eqTableS_ok (x:List GTable) (hs: ∀n∈wTableS x,n≤1048576):VC Tryz.prog 207 [vTableS x,vTableS x] [(false,[(.s,.sc (.bool true))])]:=by
 refine vc_of_ew good hm [0,1,4,10,5,14,26] Tryz.func207 rfl (by kernel_rfl) (by kernel_rfl) rfl ?_
 have hl:x.length≤1048576:=hs _ (by simp[wTableS])
 simp[Tryz.f207,vTableS]
 refine ew_loop (fun E=> ∃i:Nat,i≤x.length∧E= {nt:=27,sl:= [(0,vTableS x),(1,vTableS x),(5,int .i64 i)],bx:= [],rt:= []}) (fun E=>x.length- (E.num 5).toNat) _ (Gh.keep _ [0,1,5]) ⟨0,by omega,by simp[vTableS]⟩ ?_
 rintro E1 ⟨i,hi,rfl⟩
 simp[vTableS,eTable]
 intro h
 refine ⟨h,.of (eqTable_ok (x[i]?.getD dTable) (fun n hn=>hs n (List.mem_cons_of_mem _ (mem_flat (wt:=wTable) h hn)))) ?_⟩
 simp
 refine .of _ (Gh.keep _ [0,1,5]) ⟨i+1,by omega, ?_⟩ ?_
 ·simp[wrapS (show i<9223372036854775807 by omega),vTableS]
 ·simp[wrapS (show i<9223372036854775807 by omega)];omega
def ctTable (x:GTable):Nat:=1+ctColS x.fCols+ctStrS x.fKeys
def mkTable (k:Nat) (x:GTable):GTable:=⟨mkStr (k) x.fName,mkColS (k+1) x.fCols,mkStrS (k+1+ctColS x.fCols) x.fKeys⟩
theorem ctle_Table (x:GTable):ctTable x≤64+64* (wTable x).sum:=by
 have:=ctle_ColS x.fCols
 have:=ctle_StrS x.fKeys
 simp only[ctTable,wTable,List.sum_cons,List.sum_append,List.sum_nil]
 omega
def ctTableS (l:List GTable):Nat:=ctRw ctTable l
def mkTableS (k:Nat) (l:List GTable):List GTable:=mkRw mkTable ctTable k l
theorem ctle_TableS (l:List GTable):ctTableS l≤64* (wTableS l).sum:=by
 have:=ctRw_le64 ctTable wTable l (fun x _=>ctle_Table x)
 simp only[wTableS,List.sum_cons]
 exact this
theorem markTableS_ok (x:List GTable) (k:Nat) (k':Int) (hkk':k'=(k:Int)) (hk:k+ctTableS x≤4611686018427387904) (hs: ∀n∈wTableS x,n≤4611686018427387904):VM Tryz.prog 212 [.v false [.r [900]],int .i64 k'] [(.o 201 (fun _=> [.s,.o 236 (fun _=> [.s,.s,.s,.s,.s,.s,.s]),.o 9 (fun _=> [.s])]),.ls [.sc (.string ⟨#[]⟩),.ls [.sc (.string ⟨#[]⟩),.sc (.int .i64 0),.sc (.bool false),.sc (.bool false),.sc (.int .i64 0),.sc (.int .i64 0),.sc (.string ⟨#[]⟩)] [],.ls [.sc (.string ⟨#[]⟩)] []] (x.map eTable),.ls [.sc (.string ⟨#[]⟩),.ls [.sc (.string ⟨#[]⟩),.sc (.int .i64 0),.sc (.bool false),.sc (.bool false),.sc (.int .i64 0),.sc (.int .i64 0),.sc (.string ⟨#[]⟩)] [],.ls [.sc (.string ⟨#[]⟩)] []] ((mkTableS k x).map eTable))] (some ((k:Int)+(ctTableS x:Int))):=by
 subst hkk'
 have hl:x.length≤4611686018427387904:=hs _ (by simp[wTableS])
 refine vm_of_ew good hm [0,1,4,5,9,5000] Tryz.func212 rfl (by kernel_rfl) (by kernel_rfl) rfl fun pv=> ?_
 simp[Tryz.f212]
 refine ew_loop (fun E=> ∃ (i K:Nat) (M:List (GTable)),i≤x.length∧K=k+ctRw ctTable (x.take i)∧M=mixR mkTable ctTable k x i∧E= {nt:=35,sl:= [(0,.v false [.r [900]]),(1,int .i64 (K:Int)),(5,int .i64 i),(5000,.pin 900 [] (pv 900))],bx:= [],rt:= [(900,.o 201 (fun _=> [.s,.o 236 (fun _=> [.s,.s,.s,.s,.s,.s,.s]),.o 9 (fun _=> [.s])]),.ls [.sc (.string ⟨#[]⟩),.ls [.sc (.string ⟨#[]⟩),.sc (.int .i64 0),.sc (.bool false),.sc (.bool false),.sc (.int .i64 0),.sc (.int .i64 0),.sc (.string ⟨#[]⟩)] [],.ls [.sc (.string ⟨#[]⟩)] []] (M.map eTable))]}) (fun E=>x.length- (E.num 5).toNat) _ (Gh.kb _ [0,1,5,5000] [] [900]) ⟨0,k,x,by omega,by simp[ctRw],by simp[mixR_zero],by simp⟩ ?_
 rintro E1 ⟨i,K,M,hi,hK,hM,rfl⟩
 have hfl:M.length=x.length:=by rw[hM];exact mixR_len mkTable ctTable k x i
 have hct:=ctRw_le ctTable x i
 simp only[ctTableS] at hk
 simp[hfl]
 refine ⟨fun h=> ?_,fun h=> ?_⟩
 ·have hg:M[i]? =x[i]? :=by rw[hM];exact mixR_get mkTable ctTable k x i h
  have hst:=mixR_set mkTable ctTable k x i (dTable) h
  have hc1:=ctRw_lt ctTable (dTable) h
  have hs1:ctRw ctTable (x.take (i+1))=ctRw ctTable (x.take i)+ctTable (x[i]?.getD (dTable)):=ctRw_succ ctTable (dTable) h
  have hxi:x[i]? =some (x[i]?.getD (dTable)):=by rw[List.getElem?_eq_getElem h];rfl
  have hy:(x[i]?.getD (dTable))∈x:=getD_mem _ h
  rw[hxi] at hg
  rw[←hK,←hM] at hst
  generalize (x[i]?.getD (dTable))=y at*
  have hg': ∀h',M[i]'h'=y:=fun h'=>by simpa [List.getElem?_eq_getElem h'] using hg
  have hse: ∀n∈wTable y,n≤4611686018427387904:=fun n hn=>hs n (List.mem_cons_of_mem _ (List.mem_flatMap.2 ⟨y,hy,hn⟩))
  simp only[ctTable] at hc1 hs1
  simp[md,lf,hg',hg,h,hfl,eTable]
  refine .of (markText_ok _ (K) (by omega) (by omega)) ?_
  have w0:IntKind.i64.wrap ((K:Int)+1)=(K:Int)+1:=(wrapI (by omega) (by omega)).trans (by omega)
  simp[md,lf,hg',hg,h,hfl,eTable,w0]
  refine .mut (markColS_ok y.fCols (K+1) ((K:Int)+1) (by omega) (by omega) (fun n hn=>hse n (by simp[wTable,hn]))) ?_
  simp[md,lf,hg',hg,h,hfl,eTable,w0]
  refine .mut (markStrS_ok y.fKeys (K+1+ctColS y.fCols) ((K:Int)+1+(ctColS y.fCols:Int)) (by omega) (by omega) (fun n hn=>hse n (by simp[wTable,hn]))) ?_
  simp[md,lf,hg',hg,h,hfl,eTable,w0]
  have e1:(k:Int)+(ctRw ctTable (x.take (i+1)):Int)=(K:Int)+1+(ctColS y.fCols:Int)+(ctStrS y.fKeys:Int):=by omega
  refine .of _ (Gh.kb _ [0,1,5,5000] [] [900]) ⟨i+1,by omega, ?_⟩ ?_
  ·simp[wrapS (show i<9223372036854775807 by omega),e1,←hst,List.map_set,mkTable,mkStr,eTable,wrapU8]
  ·simp[wrapS (show i<9223372036854775807 by omega)];omega
 ·have:i=x.length:=by omega
  subst this
  subst hM
  subst hK
  simp[mixR_all,ctTableS,mkTableS]
structure GCat where
 fTables:List GTable
def cCat (x:GCat):List LV:= [.s (.ls [.sc (.string ⟨#[]⟩),.ls [.sc (.string ⟨#[]⟩),.sc (.int .i64 0),.sc (.bool false),.sc (.bool false),.sc (.int .i64 0),.sc (.int .i64 0),.sc (.string ⟨#[]⟩)] [],.ls [.sc (.string ⟨#[]⟩)] []] (x.fTables.map eTable))]
def vCat (x:GCat):SV:= .v true [.s (.ls [.sc (.string ⟨#[]⟩),.ls [.sc (.string ⟨#[]⟩),.sc (.int .i64 0),.sc (.bool false),.sc (.bool false),.sc (.int .i64 0),.sc (.int .i64 0),.sc (.string ⟨#[]⟩)] [],.ls [.sc (.string ⟨#[]⟩)] []] (x.fTables.map eTable))]
def dCat:GCat:=⟨[]⟩
def wCat (x:GCat):List Nat:=wTableS x.fTables++([])
def okCat (x:GCat):Prop:=okTableS x.fTables∧True
theorem okw_Cat (x:GCat) (h:okCat x): ∀n∈wCat x,okM n:=by
 obtain ⟨h0,_⟩:=h
 intro n hn
 simp only[wCat,List.mem_cons,List.mem_append,List.not_mem_nil,or_false,false_or] at hn
 rcases hn with hn
 ·exact okw_TableS _ h0 n hn
def mCat (x:GCat):ML:= [(.o 201 (fun _=> [.s,.o 236 (fun _=> [.s,.s,.s,.s,.s,.s,.s]),.o 9 (fun _=> [.s])]),.ls [.sc (.string ⟨#[]⟩),.ls [.sc (.string ⟨#[]⟩),.sc (.int .i64 0),.sc (.bool false),.sc (.bool false),.sc (.int .i64 0),.sc (.int .i64 0),.sc (.string ⟨#[]⟩)] [],.ls [.sc (.string ⟨#[]⟩)] []] (x.fTables.map eTable))]
theorem szCat_ok (x:GCat) (left:Int) (h0:0≤left) (h1:left≤1048576) (hs: ∀n∈wCat x,okM n):VC Tryz.prog 82 [vCat x,int .i64 left] [(false,[(.s,.sc (.int .i64 (szL (wCat x) left)))])]:=by
 refine vc_of_ew good hm [0,1,2,4,10] Tryz.func82 rfl (by kernel_rfl) (by kernel_rfl) rfl ?_
 simp[Tryz.f82,vCat]
 refine .of (szTableS_ok x.fTables left (by omega) (by omega) (fun n hn=>hs n (by simp[wCat,hn]))) ?_
 simp
 have hb0:=szL_le' (l:=wTableS x.fTables) (left:=left) (by omega)
 have hc0:=szL_neg (wTableS x.fTables) left (by omega)
 by_cases hn:(szL (wTableS x.fTables) left)<0
 ·have e:szL (wCat x) left= -1:=by rw[wCat,szL_app _ _ _ h0,if_pos hn]
  rw[e]
  try omega
 ·have e:szL (wCat x) left=(szL (wTableS x.fTables) left):=by rw[wCat,szL_app _ _ _ h0,if_neg hn];rfl
  rw[e]
  try omega
theorem toCat_ok (x:GCat) (hs: ∀n∈wCat x,n≤1048576):VC Tryz.prog 89 [vCat x] [(true,mCat x)]:=by
 refine vc_of_ew good hm [0,1,2,3] Tryz.func89 rfl (by kernel_rfl) (by kernel_rfl) rfl ?_
 simp[Tryz.f89,vCat,mCat]
 refine .of (toTableS_ok x.fTables (fun n hn=>hs n (by simp[wCat,hn]))) ?_
 simp[mTableS]
theorem eqCat_ok (x:GCat) (hs: ∀n∈wCat x,n≤1048576):VC Tryz.prog 98 [vCat x,vCat x] [(false,[(.s,.sc (.bool true))])]:=by
 refine vc_of_ew good hm [0,1,2,3,4,10] Tryz.func98 rfl (by kernel_rfl) (by kernel_rfl) rfl ?_
 simp[Tryz.f98,vCat]
 refine .of (eqTableS_ok x.fTables (fun n hn=>hs n (by simp[wCat,hn]))) ?_
 simp
def cvCat (x:GCat):Nat:=ctTableS x.fTables
def mvCat (k:Nat) (x:GCat):GCat:= {x with fTables:=mkTableS (k) x.fTables}
theorem cvle_Cat (x:GCat):cvCat x≤64* (wCat x).sum:=by
 have:=ctle_TableS x.fTables
 simp only[cvCat,wCat,List.sum_cons,List.sum_append,List.sum_nil]
 omega
theorem markVCat_ok (x:GCat) (k:Nat) (k':Int) (hkk':k'=(k:Int)) (hk:k+cvCat x≤4611686018427387904) (hs: ∀n∈wCat x,n≤4611686018427387904):VM Tryz.prog 101 [.v true [.r [900]],int .i64 k'] [(.o 201 (fun _=> [.s,.o 236 (fun _=> [.s,.s,.s,.s,.s,.s,.s]),.o 9 (fun _=> [.s])]),.ls [.sc (.string ⟨#[]⟩),.ls [.sc (.string ⟨#[]⟩),.sc (.int .i64 0),.sc (.bool false),.sc (.bool false),.sc (.int .i64 0),.sc (.int .i64 0),.sc (.string ⟨#[]⟩)] [],.ls [.sc (.string ⟨#[]⟩)] []] (x.fTables.map eTable),.ls [.sc (.string ⟨#[]⟩),.ls [.sc (.string ⟨#[]⟩),.sc (.int .i64 0),.sc (.bool false),.sc (.bool false),.sc (.int .i64 0),.sc (.int .i64 0),.sc (.string ⟨#[]⟩)] [],.ls [.sc (.string ⟨#[]⟩)] []] ((mvCat k x).fTables.map eTable))] (some ((k:Int)+(cvCat x:Int))):=by
 subst hkk'
 refine vm_of_ew good hm [0,1,2,4,5000] Tryz.func101 rfl (by kernel_rfl) (by kernel_rfl) rfl fun pv=> ?_
 simp only[cvCat] at hk
 simp[Tryz.f101,mvCat,cvCat]
 refine .mut (markTableS_ok x.fTables (k) ((k:Int)) (by omega) (by omega) (fun n hn=>hs n (by simp[wCat,hn]))) ?_
 simp[mvCat,mvDdl,mvRow,mvStmt,mvBatch]
def vRowS (l:List GRow):SV:=list [.ls [.sc (.int .i64 0),.sc (.int .i64 0),.sc (.string ⟨#[]⟩)] []] (l.map eRow)
def wRowS (l:List GRow):List Nat:=l.length::l.flatMap wRow
def okRowS (l:List GRow):Prop:=okM l.length∧ ∀a∈l,okRow a
theorem okw_RowS (l:List GRow) (h:okRowS l): ∀n∈wRowS l,okM n:=by
 intro n hn
 rcases List.mem_cons.1 hn with rfl|hn
 ·exact h.1
 ·obtain ⟨a,ha,hn⟩:=List.mem_flatMap.1 hn
  exact okw_Row a (h.2 a ha) n hn
def mRowS (x:List GRow):ML:= [(.o 120 (fun _=> [.o 234 (fun _=> [.s,.s,.s])]),.ls [.ls [.sc (.int .i64 0),.sc (.int .i64 0),.sc (.string ⟨#[]⟩)] []] (x.map eRow))]
@[simp] theorem ow_RowS (l:List GRow):Ow (.o 120 (fun _=> [.o 234 (fun _=> [.s,.s,.s])])) (.ls [.ls [.sc (.int .i64 0),.sc (.int .i64 0),.sc (.string ⟨#[]⟩)] []] (l.map eRow))=True:=eq_true (Ow_rows (fun x j hj=>match j,hj with|0,_=>of_eq_true (ow_ValS x.fVals)|n+1,hj=>absurd hj (by simp)) l)
@[simp] theorem full_RowS (l:List GRow):Full (.o 120 (fun _=> [.o 234 (fun _=> [.s,.s,.s])])) (.ls [.ls [.sc (.int .i64 0),.sc (.int .i64 0),.sc (.string ⟨#[]⟩)] []] (l.map eRow))=True:=eq_true (Full_rows (fun x j hj=>match j,hj with|0,_=>of_eq_true (full_ValS x.fVals)|n+1,hj=>absurd hj (by simp)) l)
theorem szRowS_ok (x:List GRow) (left:Int) (h0:0≤left) (h1:left≤1048576) (hs: ∀n∈wRowS x,okM n):VC Tryz.prog 276 [vRowS x,int .i64 left] [(false,[(.s,.sc (.int .i64 (szL (wRowS x) left)))])]:=by
 refine vc_of_ew good hm [0,1,4,11,5,15,25] Tryz.func276 rfl (by kernel_rfl) (by kernel_rfl) rfl ?_
 have hl:x.length≤9223372036854775807:=hs _ (by simp[wRowS])
 simp[Tryz.f276,vRowS]
 rw[wrapI (i:=left-x.length) (by omega) (by omega)]
 refine ⟨fun h=>by simp[wRowS,szL,h],fun hk=> ?_⟩
 refine ew_loop (fun E=> ∃i:Nat,i≤x.length∧0≤szL ((x.take i).flatMap wRow) (left-x.length)∧E= {nt:=27,sl:= [(0,vRowS x),(1,int .i64 (szL ((x.take i).flatMap wRow) (left-x.length))),(5,int .i64 i)],bx:= [],rt:= []}) (fun E=>x.length- (E.num 5).toNat) _ (Gh.keep _ [0,1,5]) ⟨0,by omega,by simp[szL];omega,by simp[szL,vRowS]⟩ ?_
 rintro E1 ⟨i,hi,hr0,rfl⟩
 have hr1:=szL_le' (l:=(x.take i).flatMap wRow) (left:=left-x.length) (by omega)
 simp[vRowS,eRow]
 refine ⟨fun h=> ?_,fun h=> ?_⟩
 ·obtain ⟨q1,q2⟩:=szF_step wRow (dRow) h (by omega:0≤left-x.length) hr0
  have hm: ∀n∈wRow (x[i]?.getD (dRow)),okM n:=fun n hn=>hs n (List.mem_cons_of_mem _ (mem_flat h hn))
  have hn1:=szL_neg (wRow (x[i]?.getD (dRow))) _ hr0
  refine ⟨h,.of (szRow_ok _ _ hr0 (by omega) hm) ?_⟩
  simp
  refine ⟨fun h2=> ?_,fun h2=> .of _ (Gh.keep _ [0,1,5]) ⟨i+1,by omega, ?_, ?_⟩ ?_⟩
  ·rw[wRowS,szL,if_neg (by omega),q1 h2]
  ·rw[q2];exact h2
  ·rw[q2];simp[wrapS (show i<9223372036854775807 by omega)]
  ·simp[wrapS (show i<9223372036854775807 by omega)];omega
 ·rw[wRowS,szL,if_neg (by omega),List.take_of_length_le (by simpa using h)]
theorem toRowS_ok (x:List GRow) (hs: ∀n∈wRowS x,n≤1048576):VC Tryz.prog 295 [vRowS x] [(false,mRowS x)]:=by
 refine vc_of_ew good hm [0,2,3,4,11] Tryz.func295 rfl (by kernel_rfl) (by kernel_rfl) rfl ?_
 have hl:x.length≤1048576:=hs _ (by simp[wRowS])
 simp[Tryz.f295,vRowS,mRowS]
 refine ⟨by omega, ?_⟩
 refine ew_loop (fun E=> ∃i:Nat,i≤x.length∧E= {nt:=23,sl:= [(0,vRowS x),(3,.v false [.r [7]]),(4,int .i64 i)],bx:= [],rt:= [(7,.o 120 (fun _=> [.o 234 (fun _=> [.s,.s,.s])]),.ls [.ls [.sc (.int .i64 0),.sc (.int .i64 0),.sc (.string ⟨#[]⟩)] []] (fillR [.ls [.sc (.int .i64 0),.sc (.int .i64 0),.sc (.string ⟨#[]⟩)] []] (x.map eRow) i))]}) (fun E=>x.length- (E.num 4).toNat) _ (Gh.keep _ [0,3,4]) ⟨0,by omega,by simp[vRowS,fillR]⟩ ?_
 rintro E1 ⟨i,hi,rfl⟩
 have hfl:(fillR [.ls [.sc (.int .i64 0),.sc (.int .i64 0),.sc (.string ⟨#[]⟩)] []] (x.map eRow) i).length=x.length:=by rw[fillR_len _ _ (by simpa using hi)];simp
 simp[vRowS,eRow] at hfl⊢
 try simp[hfl]
 refine ⟨fun h=>⟨h,.of (toRow_ok (x[i]?.getD dRow) (fun n hn=>hs n (List.mem_cons_of_mem _ (mem_flat (wt:=wRow) h hn)))) ?_⟩,fun h=>fillR_all _ _ (by simpa using h)⟩
 simp[mRow]
 try simp[hfl,h]
 refine .of _ (Gh.keep _ [0,3,4]) ⟨i+1,by omega, ?_⟩ ?_
 ·have:=fillR_set [.ls [.sc (.int .i64 0),.sc (.int .i64 0),.sc (.string ⟨#[]⟩)] []] (x.map eRow) (i:=i) (by simpa using h)
  simp[wrapS (show i<9223372036854775807 by omega),vRowS,eRow,h] at this⊢
  rw[←this]
 ·simp[wrapS (show i<9223372036854775807 by omega)];omega
theorem eqRowS_ok (x:List GRow) (hs: ∀n∈wRowS x,n≤1048576):VC Tryz.prog 322 [vRowS x,vRowS x] [(false,[(.s,.sc (.bool true))])]:=by
 refine vc_of_ew good hm [0,1,4,10,5,14,26] Tryz.func322 rfl (by kernel_rfl) (by kernel_rfl) rfl ?_
 have hl:x.length≤1048576:=hs _ (by simp[wRowS])
 simp[Tryz.f322,vRowS]
 refine ew_loop (fun E=> ∃i:Nat,i≤x.length∧E= {nt:=27,sl:= [(0,vRowS x),(1,vRowS x),(5,int .i64 i)],bx:= [],rt:= []}) (fun E=>x.length- (E.num 5).toNat) _ (Gh.keep _ [0,1,5]) ⟨0,by omega,by simp[vRowS]⟩ ?_
 rintro E1 ⟨i,hi,rfl⟩
 simp[vRowS,eRow]
 intro h
 refine ⟨h,.of (eqRow_ok (x[i]?.getD dRow) (fun n hn=>hs n (List.mem_cons_of_mem _ (mem_flat (wt:=wRow) h hn)))) ?_⟩
 simp
 refine .of _ (Gh.keep _ [0,1,5]) ⟨i+1,by omega, ?_⟩ ?_
 ·simp[wrapS (show i<9223372036854775807 by omega),vRowS]
 ·simp[wrapS (show i<9223372036854775807 by omega)];omega
def ctRow (x:GRow):Nat:=0+ctValS x.fVals
def mkRow (k:Nat) (x:GRow):GRow:=⟨mkValS (k) x.fVals⟩
theorem ctle_Row (x:GRow):ctRow x≤64+64* (wRow x).sum:=by
 have:=ctle_ValS x.fVals
 simp only[ctRow,wRow,List.sum_cons,List.sum_append,List.sum_nil]
 omega
def ctRowS (l:List GRow):Nat:=ctRw ctRow l
def mkRowS (k:Nat) (l:List GRow):List GRow:=mkRw mkRow ctRow k l
theorem ctle_RowS (l:List GRow):ctRowS l≤64* (wRowS l).sum:=by
 have:=ctRw_le64 ctRow wRow l (fun x _=>ctle_Row x)
 simp only[wRowS,List.sum_cons]
 exact this
theorem markRowS_ok (x:List GRow) (k:Nat) (k':Int) (hkk':k'=(k:Int)) (hk:k+ctRowS x≤4611686018427387904) (hs: ∀n∈wRowS x,n≤4611686018427387904):VM Tryz.prog 213 [.v false [.r [900]],int .i64 k'] [(.o 120 (fun _=> [.o 234 (fun _=> [.s,.s,.s])]),.ls [.ls [.sc (.int .i64 0),.sc (.int .i64 0),.sc (.string ⟨#[]⟩)] []] (x.map eRow),.ls [.ls [.sc (.int .i64 0),.sc (.int .i64 0),.sc (.string ⟨#[]⟩)] []] ((mkRowS k x).map eRow))] (some ((k:Int)+(ctRowS x:Int))):=by
 subst hkk'
 have hl:x.length≤4611686018427387904:=hs _ (by simp[wRowS])
 refine vm_of_ew good hm [0,1,4,5,9,5000] Tryz.func213 rfl (by kernel_rfl) (by kernel_rfl) rfl fun pv=> ?_
 simp[Tryz.f213]
 refine ew_loop (fun E=> ∃ (i K:Nat) (M:List (GRow)),i≤x.length∧K=k+ctRw ctRow (x.take i)∧M=mixR mkRow ctRow k x i∧E= {nt:=20,sl:= [(0,.v false [.r [900]]),(1,int .i64 (K:Int)),(5,int .i64 i),(5000,.pin 900 [] (pv 900))],bx:= [],rt:= [(900,.o 120 (fun _=> [.o 234 (fun _=> [.s,.s,.s])]),.ls [.ls [.sc (.int .i64 0),.sc (.int .i64 0),.sc (.string ⟨#[]⟩)] []] (M.map eRow))]}) (fun E=>x.length- (E.num 5).toNat) _ (Gh.kb _ [0,1,5,5000] [] [900]) ⟨0,k,x,by omega,by simp[ctRw],by simp[mixR_zero],by simp⟩ ?_
 rintro E1 ⟨i,K,M,hi,hK,hM,rfl⟩
 have hfl:M.length=x.length:=by rw[hM];exact mixR_len mkRow ctRow k x i
 have hct:=ctRw_le ctRow x i
 simp only[ctRowS] at hk
 simp[hfl]
 refine ⟨fun h=> ?_,fun h=> ?_⟩
 ·have hg:M[i]? =x[i]? :=by rw[hM];exact mixR_get mkRow ctRow k x i h
  have hst:=mixR_set mkRow ctRow k x i (dRow) h
  have hc1:=ctRw_lt ctRow (dRow) h
  have hs1:ctRw ctRow (x.take (i+1))=ctRw ctRow (x.take i)+ctRow (x[i]?.getD (dRow)):=ctRw_succ ctRow (dRow) h
  have hxi:x[i]? =some (x[i]?.getD (dRow)):=by rw[List.getElem?_eq_getElem h];rfl
  have hy:(x[i]?.getD (dRow))∈x:=getD_mem _ h
  rw[hxi] at hg
  rw[←hK,←hM] at hst
  generalize (x[i]?.getD (dRow))=y at*
  have hg': ∀h',M[i]'h'=y:=fun h'=>by simpa [List.getElem?_eq_getElem h'] using hg
  have hse: ∀n∈wRow y,n≤4611686018427387904:=fun n hn=>hs n (List.mem_cons_of_mem _ (List.mem_flatMap.2 ⟨y,hy,hn⟩))
  simp only[ctRow] at hc1 hs1
  simp[md,lf,hg',hg,h,hfl,eRow]
  refine .mut (markValS_ok y.fVals (K) ((K:Int)) (by omega) (by omega) (fun n hn=>hse n (by simp[wRow,hn]))) ?_
  simp[md,lf,hg',hg,h,hfl,eRow]
  have e1:(k:Int)+(ctRw ctRow (x.take (i+1)):Int)=(K:Int)+(ctValS y.fVals:Int):=by omega
  refine .of _ (Gh.kb _ [0,1,5,5000] [] [900]) ⟨i+1,by omega, ?_⟩ ?_
  ·simp[wrapS (show i<9223372036854775807 by omega),e1,←hst,List.map_set,mkRow,eRow,wrapU8]
  ·simp[wrapS (show i<9223372036854775807 by omega)];omega
 ·have:i=x.length:=by omega
  subst this
  subst hM
  subst hK
  simp[mixR_all,ctRowS,mkRowS]
structure GRows where
 fRows:List GRow
def eRows (x:GRows):List Lf:= [.ls [.ls [.sc (.int .i64 0),.sc (.int .i64 0),.sc (.string ⟨#[]⟩)] []] (x.fRows.map eRow)]
def vRows (x:GRows):SV:= .v true [.s (.ls [.ls [.sc (.int .i64 0),.sc (.int .i64 0),.sc (.string ⟨#[]⟩)] []] (x.fRows.map eRow))]
def dRows:GRows:=⟨[]⟩
@[simp] theorem row_Rows (l:List GRows) (i:Nat):(Option.map eRows l[i]?).getD [.ls [.ls [.sc (.int .i64 0),.sc (.int .i64 0),.sc (.string ⟨#[]⟩)] []] []]=eRows (l[i]?.getD dRows):=by cases l[i]? <;>rfl
def wRows (x:GRows):List Nat:=wRowS x.fRows++([])
def okRows (x:GRows):Prop:=okRowS x.fRows∧True
theorem okw_Rows (x:GRows) (h:okRows x): ∀n∈wRows x,okM n:=by
 obtain ⟨h0,_⟩:=h
 intro n hn
 simp only[wRows,List.mem_cons,List.mem_append,List.not_mem_nil,or_false,false_or] at hn
 rcases hn with hn
 ·exact okw_RowS _ h0 n hn
theorem fit_Rows (ls:List Lf) (h:Fit ti ck 224 ls): ∃x:GRows,ls=eRows x∧okRows x:=by
 obtain ⟨c0,r0,rfl,h0,g0⟩:=All2.cons_inv h
 obtain ⟨a0,rfl,b0,b0'⟩:=h0.list eRow okRow fit_Row
 obtain rfl:=All2.nil_inv g0
 exact ⟨⟨a0⟩,rfl,⟨⟨b0,b0'⟩,trivial⟩⟩
def mRows (x:GRows):ML:= [(.o 120 (fun _=> [.o 234 (fun _=> [.s,.s,.s])]),.ls [.ls [.sc (.int .i64 0),.sc (.int .i64 0),.sc (.string ⟨#[]⟩)] []] (x.fRows.map eRow))]
theorem szRows_ok (x:GRows) (left:Int) (h0:0≤left) (h1:left≤1048576) (hs: ∀n∈wRows x,okM n):VC Tryz.prog 175 [vRows x,int .i64 left] [(false,[(.s,.sc (.int .i64 (szL (wRows x) left)))])]:=by
 refine vc_of_ew good hm [0,1,2,4,10] Tryz.func175 rfl (by kernel_rfl) (by kernel_rfl) rfl ?_
 simp[Tryz.f175,vRows]
 refine .of (szRowS_ok x.fRows left (by omega) (by omega) (fun n hn=>hs n (by simp[wRows,hn]))) ?_
 simp
 have hb0:=szL_le' (l:=wRowS x.fRows) (left:=left) (by omega)
 have hc0:=szL_neg (wRowS x.fRows) left (by omega)
 by_cases hn:(szL (wRowS x.fRows) left)<0
 ·have e:szL (wRows x) left= -1:=by rw[wRows,szL_app _ _ _ h0,if_pos hn]
  rw[e]
  try omega
 ·have e:szL (wRows x) left=(szL (wRowS x.fRows) left):=by rw[wRows,szL_app _ _ _ h0,if_neg hn];rfl
  rw[e]
  try omega
theorem toRows_ok (x:GRows) (hs: ∀n∈wRows x,n≤1048576):VC Tryz.prog 188 [vRows x] [(true,mRows x)]:=by
 refine vc_of_ew good hm [0,1,2,3] Tryz.func188 rfl (by kernel_rfl) (by kernel_rfl) rfl ?_
 simp[Tryz.f188,vRows,mRows]
 refine .of (toRowS_ok x.fRows (fun n hn=>hs n (by simp[wRows,hn]))) ?_
 simp[mRowS]
theorem eqRows_ok (x:GRows) (hs: ∀n∈wRows x,n≤1048576):VC Tryz.prog 208 [vRows x,vRows x] [(false,[(.s,.sc (.bool true))])]:=by
 refine vc_of_ew good hm [0,1,2,3,4,10] Tryz.func208 rfl (by kernel_rfl) (by kernel_rfl) rfl ?_
 simp[Tryz.f208,vRows]
 refine .of (eqRowS_ok x.fRows (fun n hn=>hs n (by simp[wRows,hn]))) ?_
 simp
def vRowsS (l:List GRows):SV:=list [.ls [.ls [.sc (.int .i64 0),.sc (.int .i64 0),.sc (.string ⟨#[]⟩)] []] []] (l.map eRows)
def wRowsS (l:List GRows):List Nat:=l.length::l.flatMap wRows
def okRowsS (l:List GRows):Prop:=okM l.length∧ ∀a∈l,okRows a
theorem okw_RowsS (l:List GRows) (h:okRowsS l): ∀n∈wRowsS l,okM n:=by
 intro n hn
 rcases List.mem_cons.1 hn with rfl|hn
 ·exact h.1
 ·obtain ⟨a,ha,hn⟩:=List.mem_flatMap.1 hn
  exact okw_Rows a (h.2 a ha) n hn
def mRowsS (x:List GRows):ML:= [(.o 205 (fun _=> [.o 120 (fun _=> [.o 234 (fun _=> [.s,.s,.s])])]),.ls [.ls [.ls [.sc (.int .i64 0),.sc (.int .i64 0),.sc (.string ⟨#[]⟩)] []] []] (x.map eRows))]
@[simp] theorem ow_RowsS (l:List GRows):Ow (.o 205 (fun _=> [.o 120 (fun _=> [.o 234 (fun _=> [.s,.s,.s])])])) (.ls [.ls [.ls [.sc (.int .i64 0),.sc (.int .i64 0),.sc (.string ⟨#[]⟩)] []] []] (l.map eRows))=True:=eq_true (Ow_rows (fun x j hj=>match j,hj with|0,_=>of_eq_true (ow_RowS x.fRows)|n+1,hj=>absurd hj (by simp)) l)
@[simp] theorem full_RowsS (l:List GRows):Full (.o 205 (fun _=> [.o 120 (fun _=> [.o 234 (fun _=> [.s,.s,.s])])])) (.ls [.ls [.ls [.sc (.int .i64 0),.sc (.int .i64 0),.sc (.string ⟨#[]⟩)] []] []] (l.map eRows))=True:=eq_true (Full_rows (fun x j hj=>match j,hj with|0,_=>of_eq_true (full_RowS x.fRows)|n+1,hj=>absurd hj (by simp)) l)
theorem szRowsS_ok (x:List GRows) (left:Int) (h0:0≤left) (h1:left≤1048576) (hs: ∀n∈wRowsS x,okM n):VC Tryz.prog 83 [vRowsS x,int .i64 left] [(false,[(.s,.sc (.int .i64 (szL (wRowsS x) left)))])]:=by
 refine vc_of_ew good hm [0,1,4,11,5,15,25] Tryz.func83 rfl (by kernel_rfl) (by kernel_rfl) rfl ?_
 have hl:x.length≤9223372036854775807:=hs _ (by simp[wRowsS])
 simp[Tryz.f83,vRowsS]
 rw[wrapI (i:=left-x.length) (by omega) (by omega)]
 refine ⟨fun h=>by simp[wRowsS,szL,h],fun hk=> ?_⟩
 refine ew_loop (fun E=> ∃i:Nat,i≤x.length∧0≤szL ((x.take i).flatMap wRows) (left-x.length)∧E= {nt:=27,sl:= [(0,vRowsS x),(1,int .i64 (szL ((x.take i).flatMap wRows) (left-x.length))),(5,int .i64 i)],bx:= [],rt:= []}) (fun E=>x.length- (E.num 5).toNat) _ (Gh.keep _ [0,1,5]) ⟨0,by omega,by simp[szL];omega,by simp[szL,vRowsS]⟩ ?_
 rintro E1 ⟨i,hi,hr0,rfl⟩
 have hr1:=szL_le' (l:=(x.take i).flatMap wRows) (left:=left-x.length) (by omega)
 simp[vRowsS,eRows]
 refine ⟨fun h=> ?_,fun h=> ?_⟩
 ·obtain ⟨q1,q2⟩:=szF_step wRows (dRows) h (by omega:0≤left-x.length) hr0
  have hm: ∀n∈wRows (x[i]?.getD (dRows)),okM n:=fun n hn=>hs n (List.mem_cons_of_mem _ (mem_flat h hn))
  have hn1:=szL_neg (wRows (x[i]?.getD (dRows))) _ hr0
  refine ⟨h,.of (szRows_ok _ _ hr0 (by omega) hm) ?_⟩
  simp
  refine ⟨fun h2=> ?_,fun h2=> .of _ (Gh.keep _ [0,1,5]) ⟨i+1,by omega, ?_, ?_⟩ ?_⟩
  ·rw[wRowsS,szL,if_neg (by omega),q1 h2]
  ·rw[q2];exact h2
  ·rw[q2];simp[wrapS (show i<9223372036854775807 by omega)]
  ·simp[wrapS (show i<9223372036854775807 by omega)];omega
 ·rw[wRowsS,szL,if_neg (by omega),List.take_of_length_le (by simpa using h)]
theorem toRowsS_ok (x:List GRows) (hs: ∀n∈wRowsS x,n≤1048576):VC Tryz.prog 90 [vRowsS x] [(false,mRowsS x)]:=by
 refine vc_of_ew good hm [0,2,3,4,11] Tryz.func90 rfl (by kernel_rfl) (by kernel_rfl) rfl ?_
 have hl:x.length≤1048576:=hs _ (by simp[wRowsS])
 simp[Tryz.f90,vRowsS,mRowsS]
 refine ⟨by omega, ?_⟩
 refine ew_loop (fun E=> ∃i:Nat,i≤x.length∧E= {nt:=23,sl:= [(0,vRowsS x),(3,.v false [.r [7]]),(4,int .i64 i)],bx:= [],rt:= [(7,.o 205 (fun _=> [.o 120 (fun _=> [.o 234 (fun _=> [.s,.s,.s])])]),.ls [.ls [.ls [.sc (.int .i64 0),.sc (.int .i64 0),.sc (.string ⟨#[]⟩)] []] []] (fillR [.ls [.ls [.sc (.int .i64 0),.sc (.int .i64 0),.sc (.string ⟨#[]⟩)] []] []] (x.map eRows) i))]}) (fun E=>x.length- (E.num 4).toNat) _ (Gh.keep _ [0,3,4]) ⟨0,by omega,by simp[vRowsS,fillR]⟩ ?_
 rintro E1 ⟨i,hi,rfl⟩
 have hfl:(fillR [.ls [.ls [.sc (.int .i64 0),.sc (.int .i64 0),.sc (.string ⟨#[]⟩)] []] []] (x.map eRows) i).length=x.length:=by rw[fillR_len _ _ (by simpa using hi)];simp
 simp[vRowsS,eRows] at hfl⊢
 try simp[hfl]
 refine ⟨fun h=>⟨h,.of (toRows_ok (x[i]?.getD dRows) (fun n hn=>hs n (List.mem_cons_of_mem _ (mem_flat (wt:=wRows) h hn)))) ?_⟩,fun h=>fillR_all _ _ (by simpa using h)⟩
 simp[mRows]
 try simp[hfl,h]
 refine .of _ (Gh.keep _ [0,3,4]) ⟨i+1,by omega, ?_⟩ ?_
 ·have:=fillR_set [.ls [.ls [.sc (.int .i64 0),.sc (.int .i64 0),.sc (.string ⟨#[]⟩)] []] []] (x.map eRows) (i:=i) (by simpa using h)
  simp[wrapS (show i<9223372036854775807 by omega),vRowsS,eRows,h] at this⊢
  rw[←this]
 ·simp[wrapS (show i<9223372036854775807 by omega)];omega
theorem eqRowsS_ok (x:List GRows) (hs: ∀n∈wRowsS x,n≤1048576):VC Tryz.prog 99 [vRowsS x,vRowsS x] [(false,[(.s,.sc (.bool true))])]:=by
 refine vc_of_ew good hm [0,1,4,10,5,14,26] Tryz.func99 rfl (by kernel_rfl) (by kernel_rfl) rfl ?_
 have hl:x.length≤1048576:=hs _ (by simp[wRowsS])
 simp[Tryz.f99,vRowsS]
 refine ew_loop (fun E=> ∃i:Nat,i≤x.length∧E= {nt:=27,sl:= [(0,vRowsS x),(1,vRowsS x),(5,int .i64 i)],bx:= [],rt:= []}) (fun E=>x.length- (E.num 5).toNat) _ (Gh.keep _ [0,1,5]) ⟨0,by omega,by simp[vRowsS]⟩ ?_
 rintro E1 ⟨i,hi,rfl⟩
 simp[vRowsS,eRows]
 intro h
 refine ⟨h,.of (eqRows_ok (x[i]?.getD dRows) (fun n hn=>hs n (List.mem_cons_of_mem _ (mem_flat (wt:=wRows) h hn)))) ?_⟩
 simp
 refine .of _ (Gh.keep _ [0,1,5]) ⟨i+1,by omega, ?_⟩ ?_
 ·simp[wrapS (show i<9223372036854775807 by omega),vRowsS]
 ·simp[wrapS (show i<9223372036854775807 by omega)];omega
def ctRows (x:GRows):Nat:=0+ctRowS x.fRows
def mkRows (k:Nat) (x:GRows):GRows:=⟨mkRowS (k) x.fRows⟩
theorem ctle_Rows (x:GRows):ctRows x≤64+64* (wRows x).sum:=by
 have:=ctle_RowS x.fRows
 simp only[ctRows,wRows,List.sum_cons,List.sum_append,List.sum_nil]
 omega
def ctRowsS (l:List GRows):Nat:=ctRw ctRows l
def mkRowsS (k:Nat) (l:List GRows):List GRows:=mkRw mkRows ctRows k l
theorem ctle_RowsS (l:List GRows):ctRowsS l≤64* (wRowsS l).sum:=by
 have:=ctRw_le64 ctRows wRows l (fun x _=>ctle_Rows x)
 simp only[wRowsS,List.sum_cons]
 exact this
theorem markRowsS_ok (x:List GRows) (k:Nat) (k':Int) (hkk':k'=(k:Int)) (hk:k+ctRowsS x≤4611686018427387904) (hs: ∀n∈wRowsS x,n≤4611686018427387904):VM Tryz.prog 102 [.v false [.r [900]],int .i64 k'] [(.o 205 (fun _=> [.o 120 (fun _=> [.o 234 (fun _=> [.s,.s,.s])])]),.ls [.ls [.ls [.sc (.int .i64 0),.sc (.int .i64 0),.sc (.string ⟨#[]⟩)] []] []] (x.map eRows),.ls [.ls [.ls [.sc (.int .i64 0),.sc (.int .i64 0),.sc (.string ⟨#[]⟩)] []] []] ((mkRowsS k x).map eRows))] (some ((k:Int)+(ctRowsS x:Int))):=by
 subst hkk'
 have hl:x.length≤4611686018427387904:=hs _ (by simp[wRowsS])
 refine vm_of_ew good hm [0,1,4,5,9,5000] Tryz.func102 rfl (by kernel_rfl) (by kernel_rfl) rfl fun pv=> ?_
 simp[Tryz.f102]
 refine ew_loop (fun E=> ∃ (i K:Nat) (M:List (GRows)),i≤x.length∧K=k+ctRw ctRows (x.take i)∧M=mixR mkRows ctRows k x i∧E= {nt:=20,sl:= [(0,.v false [.r [900]]),(1,int .i64 (K:Int)),(5,int .i64 i),(5000,.pin 900 [] (pv 900))],bx:= [],rt:= [(900,.o 205 (fun _=> [.o 120 (fun _=> [.o 234 (fun _=> [.s,.s,.s])])]),.ls [.ls [.ls [.sc (.int .i64 0),.sc (.int .i64 0),.sc (.string ⟨#[]⟩)] []] []] (M.map eRows))]}) (fun E=>x.length- (E.num 5).toNat) _ (Gh.kb _ [0,1,5,5000] [] [900]) ⟨0,k,x,by omega,by simp[ctRw],by simp[mixR_zero],by simp⟩ ?_
 rintro E1 ⟨i,K,M,hi,hK,hM,rfl⟩
 have hfl:M.length=x.length:=by rw[hM];exact mixR_len mkRows ctRows k x i
 have hct:=ctRw_le ctRows x i
 simp only[ctRowsS] at hk
 simp[hfl]
 refine ⟨fun h=> ?_,fun h=> ?_⟩
 ·have hg:M[i]? =x[i]? :=by rw[hM];exact mixR_get mkRows ctRows k x i h
  have hst:=mixR_set mkRows ctRows k x i (dRows) h
  have hc1:=ctRw_lt ctRows (dRows) h
  have hs1:ctRw ctRows (x.take (i+1))=ctRw ctRows (x.take i)+ctRows (x[i]?.getD (dRows)):=ctRw_succ ctRows (dRows) h
  have hxi:x[i]? =some (x[i]?.getD (dRows)):=by rw[List.getElem?_eq_getElem h];rfl
  have hy:(x[i]?.getD (dRows))∈x:=getD_mem _ h
  rw[hxi] at hg
  rw[←hK,←hM] at hst
  generalize (x[i]?.getD (dRows))=y at*
  have hg': ∀h',M[i]'h'=y:=fun h'=>by simpa [List.getElem?_eq_getElem h'] using hg
  have hse: ∀n∈wRows y,n≤4611686018427387904:=fun n hn=>hs n (List.mem_cons_of_mem _ (List.mem_flatMap.2 ⟨y,hy,hn⟩))
  simp only[ctRows] at hc1 hs1
  simp[md,lf,hg',hg,h,hfl,eRows]
  refine .mut (markRowS_ok y.fRows (K) ((K:Int)) (by omega) (by omega) (fun n hn=>hse n (by simp[wRows,hn]))) ?_
  simp[md,lf,hg',hg,h,hfl,eRows]
  have e1:(k:Int)+(ctRw ctRows (x.take (i+1)):Int)=(K:Int)+(ctRowS y.fRows:Int):=by omega
  refine .of _ (Gh.kb _ [0,1,5,5000] [] [900]) ⟨i+1,by omega, ?_⟩ ?_
  ·simp[wrapS (show i<9223372036854775807 by omega),e1,←hst,List.map_set,mkRows,eRows,wrapU8]
  ·simp[wrapS (show i<9223372036854775807 by omega)];omega
 ·have:i=x.length:=by omega
  subst this
  subst hM
  subst hK
  simp[mixR_all,ctRowsS,mkRowsS]
structure GDb where
 fCat:GCat
 fData:List GRows
def cDb (x:GDb):List LV:= [.s (.ls [.sc (.string ⟨#[]⟩),.ls [.sc (.string ⟨#[]⟩),.sc (.int .i64 0),.sc (.bool false),.sc (.bool false),.sc (.int .i64 0),.sc (.int .i64 0),.sc (.string ⟨#[]⟩)] [],.ls [.sc (.string ⟨#[]⟩)] []] (x.fCat.fTables.map eTable)),.s (.ls [.ls [.ls [.sc (.int .i64 0),.sc (.int .i64 0),.sc (.string ⟨#[]⟩)] []] []] (x.fData.map eRows))]
def vDb (x:GDb):SV:= .v true [.s (.ls [.sc (.string ⟨#[]⟩),.ls [.sc (.string ⟨#[]⟩),.sc (.int .i64 0),.sc (.bool false),.sc (.bool false),.sc (.int .i64 0),.sc (.int .i64 0),.sc (.string ⟨#[]⟩)] [],.ls [.sc (.string ⟨#[]⟩)] []] (x.fCat.fTables.map eTable)),.s (.ls [.ls [.ls [.sc (.int .i64 0),.sc (.int .i64 0),.sc (.string ⟨#[]⟩)] []] []] (x.fData.map eRows))]
def dDb:GDb:=⟨⟨[]⟩,[]⟩
def wDb (x:GDb):List Nat:=wCat x.fCat++(wRowsS x.fData++([]))
def okDb (x:GDb):Prop:=okCat x.fCat∧okRowsS x.fData∧True
theorem okw_Db (x:GDb) (h:okDb x): ∀n∈wDb x,okM n:=by
 obtain ⟨h0,h1,_⟩:=h
 intro n hn
 simp only[wDb,List.mem_cons,List.mem_append,List.not_mem_nil,or_false,false_or] at hn
 rcases hn with hn|hn
 ·exact okw_Cat _ h0 n hn
 ·exact okw_RowsS _ h1 n hn
def mDb (x:GDb):ML:= [(.o 201 (fun _=> [.s,.o 236 (fun _=> [.s,.s,.s,.s,.s,.s,.s]),.o 9 (fun _=> [.s])]),.ls [.sc (.string ⟨#[]⟩),.ls [.sc (.string ⟨#[]⟩),.sc (.int .i64 0),.sc (.bool false),.sc (.bool false),.sc (.int .i64 0),.sc (.int .i64 0),.sc (.string ⟨#[]⟩)] [],.ls [.sc (.string ⟨#[]⟩)] []] (x.fCat.fTables.map eTable)),(.o 205 (fun _=> [.o 120 (fun _=> [.o 234 (fun _=> [.s,.s,.s])])]),.ls [.ls [.ls [.sc (.int .i64 0),.sc (.int .i64 0),.sc (.string ⟨#[]⟩)] []] []] (x.fData.map eRows))]
theorem szDb_ok (x:GDb) (left:Int) (h0:0≤left) (h1:left≤1048576) (hs: ∀n∈wDb x,okM n):VC Tryz.prog 14 [vDb x,int .i64 left] [(false,[(.s,.sc (.int .i64 (szL (wDb x) left)))])]:=by
 refine vc_of_ew good hm [0,1,2,4,10,16] Tryz.func14 rfl (by kernel_rfl) (by kernel_rfl) rfl ?_
 simp[Tryz.f14,vDb]
 refine .of (szCat_ok x.fCat left (by omega) (by omega) (fun n hn=>hs n (by simp[wDb,hn]))) ?_
 simp
 have hb0:=szL_le' (l:=wCat x.fCat) (left:=left) (by omega)
 have hc0:=szL_neg (wCat x.fCat) left (by omega)
 refine ⟨fun hn=> ?_,fun hk0=> ?_⟩
 ·have e:szL (wDb x) left= -1:=by rw[wDb,szL_app _ _ _ h0,if_pos (by omega)]
  rw[e]
  try omega
 have hq0: ¬(szL (wCat x.fCat) left)<0:=by omega
 have hz0:0≤(szL (wCat x.fCat) left):=by omega
 refine .of (szRowsS_ok x.fData (szL (wCat x.fCat) left) (by omega) (by omega) (fun n hn=>hs n (by simp[wDb,hn]))) ?_
 simp
 have hb1:=szL_le' (l:=wRowsS x.fData) (left:=(szL (wCat x.fCat) left)) (by omega)
 have hc1:=szL_neg (wRowsS x.fData) (szL (wCat x.fCat) left) (by omega)
 by_cases hn:(szL (wRowsS x.fData) (szL (wCat x.fCat) left))<0
 ·have e:szL (wDb x) left= -1:=by rw[wDb,szL_app _ _ _ h0,if_neg hq0,szL_app _ _ _ hz0,if_pos hn]
  rw[e]
  try omega
 ·have e:szL (wDb x) left=(szL (wRowsS x.fData) (szL (wCat x.fCat) left)):=by rw[wDb,szL_app _ _ _ h0,if_neg hq0,szL_app _ _ _ hz0,if_neg hn];rfl
  rw[e]
  try omega
theorem toDb_ok (x:GDb) (hs: ∀n∈wDb x,n≤1048576):VC Tryz.prog 17 [vDb x] [(true,mDb x)]:=by
 refine vc_of_ew good hm [0,1,2,3] Tryz.func17 rfl (by kernel_rfl) (by kernel_rfl) rfl ?_
 simp[Tryz.f17,vDb,mDb]
 refine .of (toCat_ok x.fCat (fun n hn=>hs n (by simp[wDb,hn]))) ?_
 simp[mCat]
 refine .of (toRowsS_ok x.fData (fun n hn=>hs n (by simp[wDb,hn]))) ?_
 simp[mRowsS]
theorem eqDb_ok (x:GDb) (hs: ∀n∈wDb x,n≤1048576):VC Tryz.prog 21 [vDb x,vDb x] [(false,[(.s,.sc (.bool true))])]:=by
 refine vc_of_ew good hm [0,1,2,3,4,10,16] Tryz.func21 rfl (by kernel_rfl) (by kernel_rfl) rfl ?_
 simp[Tryz.f21,vDb]
 refine .of (eqCat_ok x.fCat (fun n hn=>hs n (by simp[wDb,hn]))) ?_
 simp
 refine .of (eqRowsS_ok x.fData (fun n hn=>hs n (by simp[wDb,hn]))) ?_
 simp
def cvDb (x:GDb):Nat:=cvCat x.fCat+ctRowsS x.fData
def mvDb (k:Nat) (x:GDb):GDb:= {x with fCat:=mvCat (k) x.fCat,fData:=mkRowsS (k+cvCat x.fCat) x.fData}
theorem cvle_Db (x:GDb):cvDb x≤64* (wDb x).sum:=by
 have:=cvle_Cat x.fCat
 have:=ctle_RowsS x.fData
 simp only[cvDb,wDb,List.sum_cons,List.sum_append,List.sum_nil]
 omega
theorem markVDb_ok (x:GDb) (k:Nat) (k':Int) (hkk':k'=(k:Int)) (hk:k+cvDb x≤4611686018427387904) (hs: ∀n∈wDb x,n≤4611686018427387904):VM Tryz.prog 23 [.v true [.r [900],.r [901]],int .i64 k'] [(.o 201 (fun _=> [.s,.o 236 (fun _=> [.s,.s,.s,.s,.s,.s,.s]),.o 9 (fun _=> [.s])]),.ls [.sc (.string ⟨#[]⟩),.ls [.sc (.string ⟨#[]⟩),.sc (.int .i64 0),.sc (.bool false),.sc (.bool false),.sc (.int .i64 0),.sc (.int .i64 0),.sc (.string ⟨#[]⟩)] [],.ls [.sc (.string ⟨#[]⟩)] []] (x.fCat.fTables.map eTable),.ls [.sc (.string ⟨#[]⟩),.ls [.sc (.string ⟨#[]⟩),.sc (.int .i64 0),.sc (.bool false),.sc (.bool false),.sc (.int .i64 0),.sc (.int .i64 0),.sc (.string ⟨#[]⟩)] [],.ls [.sc (.string ⟨#[]⟩)] []] ((mvDb k x).fCat.fTables.map eTable)),(.o 205 (fun _=> [.o 120 (fun _=> [.o 234 (fun _=> [.s,.s,.s])])]),.ls [.ls [.ls [.sc (.int .i64 0),.sc (.int .i64 0),.sc (.string ⟨#[]⟩)] []] []] (x.fData.map eRows),.ls [.ls [.ls [.sc (.int .i64 0),.sc (.int .i64 0),.sc (.string ⟨#[]⟩)] []] []] ((mvDb k x).fData.map eRows))] (some ((k:Int)+(cvDb x:Int))):=by
 subst hkk'
 refine vm_of_ew good hm [0,1,2,4,5000,5001] Tryz.func23 rfl (by kernel_rfl) (by kernel_rfl) rfl fun pv=> ?_
 simp only[cvDb] at hk
 simp[Tryz.f23,mvDb,cvDb]
 refine .mut (markVCat_ok x.fCat (k) ((k:Int)) (by omega) (by omega) (fun n hn=>hs n (by simp[wDb,hn]))) ?_
 simp[mvCat,mvDdl,mvRow,mvStmt,mvDb,mvBatch]
 refine .mut (markRowsS_ok x.fData (k+cvCat x.fCat) ((k:Int)+(cvCat x.fCat:Int)) (by omega) (by omega) (fun n hn=>hs n (by simp[wDb,hn]))) ?_
 simp[mvCat,mvDdl,mvRow,mvStmt,mvDb,mvBatch]
 try omega
structure GFol where
 fDb:GDb
 fAt:Int
 fHalt:Int
def mvFol (k:Nat) (x:GFol):GFol:= {x with fDb:=mvDb (k) x.fDb}
@[simp] theorem ow_ByteS (l:List UInt8):Ow (.o 5 (fun _=> [.s])) (.ls [.sc (.int .u8 0)] (l.map eByte))=True:=eq_true (Ow_rows (fun x j hj=>match j,hj with|0,_=> .sc|n+1,hj=>absurd hj (by simp)) l)
@[simp] theorem full_ByteS (l:List UInt8):Full (.o 5 (fun _=> [.s])) (.ls [.sc (.int .u8 0)] (l.map eByte))=True:=eq_true (Full_rows (fun x j hj=>match j,hj with|0,_=> .s|n+1,hj=>absurd hj (by simp)) l)
def mkByteS (k:Nat) (l:List UInt8):List UInt8:=mkRw mkByte ctByte k l
structure GPack where
 fBytes:List UInt8
def mvPack (k:Nat) (x:GPack):GPack:= {x with fBytes:=mkByteS (k) x.fBytes}
structure GRec where
 fKind:Int
 fXid:Int
 fStmt:GStmt
def eRec (x:GRec):List Lf:= [.sc (.int .i64 x.fKind),.sc (.int .i64 x.fXid),.sc (.int .i64 x.fStmt.fKind),.sc (.string x.fStmt.fTable),.ls [.sc (.int .i64 0),.sc (.int .i64 0),.sc (.string ⟨#[]⟩)] (x.fStmt.fKey.map eVal),.ls [.sc (.int .i64 0),.sc (.int .i64 0),.sc (.string ⟨#[]⟩)] (x.fStmt.fRow.fVals.map eVal),.sc (.int .i64 x.fStmt.fDdl.fKind),.sc (.string x.fStmt.fDdl.fTable),.ls [.sc (.string ⟨#[]⟩),.sc (.int .i64 0),.sc (.bool false),.sc (.bool false),.sc (.int .i64 0),.sc (.int .i64 0),.sc (.string ⟨#[]⟩)] (x.fStmt.fDdl.fCols.map eCol),.ls [.sc (.string ⟨#[]⟩)] (x.fStmt.fDdl.fKeys.map eStr),.sc (.string x.fStmt.fDdl.fName),.sc (.string x.fStmt.fDdl.fTo)]
def vRec (x:GRec):SV:= .v true [.s (.sc (.int .i64 x.fKind)),.s (.sc (.int .i64 x.fXid)),.s (.sc (.int .i64 x.fStmt.fKind)),.s (.sc (.string x.fStmt.fTable)),.s (.ls [.sc (.int .i64 0),.sc (.int .i64 0),.sc (.string ⟨#[]⟩)] (x.fStmt.fKey.map eVal)),.s (.ls [.sc (.int .i64 0),.sc (.int .i64 0),.sc (.string ⟨#[]⟩)] (x.fStmt.fRow.fVals.map eVal)),.s (.sc (.int .i64 x.fStmt.fDdl.fKind)),.s (.sc (.string x.fStmt.fDdl.fTable)),.s (.ls [.sc (.string ⟨#[]⟩),.sc (.int .i64 0),.sc (.bool false),.sc (.bool false),.sc (.int .i64 0),.sc (.int .i64 0),.sc (.string ⟨#[]⟩)] (x.fStmt.fDdl.fCols.map eCol)),.s (.ls [.sc (.string ⟨#[]⟩)] (x.fStmt.fDdl.fKeys.map eStr)),.s (.sc (.string x.fStmt.fDdl.fName)),.s (.sc (.string x.fStmt.fDdl.fTo))]
def dRec:GRec:=⟨0,0,⟨0,⟨#[]⟩,[],⟨[]⟩,⟨0,⟨#[]⟩,[],[],⟨#[]⟩,⟨#[]⟩⟩⟩⟩
@[simp] theorem row_Rec (l:List GRec) (i:Nat):(Option.map eRec l[i]?).getD [.sc (.int .i64 0),.sc (.int .i64 0),.sc (.int .i64 0),.sc (.string ⟨#[]⟩),.ls [.sc (.int .i64 0),.sc (.int .i64 0),.sc (.string ⟨#[]⟩)] [],.ls [.sc (.int .i64 0),.sc (.int .i64 0),.sc (.string ⟨#[]⟩)] [],.sc (.int .i64 0),.sc (.string ⟨#[]⟩),.ls [.sc (.string ⟨#[]⟩),.sc (.int .i64 0),.sc (.bool false),.sc (.bool false),.sc (.int .i64 0),.sc (.int .i64 0),.sc (.string ⟨#[]⟩)] [],.ls [.sc (.string ⟨#[]⟩)] [],.sc (.string ⟨#[]⟩),.sc (.string ⟨#[]⟩)]=eRec (l[i]?.getD dRec):=by cases l[i]? <;>rfl
def wRec (x:GRec):List Nat:=wStmt x.fStmt++([])
def okRec (x:GRec):Prop:=okI x.fKind∧okI x.fXid∧okStmt x.fStmt∧True
theorem okw_Rec (x:GRec) (h:okRec x): ∀n∈wRec x,okM n:=by
 obtain ⟨h0,h1,h2,_⟩:=h
 intro n hn
 simp only[wRec,List.mem_cons,List.mem_append,List.not_mem_nil,or_false,false_or] at hn
 rcases hn with hn
 ·exact okw_Stmt _ h2 n hn
theorem fit_Rec (ls:List Lf) (h:Fit ti ck 171 ls): ∃x:GRec,ls=eRec x∧okRec x:=by
 obtain ⟨c0,r0,rfl,h0,g0⟩:=All2.cons_inv h
 obtain ⟨a0,rfl,b0⟩:=h0.int_inv
 obtain ⟨c1,r1,rfl,h1,g1⟩:=All2.cons_inv g0
 obtain ⟨a1,rfl,b1⟩:=h1.int_inv
 obtain ⟨c2,r2,rfl,h2,g2⟩:=All2.cons_inv g1
 obtain ⟨a2,rfl,b2⟩:=h2.int_inv
 obtain ⟨c3,r3,rfl,h3,g3⟩:=All2.cons_inv g2
 obtain ⟨a3,rfl,b3⟩:=h3.str_inv
 obtain ⟨c4,r4,rfl,h4,g4⟩:=All2.cons_inv g3
 obtain ⟨a4,rfl,b4,b4'⟩:=h4.list eVal okVal fit_Val
 obtain ⟨c5,r5,rfl,h5,g5⟩:=All2.cons_inv g4
 obtain ⟨a5,rfl,b5,b5'⟩:=h5.list eVal okVal fit_Val
 obtain ⟨c6,r6,rfl,h6,g6⟩:=All2.cons_inv g5
 obtain ⟨a6,rfl,b6⟩:=h6.int_inv
 obtain ⟨c7,r7,rfl,h7,g7⟩:=All2.cons_inv g6
 obtain ⟨a7,rfl,b7⟩:=h7.str_inv
 obtain ⟨c8,r8,rfl,h8,g8⟩:=All2.cons_inv g7
 obtain ⟨a8,rfl,b8,b8'⟩:=h8.list eCol okCol fit_Col
 obtain ⟨c9,r9,rfl,h9,g9⟩:=All2.cons_inv g8
 obtain ⟨a9,rfl,b9,b9'⟩:=h9.list eStr okStr fit_Str
 obtain ⟨c10,r10,rfl,h10,g10⟩:=All2.cons_inv g9
 obtain ⟨a10,rfl,b10⟩:=h10.str_inv
 obtain ⟨c11,r11,rfl,h11,g11⟩:=All2.cons_inv g10
 obtain ⟨a11,rfl,b11⟩:=h11.str_inv
 obtain rfl:=All2.nil_inv g11
 exact ⟨⟨a0,a1,⟨a2,a3,a4,⟨a5⟩,⟨a6,a7,a8,a9,a10,a11⟩⟩⟩,rfl,⟨okI_wf b0,okI_wf b1,⟨okI_wf b2,b3,⟨b4,b4'⟩,⟨⟨b5,b5'⟩,trivial⟩,⟨okI_wf b6,b7,⟨b8,b8'⟩,⟨b9,b9'⟩,b10,b11,trivial⟩,trivial⟩,trivial⟩⟩
def mRec (x:GRec):ML:= [(.s,.sc (.int .i64 x.fKind)),(.s,.sc (.int .i64 x.fXid)),(.s,.sc (.int .i64 x.fStmt.fKind)),(.s,.sc (.string x.fStmt.fTable)),(.o 234 (fun _=> [.s,.s,.s]),.ls [.sc (.int .i64 0),.sc (.int .i64 0),.sc (.string ⟨#[]⟩)] (x.fStmt.fKey.map eVal)),(.o 234 (fun _=> [.s,.s,.s]),.ls [.sc (.int .i64 0),.sc (.int .i64 0),.sc (.string ⟨#[]⟩)] (x.fStmt.fRow.fVals.map eVal)),(.s,.sc (.int .i64 x.fStmt.fDdl.fKind)),(.s,.sc (.string x.fStmt.fDdl.fTable)),(.o 236 (fun _=> [.s,.s,.s,.s,.s,.s,.s]),.ls [.sc (.string ⟨#[]⟩),.sc (.int .i64 0),.sc (.bool false),.sc (.bool false),.sc (.int .i64 0),.sc (.int .i64 0),.sc (.string ⟨#[]⟩)] (x.fStmt.fDdl.fCols.map eCol)),(.o 9 (fun _=> [.s]),.ls [.sc (.string ⟨#[]⟩)] (x.fStmt.fDdl.fKeys.map eStr)),(.s,.sc (.string x.fStmt.fDdl.fName)),(.s,.sc (.string x.fStmt.fDdl.fTo))]
theorem szRec_ok (x:GRec) (left:Int) (h0:0≤left) (h1:left≤1048576) (hs: ∀n∈wRec x,okM n):VC Tryz.prog 110 [vRec x,int .i64 left] [(false,[(.s,.sc (.int .i64 (szL (wRec x) left)))])]:=by
 refine vc_of_ew good hm [0,1,2,4,10] Tryz.func110 rfl (by kernel_rfl) (by kernel_rfl) rfl ?_
 simp[Tryz.f110,vRec]
 refine .of (szStmt_ok x.fStmt left (by omega) (by omega) (fun n hn=>hs n (by simp[wRec,hn]))) ?_
 simp
 have hb0:=szL_le' (l:=wStmt x.fStmt) (left:=left) (by omega)
 have hc0:=szL_neg (wStmt x.fStmt) left (by omega)
 by_cases hn:(szL (wStmt x.fStmt) left)<0
 ·have e:szL (wRec x) left= -1:=by rw[wRec,szL_app _ _ _ h0,if_pos hn]
  rw[e]
  try omega
 ·have e:szL (wRec x) left=(szL (wStmt x.fStmt) left):=by rw[wRec,szL_app _ _ _ h0,if_neg hn];rfl
  rw[e]
  try omega
theorem toRec_ok (x:GRec) (hs: ∀n∈wRec x,n≤1048576):VC Tryz.prog 112 [vRec x] [(true,mRec x)]:=by
 refine vc_of_ew good hm [0,1,2,3] Tryz.func112 rfl (by kernel_rfl) (by kernel_rfl) rfl ?_
 simp[Tryz.f112,vRec,mRec]
 refine .of (toStmt_ok x.fStmt (fun n hn=>hs n (by simp[wRec,hn]))) ?_
 simp[mStmt]
theorem eqRec_ok (x:GRec) (hs: ∀n∈wRec x,n≤1048576):VC Tryz.prog 76 [vRec x,vRec x] [(false,[(.s,.sc (.bool true))])]:=by
 refine vc_of_ew good hm [0,1,2,3,4,9,14,20] Tryz.func76 rfl (by kernel_rfl) (by kernel_rfl) rfl ?_
 simp[Tryz.f76,vRec]
 refine .of (eqStmt_ok x.fStmt (fun n hn=>hs n (by simp[wRec,hn]))) ?_
 simp
def mvRec (k:Nat) (x:GRec):GRec:= {x with fStmt:=mvStmt (k) x.fStmt}
structure GSnap where
 fLsn:Int
 fDb:GDb
def mvSnap (k:Nat) (x:GSnap):GSnap:= {x with fDb:=mvDb (k) x.fDb}
def vRecS (l:List GRec):SV:=list [.sc (.int .i64 0),.sc (.int .i64 0),.sc (.int .i64 0),.sc (.string ⟨#[]⟩),.ls [.sc (.int .i64 0),.sc (.int .i64 0),.sc (.string ⟨#[]⟩)] [],.ls [.sc (.int .i64 0),.sc (.int .i64 0),.sc (.string ⟨#[]⟩)] [],.sc (.int .i64 0),.sc (.string ⟨#[]⟩),.ls [.sc (.string ⟨#[]⟩),.sc (.int .i64 0),.sc (.bool false),.sc (.bool false),.sc (.int .i64 0),.sc (.int .i64 0),.sc (.string ⟨#[]⟩)] [],.ls [.sc (.string ⟨#[]⟩)] [],.sc (.string ⟨#[]⟩),.sc (.string ⟨#[]⟩)] (l.map eRec)
def wRecS (l:List GRec):List Nat:=l.length::l.flatMap wRec
def okRecS (l:List GRec):Prop:=okM l.length∧ ∀a∈l,okRec a
theorem okw_RecS (l:List GRec) (h:okRecS l): ∀n∈wRecS l,okM n:=by
 intro n hn
 rcases List.mem_cons.1 hn with rfl|hn
 ·exact h.1
 ·obtain ⟨a,ha,hn⟩:=List.mem_flatMap.1 hn
  exact okw_Rec a (h.2 a ha) n hn
def mRecS (x:List GRec):ML:= [(.o 128 (fun _=> [.s,.s,.s,.s,.o 234 (fun _=> [.s,.s,.s]),.o 234 (fun _=> [.s,.s,.s]),.s,.s,.o 236 (fun _=> [.s,.s,.s,.s,.s,.s,.s]),.o 9 (fun _=> [.s]),.s,.s]),.ls [.sc (.int .i64 0),.sc (.int .i64 0),.sc (.int .i64 0),.sc (.string ⟨#[]⟩),.ls [.sc (.int .i64 0),.sc (.int .i64 0),.sc (.string ⟨#[]⟩)] [],.ls [.sc (.int .i64 0),.sc (.int .i64 0),.sc (.string ⟨#[]⟩)] [],.sc (.int .i64 0),.sc (.string ⟨#[]⟩),.ls [.sc (.string ⟨#[]⟩),.sc (.int .i64 0),.sc (.bool false),.sc (.bool false),.sc (.int .i64 0),.sc (.int .i64 0),.sc (.string ⟨#[]⟩)] [],.ls [.sc (.string ⟨#[]⟩)] [],.sc (.string ⟨#[]⟩),.sc (.string ⟨#[]⟩)] (x.map eRec))]
@[simp] theorem ow_RecS (l:List GRec):Ow (.o 128 (fun _=> [.s,.s,.s,.s,.o 234 (fun _=> [.s,.s,.s]),.o 234 (fun _=> [.s,.s,.s]),.s,.s,.o 236 (fun _=> [.s,.s,.s,.s,.s,.s,.s]),.o 9 (fun _=> [.s]),.s,.s])) (.ls [.sc (.int .i64 0),.sc (.int .i64 0),.sc (.int .i64 0),.sc (.string ⟨#[]⟩),.ls [.sc (.int .i64 0),.sc (.int .i64 0),.sc (.string ⟨#[]⟩)] [],.ls [.sc (.int .i64 0),.sc (.int .i64 0),.sc (.string ⟨#[]⟩)] [],.sc (.int .i64 0),.sc (.string ⟨#[]⟩),.ls [.sc (.string ⟨#[]⟩),.sc (.int .i64 0),.sc (.bool false),.sc (.bool false),.sc (.int .i64 0),.sc (.int .i64 0),.sc (.string ⟨#[]⟩)] [],.ls [.sc (.string ⟨#[]⟩)] [],.sc (.string ⟨#[]⟩),.sc (.string ⟨#[]⟩)] (l.map eRec))=True:=eq_true (Ow_rows (fun x j hj=>match j,hj with|0,_=> .sc|1,_=> .sc|2,_=> .sc|3,_=> .sc|4,_=>of_eq_true (ow_ValS x.fStmt.fKey)|5,_=>of_eq_true (ow_ValS x.fStmt.fRow.fVals)|6,_=> .sc|7,_=> .sc|8,_=>of_eq_true (ow_ColS x.fStmt.fDdl.fCols)|9,_=>of_eq_true (ow_StrS x.fStmt.fDdl.fKeys)|10,_=> .sc|11,_=> .sc|n+12,hj=>absurd hj (by simp)) l)
@[simp] theorem full_RecS (l:List GRec):Full (.o 128 (fun _=> [.s,.s,.s,.s,.o 234 (fun _=> [.s,.s,.s]),.o 234 (fun _=> [.s,.s,.s]),.s,.s,.o 236 (fun _=> [.s,.s,.s,.s,.s,.s,.s]),.o 9 (fun _=> [.s]),.s,.s])) (.ls [.sc (.int .i64 0),.sc (.int .i64 0),.sc (.int .i64 0),.sc (.string ⟨#[]⟩),.ls [.sc (.int .i64 0),.sc (.int .i64 0),.sc (.string ⟨#[]⟩)] [],.ls [.sc (.int .i64 0),.sc (.int .i64 0),.sc (.string ⟨#[]⟩)] [],.sc (.int .i64 0),.sc (.string ⟨#[]⟩),.ls [.sc (.string ⟨#[]⟩),.sc (.int .i64 0),.sc (.bool false),.sc (.bool false),.sc (.int .i64 0),.sc (.int .i64 0),.sc (.string ⟨#[]⟩)] [],.ls [.sc (.string ⟨#[]⟩)] [],.sc (.string ⟨#[]⟩),.sc (.string ⟨#[]⟩)] (l.map eRec))=True:=eq_true (Full_rows (fun x j hj=>match j,hj with|0,_=> .s|1,_=> .s|2,_=> .s|3,_=> .s|4,_=>of_eq_true (full_ValS x.fStmt.fKey)|5,_=>of_eq_true (full_ValS x.fStmt.fRow.fVals)|6,_=> .s|7,_=> .s|8,_=>of_eq_true (full_ColS x.fStmt.fDdl.fCols)|9,_=>of_eq_true (full_StrS x.fStmt.fDdl.fKeys)|10,_=> .s|11,_=> .s|n+12,hj=>absurd hj (by simp)) l)
theorem szRecS_ok (x:List GRec) (left:Int) (h0:0≤left) (h1:left≤1048576) (hs: ∀n∈wRecS x,okM n):VC Tryz.prog 27 [vRecS x,int .i64 left] [(false,[(.s,.sc (.int .i64 (szL (wRecS x) left)))])]:=by
 refine vc_of_ew good hm [0,1,4,11,5,15,25] Tryz.func27 rfl (by kernel_rfl) (by kernel_rfl) rfl ?_
 have hl:x.length≤9223372036854775807:=hs _ (by simp[wRecS])
 simp[Tryz.f27,vRecS]
 rw[wrapI (i:=left-x.length) (by omega) (by omega)]
 refine ⟨fun h=>by simp[wRecS,szL,h],fun hk=> ?_⟩
 refine ew_loop (fun E=> ∃i:Nat,i≤x.length∧0≤szL ((x.take i).flatMap wRec) (left-x.length)∧E= {nt:=27,sl:= [(0,vRecS x),(1,int .i64 (szL ((x.take i).flatMap wRec) (left-x.length))),(5,int .i64 i)],bx:= [],rt:= []}) (fun E=>x.length- (E.num 5).toNat) _ (Gh.keep _ [0,1,5]) ⟨0,by omega,by simp[szL];omega,by simp[szL,vRecS]⟩ ?_
 rintro E1 ⟨i,hi,hr0,rfl⟩
 have hr1:=szL_le' (l:=(x.take i).flatMap wRec) (left:=left-x.length) (by omega)
 simp[vRecS,eRec]
 refine ⟨fun h=> ?_,fun h=> ?_⟩
 ·obtain ⟨q1,q2⟩:=szF_step wRec (dRec) h (by omega:0≤left-x.length) hr0
  have hm: ∀n∈wRec (x[i]?.getD (dRec)),okM n:=fun n hn=>hs n (List.mem_cons_of_mem _ (mem_flat h hn))
  have hn1:=szL_neg (wRec (x[i]?.getD (dRec))) _ hr0
  refine ⟨h,.of (szRec_ok _ _ hr0 (by omega) hm) ?_⟩
  simp
  refine ⟨fun h2=> ?_,fun h2=> .of _ (Gh.keep _ [0,1,5]) ⟨i+1,by omega, ?_, ?_⟩ ?_⟩
  ·rw[wRecS,szL,if_neg (by omega),q1 h2]
  ·rw[q2];exact h2
  ·rw[q2];simp[wrapS (show i<9223372036854775807 by omega)]
  ·simp[wrapS (show i<9223372036854775807 by omega)];omega
 ·rw[wRecS,szL,if_neg (by omega),List.take_of_length_le (by simpa using h)]
theorem toRecS_ok (x:List GRec) (hs: ∀n∈wRecS x,n≤1048576):VC Tryz.prog 29 [vRecS x] [(false,mRecS x)]:=by
 refine vc_of_ew good hm [0,2,3,4,11] Tryz.func29 rfl (by kernel_rfl) (by kernel_rfl) rfl ?_
 have hl:x.length≤1048576:=hs _ (by simp[wRecS])
 simp[Tryz.f29,vRecS,mRecS]
 refine ⟨by omega, ?_⟩
 refine ew_loop (fun E=> ∃i:Nat,i≤x.length∧E= {nt:=23,sl:= [(0,vRecS x),(3,.v false [.r [7]]),(4,int .i64 i)],bx:= [],rt:= [(7,.o 128 (fun _=> [.s,.s,.s,.s,.o 234 (fun _=> [.s,.s,.s]),.o 234 (fun _=> [.s,.s,.s]),.s,.s,.o 236 (fun _=> [.s,.s,.s,.s,.s,.s,.s]),.o 9 (fun _=> [.s]),.s,.s]),.ls [.sc (.int .i64 0),.sc (.int .i64 0),.sc (.int .i64 0),.sc (.string ⟨#[]⟩),.ls [.sc (.int .i64 0),.sc (.int .i64 0),.sc (.string ⟨#[]⟩)] [],.ls [.sc (.int .i64 0),.sc (.int .i64 0),.sc (.string ⟨#[]⟩)] [],.sc (.int .i64 0),.sc (.string ⟨#[]⟩),.ls [.sc (.string ⟨#[]⟩),.sc (.int .i64 0),.sc (.bool false),.sc (.bool false),.sc (.int .i64 0),.sc (.int .i64 0),.sc (.string ⟨#[]⟩)] [],.ls [.sc (.string ⟨#[]⟩)] [],.sc (.string ⟨#[]⟩),.sc (.string ⟨#[]⟩)] (fillR [.sc (.int .i64 0),.sc (.int .i64 0),.sc (.int .i64 0),.sc (.string ⟨#[]⟩),.ls [.sc (.int .i64 0),.sc (.int .i64 0),.sc (.string ⟨#[]⟩)] [],.ls [.sc (.int .i64 0),.sc (.int .i64 0),.sc (.string ⟨#[]⟩)] [],.sc (.int .i64 0),.sc (.string ⟨#[]⟩),.ls [.sc (.string ⟨#[]⟩),.sc (.int .i64 0),.sc (.bool false),.sc (.bool false),.sc (.int .i64 0),.sc (.int .i64 0),.sc (.string ⟨#[]⟩)] [],.ls [.sc (.string ⟨#[]⟩)] [],.sc (.string ⟨#[]⟩),.sc (.string ⟨#[]⟩)] (x.map eRec) i))]}) (fun E=>x.length- (E.num 4).toNat) _ (Gh.keep _ [0,3,4]) ⟨0,by omega,by simp[vRecS,fillR]⟩ ?_
 rintro E1 ⟨i,hi,rfl⟩
 have hfl:(fillR [.sc (.int .i64 0),.sc (.int .i64 0),.sc (.int .i64 0),.sc (.string ⟨#[]⟩),.ls [.sc (.int .i64 0),.sc (.int .i64 0),.sc (.string ⟨#[]⟩)] [],.ls [.sc (.int .i64 0),.sc (.int .i64 0),.sc (.string ⟨#[]⟩)] [],.sc (.int .i64 0),.sc (.string ⟨#[]⟩),.ls [.sc (.string ⟨#[]⟩),.sc (.int .i64 0),.sc (.bool false),.sc (.bool false),.sc (.int .i64 0),.sc (.int .i64 0),.sc (.string ⟨#[]⟩)] [],.ls [.sc (.string ⟨#[]⟩)] [],.sc (.string ⟨#[]⟩),.sc (.string ⟨#[]⟩)] (x.map eRec) i).length=x.length:=by rw[fillR_len _ _ (by simpa using hi)];simp
 simp[vRecS,eRec] at hfl⊢
 try simp[hfl]
 refine ⟨fun h=>⟨h,.of (toRec_ok (x[i]?.getD dRec) (fun n hn=>hs n (List.mem_cons_of_mem _ (mem_flat (wt:=wRec) h hn)))) ?_⟩,fun h=>fillR_all _ _ (by simpa using h)⟩
 simp[mRec]
 try simp[hfl,h]
 refine .of _ (Gh.keep _ [0,3,4]) ⟨i+1,by omega, ?_⟩ ?_
 ·have:=fillR_set [.sc (.int .i64 0),.sc (.int .i64 0),.sc (.int .i64 0),.sc (.string ⟨#[]⟩),.ls [.sc (.int .i64 0),.sc (.int .i64 0),.sc (.string ⟨#[]⟩)] [],.ls [.sc (.int .i64 0),.sc (.int .i64 0),.sc (.string ⟨#[]⟩)] [],.sc (.int .i64 0),.sc (.string ⟨#[]⟩),.ls [.sc (.string ⟨#[]⟩),.sc (.int .i64 0),.sc (.bool false),.sc (.bool false),.sc (.int .i64 0),.sc (.int .i64 0),.sc (.string ⟨#[]⟩)] [],.ls [.sc (.string ⟨#[]⟩)] [],.sc (.string ⟨#[]⟩),.sc (.string ⟨#[]⟩)] (x.map eRec) (i:=i) (by simpa using h)
  simp[wrapS (show i<9223372036854775807 by omega),vRecS,eRec,h] at this⊢
  rw[←this]
 ·simp[wrapS (show i<9223372036854775807 by omega)];omega
theorem eqRecS_ok (x:List GRec) (hs: ∀n∈wRecS x,n≤1048576):VC Tryz.prog 32 [vRecS x,vRecS x] [(false,[(.s,.sc (.bool true))])]:=by
 refine vc_of_ew good hm [0,1,4,10,5,14,26] Tryz.func32 rfl (by kernel_rfl) (by kernel_rfl) rfl ?_
 have hl:x.length≤1048576:=hs _ (by simp[wRecS])
 simp[Tryz.f32,vRecS]
 refine ew_loop (fun E=> ∃i:Nat,i≤x.length∧E= {nt:=27,sl:= [(0,vRecS x),(1,vRecS x),(5,int .i64 i)],bx:= [],rt:= []}) (fun E=>x.length- (E.num 5).toNat) _ (Gh.keep _ [0,1,5]) ⟨0,by omega,by simp[vRecS]⟩ ?_
 rintro E1 ⟨i,hi,rfl⟩
 simp[vRecS,eRec]
 intro h
 refine ⟨h,.of (eqRec_ok (x[i]?.getD dRec) (fun n hn=>hs n (List.mem_cons_of_mem _ (mem_flat (wt:=wRec) h hn)))) ?_⟩
 simp
 refine .of _ (Gh.keep _ [0,1,5]) ⟨i+1,by omega, ?_⟩ ?_
 ·simp[wrapS (show i<9223372036854775807 by omega),vRecS]
 ·simp[wrapS (show i<9223372036854775807 by omega)];omega
def ctRec (x:GRec):Nat:=8+ctValS x.fStmt.fKey+ctValS x.fStmt.fRow.fVals+ctColS x.fStmt.fDdl.fCols+ctStrS x.fStmt.fDdl.fKeys
def mkRec (k:Nat) (x:GRec):GRec:=⟨mkInt (k) x.fKind,mkInt (k+1) x.fXid,⟨mkInt (k+2) x.fStmt.fKind,mkStr (k+3) x.fStmt.fTable,mkValS (k+4) x.fStmt.fKey,⟨mkValS (k+4+ctValS x.fStmt.fKey) x.fStmt.fRow.fVals⟩,⟨mkInt (k+4+ctValS x.fStmt.fKey+ctValS x.fStmt.fRow.fVals) x.fStmt.fDdl.fKind,mkStr (k+5+ctValS x.fStmt.fKey+ctValS x.fStmt.fRow.fVals) x.fStmt.fDdl.fTable,mkColS (k+6+ctValS x.fStmt.fKey+ctValS x.fStmt.fRow.fVals) x.fStmt.fDdl.fCols,mkStrS (k+6+ctValS x.fStmt.fKey+ctValS x.fStmt.fRow.fVals+ctColS x.fStmt.fDdl.fCols) x.fStmt.fDdl.fKeys,mkStr (k+6+ctValS x.fStmt.fKey+ctValS x.fStmt.fRow.fVals+ctColS x.fStmt.fDdl.fCols+ctStrS x.fStmt.fDdl.fKeys) x.fStmt.fDdl.fName,mkStr (k+7+ctValS x.fStmt.fKey+ctValS x.fStmt.fRow.fVals+ctColS x.fStmt.fDdl.fCols+ctStrS x.fStmt.fDdl.fKeys) x.fStmt.fDdl.fTo⟩⟩⟩
theorem ctle_Rec (x:GRec):ctRec x≤64+64* (wRec x).sum:=by
 have:=ctle_ValS x.fStmt.fKey
 have:=ctle_ValS x.fStmt.fRow.fVals
 have:=ctle_ColS x.fStmt.fDdl.fCols
 have:=ctle_StrS x.fStmt.fDdl.fKeys
 simp only[ctRec,wRec,wStmt,wRow,wDdl,List.sum_cons,List.sum_append,List.sum_nil]
 omega
def ctRecS (l:List GRec):Nat:=ctRw ctRec l
def mkRecS (k:Nat) (l:List GRec):List GRec:=mkRw mkRec ctRec k l
theorem ctle_RecS (l:List GRec):ctRecS l≤64* (wRecS l).sum:=by
 have:=ctRw_le64 ctRec wRec l (fun x _=>ctle_Rec x)
 simp only[wRecS,List.sum_cons]
 exact this
theorem markRecS_ok (x:List GRec) (k:Nat) (k':Int) (hkk':k'=(k:Int)) (hk:k+ctRecS x≤4611686018427387904) (hs: ∀n∈wRecS x,n≤4611686018427387904):VM Tryz.prog 33 [.v false [.r [900]],int .i64 k'] [(.o 128 (fun _=> [.s,.s,.s,.s,.o 234 (fun _=> [.s,.s,.s]),.o 234 (fun _=> [.s,.s,.s]),.s,.s,.o 236 (fun _=> [.s,.s,.s,.s,.s,.s,.s]),.o 9 (fun _=> [.s]),.s,.s]),.ls [.sc (.int .i64 0),.sc (.int .i64 0),.sc (.int .i64 0),.sc (.string ⟨#[]⟩),.ls [.sc (.int .i64 0),.sc (.int .i64 0),.sc (.string ⟨#[]⟩)] [],.ls [.sc (.int .i64 0),.sc (.int .i64 0),.sc (.string ⟨#[]⟩)] [],.sc (.int .i64 0),.sc (.string ⟨#[]⟩),.ls [.sc (.string ⟨#[]⟩),.sc (.int .i64 0),.sc (.bool false),.sc (.bool false),.sc (.int .i64 0),.sc (.int .i64 0),.sc (.string ⟨#[]⟩)] [],.ls [.sc (.string ⟨#[]⟩)] [],.sc (.string ⟨#[]⟩),.sc (.string ⟨#[]⟩)] (x.map eRec),.ls [.sc (.int .i64 0),.sc (.int .i64 0),.sc (.int .i64 0),.sc (.string ⟨#[]⟩),.ls [.sc (.int .i64 0),.sc (.int .i64 0),.sc (.string ⟨#[]⟩)] [],.ls [.sc (.int .i64 0),.sc (.int .i64 0),.sc (.string ⟨#[]⟩)] [],.sc (.int .i64 0),.sc (.string ⟨#[]⟩),.ls [.sc (.string ⟨#[]⟩),.sc (.int .i64 0),.sc (.bool false),.sc (.bool false),.sc (.int .i64 0),.sc (.int .i64 0),.sc (.string ⟨#[]⟩)] [],.ls [.sc (.string ⟨#[]⟩)] [],.sc (.string ⟨#[]⟩),.sc (.string ⟨#[]⟩)] ((mkRecS k x).map eRec))] (some ((k:Int)+(ctRecS x:Int))):=by
 subst hkk'
 have hl:x.length≤4611686018427387904:=hs _ (by simp[wRecS])
 refine vm_of_ew good hm [0,1,4,5,9,5000] Tryz.func33 rfl (by kernel_rfl) (by kernel_rfl) rfl fun pv=> ?_
 simp[Tryz.f33]
 refine ew_loop (fun E=> ∃ (i K:Nat) (M:List (GRec)),i≤x.length∧K=k+ctRw ctRec (x.take i)∧M=mixR mkRec ctRec k x i∧E= {nt:=118,sl:= [(0,.v false [.r [900]]),(1,int .i64 (K:Int)),(5,int .i64 i),(5000,.pin 900 [] (pv 900))],bx:= [],rt:= [(900,.o 128 (fun _=> [.s,.s,.s,.s,.o 234 (fun _=> [.s,.s,.s]),.o 234 (fun _=> [.s,.s,.s]),.s,.s,.o 236 (fun _=> [.s,.s,.s,.s,.s,.s,.s]),.o 9 (fun _=> [.s]),.s,.s]),.ls [.sc (.int .i64 0),.sc (.int .i64 0),.sc (.int .i64 0),.sc (.string ⟨#[]⟩),.ls [.sc (.int .i64 0),.sc (.int .i64 0),.sc (.string ⟨#[]⟩)] [],.ls [.sc (.int .i64 0),.sc (.int .i64 0),.sc (.string ⟨#[]⟩)] [],.sc (.int .i64 0),.sc (.string ⟨#[]⟩),.ls [.sc (.string ⟨#[]⟩),.sc (.int .i64 0),.sc (.bool false),.sc (.bool false),.sc (.int .i64 0),.sc (.int .i64 0),.sc (.string ⟨#[]⟩)] [],.ls [.sc (.string ⟨#[]⟩)] [],.sc (.string ⟨#[]⟩),.sc (.string ⟨#[]⟩)] (M.map eRec))]}) (fun E=>x.length- (E.num 5).toNat) _ (Gh.kb _ [0,1,5,5000] [] [900]) ⟨0,k,x,by omega,by simp[ctRw],by simp[mixR_zero],by simp⟩ ?_
 rintro E1 ⟨i,K,M,hi,hK,hM,rfl⟩
 have hfl:M.length=x.length:=by rw[hM];exact mixR_len mkRec ctRec k x i
 have hct:=ctRw_le ctRec x i
 simp only[ctRecS] at hk
 simp[hfl]
 refine ⟨fun h=> ?_,fun h=> ?_⟩
 ·have hg:M[i]? =x[i]? :=by rw[hM];exact mixR_get mkRec ctRec k x i h
  have hst:=mixR_set mkRec ctRec k x i (dRec) h
  have hc1:=ctRw_lt ctRec (dRec) h
  have hs1:ctRw ctRec (x.take (i+1))=ctRw ctRec (x.take i)+ctRec (x[i]?.getD (dRec)):=ctRw_succ ctRec (dRec) h
  have hxi:x[i]? =some (x[i]?.getD (dRec)):=by rw[List.getElem?_eq_getElem h];rfl
  have hy:(x[i]?.getD (dRec))∈x:=getD_mem _ h
  rw[hxi] at hg
  rw[←hK,←hM] at hst
  generalize (x[i]?.getD (dRec))=y at*
  have hg': ∀h',M[i]'h'=y:=fun h'=>by simpa [List.getElem?_eq_getElem h'] using hg
  have hse: ∀n∈wRec y,n≤4611686018427387904:=fun n hn=>hs n (List.mem_cons_of_mem _ (List.mem_flatMap.2 ⟨y,hy,hn⟩))
  simp only[ctRec] at hc1 hs1
  have w0:IntKind.i64.wrap ((K:Int)+1)=(K:Int)+1:=(wrapI (by omega) (by omega)).trans (by omega)
  have w1:IntKind.i64.wrap ((K:Int)+1+1)=(K:Int)+2:=(wrapI (by omega) (by omega)).trans (by omega)
  have w2:IntKind.i64.wrap ((K:Int)+2+1)=(K:Int)+3:=(wrapI (by omega) (by omega)).trans (by omega)
  simp[md,lf,hg',hg,h,hfl,eRec,w0,w1,w2]
  refine .of (markText_ok _ (K+3) (by omega) (by omega)) ?_
  have w3:IntKind.i64.wrap ((K:Int)+3+1)=(K:Int)+4:=(wrapI (by omega) (by omega)).trans (by omega)
  simp[md,lf,hg',hg,h,hfl,eRec,w0,w1,w2,w3]
  refine .mut (markValS_ok y.fStmt.fKey (K+4) ((K:Int)+4) (by omega) (by omega) (fun n hn=>hse n (by simp[wRec,wStmt,wRow,wDdl,hn]))) ?_
  simp[md,lf,hg',hg,h,hfl,eRec,w0,w1,w2,w3]
  refine .mut (markValS_ok y.fStmt.fRow.fVals (K+4+ctValS y.fStmt.fKey) ((K:Int)+4+(ctValS y.fStmt.fKey:Int)) (by omega) (by omega) (fun n hn=>hse n (by simp[wRec,wStmt,wRow,wDdl,hn]))) ?_
  have w4:IntKind.i64.wrap ((K:Int)+4+(ctValS y.fStmt.fKey:Int)+(ctValS y.fStmt.fRow.fVals:Int)+1)=(K:Int)+5+(ctValS y.fStmt.fKey:Int)+(ctValS y.fStmt.fRow.fVals:Int):=(wrapI (by omega) (by omega)).trans (by omega)
  simp[md,lf,hg',hg,h,hfl,eRec,w0,w1,w2,w3,w4]
  refine .of (markText_ok _ (K+5+ctValS y.fStmt.fKey+ctValS y.fStmt.fRow.fVals) (by omega) (by omega)) ?_
  have w5:IntKind.i64.wrap ((K:Int)+5+(ctValS y.fStmt.fKey:Int)+(ctValS y.fStmt.fRow.fVals:Int)+1)=(K:Int)+6+(ctValS y.fStmt.fKey:Int)+(ctValS y.fStmt.fRow.fVals:Int):=(wrapI (by omega) (by omega)).trans (by omega)
  simp[md,lf,hg',hg,h,hfl,eRec,w0,w1,w2,w3,w4,w5]
  refine .mut (markColS_ok y.fStmt.fDdl.fCols (K+6+ctValS y.fStmt.fKey+ctValS y.fStmt.fRow.fVals) ((K:Int)+6+(ctValS y.fStmt.fKey:Int)+(ctValS y.fStmt.fRow.fVals:Int)) (by omega) (by omega) (fun n hn=>hse n (by simp[wRec,wStmt,wRow,wDdl,hn]))) ?_
  simp[md,lf,hg',hg,h,hfl,eRec,w0,w1,w2,w3,w4,w5]
  refine .mut (markStrS_ok y.fStmt.fDdl.fKeys (K+6+ctValS y.fStmt.fKey+ctValS y.fStmt.fRow.fVals+ctColS y.fStmt.fDdl.fCols) ((K:Int)+6+(ctValS y.fStmt.fKey:Int)+(ctValS y.fStmt.fRow.fVals:Int)+(ctColS y.fStmt.fDdl.fCols:Int)) (by omega) (by omega) (fun n hn=>hse n (by simp[wRec,wStmt,wRow,wDdl,hn]))) ?_
  simp[md,lf,hg',hg,h,hfl,eRec,w0,w1,w2,w3,w4,w5]
  refine .of (markText_ok _ (K+6+ctValS y.fStmt.fKey+ctValS y.fStmt.fRow.fVals+ctColS y.fStmt.fDdl.fCols+ctStrS y.fStmt.fDdl.fKeys) (by omega) (by omega)) ?_
  have w6:IntKind.i64.wrap ((K:Int)+6+(ctValS y.fStmt.fKey:Int)+(ctValS y.fStmt.fRow.fVals:Int)+(ctColS y.fStmt.fDdl.fCols:Int)+(ctStrS y.fStmt.fDdl.fKeys:Int)+1)=(K:Int)+7+(ctValS y.fStmt.fKey:Int)+(ctValS y.fStmt.fRow.fVals:Int)+(ctColS y.fStmt.fDdl.fCols:Int)+(ctStrS y.fStmt.fDdl.fKeys:Int):=(wrapI (by omega) (by omega)).trans (by omega)
  simp[md,lf,hg',hg,h,hfl,eRec,w0,w1,w2,w3,w4,w5,w6]
  refine .of (markText_ok _ (K+7+ctValS y.fStmt.fKey+ctValS y.fStmt.fRow.fVals+ctColS y.fStmt.fDdl.fCols+ctStrS y.fStmt.fDdl.fKeys) (by omega) (by omega)) ?_
  have w7:IntKind.i64.wrap ((K:Int)+7+(ctValS y.fStmt.fKey:Int)+(ctValS y.fStmt.fRow.fVals:Int)+(ctColS y.fStmt.fDdl.fCols:Int)+(ctStrS y.fStmt.fDdl.fKeys:Int)+1)=(K:Int)+8+(ctValS y.fStmt.fKey:Int)+(ctValS y.fStmt.fRow.fVals:Int)+(ctColS y.fStmt.fDdl.fCols:Int)+(ctStrS y.fStmt.fDdl.fKeys:Int):=(wrapI (by omega) (by omega)).trans (by omega)
  simp[md,lf,hg',hg,h,hfl,eRec,w0,w1,w2,w3,w4,w5,w6,w7]
  have e1:(k:Int)+(ctRw ctRec (x.take (i+1)):Int)=(K:Int)+8+(ctValS y.fStmt.fKey:Int)+(ctValS y.fStmt.fRow.fVals:Int)+(ctColS y.fStmt.fDdl.fCols:Int)+(ctStrS y.fStmt.fDdl.fKeys:Int):=by omega
  refine .of _ (Gh.kb _ [0,1,5,5000] [] [900]) ⟨i+1,by omega, ?_⟩ ?_
  ·simp[wrapS (show i<9223372036854775807 by omega),e1,←hst,List.map_set,mkRec,mkInt,mkStr,eRec,wrapU8]
  ·simp[wrapS (show i<9223372036854775807 by omega)];omega
 ·have:i=x.length:=by omega
  subst this
  subst hM
  subst hK
  simp[mixR_all,ctRecS,mkRecS]
structure GTail where
 fBase:Int
 fDb:GDb
 fRecs:List GRec
def eTail (x:GTail):List Lf:= [.sc (.int .i64 x.fBase),.ls [.sc (.string ⟨#[]⟩),.ls [.sc (.string ⟨#[]⟩),.sc (.int .i64 0),.sc (.bool false),.sc (.bool false),.sc (.int .i64 0),.sc (.int .i64 0),.sc (.string ⟨#[]⟩)] [],.ls [.sc (.string ⟨#[]⟩)] []] (x.fDb.fCat.fTables.map eTable),.ls [.ls [.ls [.sc (.int .i64 0),.sc (.int .i64 0),.sc (.string ⟨#[]⟩)] []] []] (x.fDb.fData.map eRows),.ls [.sc (.int .i64 0),.sc (.int .i64 0),.sc (.int .i64 0),.sc (.string ⟨#[]⟩),.ls [.sc (.int .i64 0),.sc (.int .i64 0),.sc (.string ⟨#[]⟩)] [],.ls [.sc (.int .i64 0),.sc (.int .i64 0),.sc (.string ⟨#[]⟩)] [],.sc (.int .i64 0),.sc (.string ⟨#[]⟩),.ls [.sc (.string ⟨#[]⟩),.sc (.int .i64 0),.sc (.bool false),.sc (.bool false),.sc (.int .i64 0),.sc (.int .i64 0),.sc (.string ⟨#[]⟩)] [],.ls [.sc (.string ⟨#[]⟩)] [],.sc (.string ⟨#[]⟩),.sc (.string ⟨#[]⟩)] (x.fRecs.map eRec)]
def cTail (x:GTail):List LV:= [.s (.sc (.int .i64 x.fBase)),.s (.ls [.sc (.string ⟨#[]⟩),.ls [.sc (.string ⟨#[]⟩),.sc (.int .i64 0),.sc (.bool false),.sc (.bool false),.sc (.int .i64 0),.sc (.int .i64 0),.sc (.string ⟨#[]⟩)] [],.ls [.sc (.string ⟨#[]⟩)] []] (x.fDb.fCat.fTables.map eTable)),.s (.ls [.ls [.ls [.sc (.int .i64 0),.sc (.int .i64 0),.sc (.string ⟨#[]⟩)] []] []] (x.fDb.fData.map eRows)),.s (.ls [.sc (.int .i64 0),.sc (.int .i64 0),.sc (.int .i64 0),.sc (.string ⟨#[]⟩),.ls [.sc (.int .i64 0),.sc (.int .i64 0),.sc (.string ⟨#[]⟩)] [],.ls [.sc (.int .i64 0),.sc (.int .i64 0),.sc (.string ⟨#[]⟩)] [],.sc (.int .i64 0),.sc (.string ⟨#[]⟩),.ls [.sc (.string ⟨#[]⟩),.sc (.int .i64 0),.sc (.bool false),.sc (.bool false),.sc (.int .i64 0),.sc (.int .i64 0),.sc (.string ⟨#[]⟩)] [],.ls [.sc (.string ⟨#[]⟩)] [],.sc (.string ⟨#[]⟩),.sc (.string ⟨#[]⟩)] (x.fRecs.map eRec))]
def vTail (x:GTail):SV:= .v true [.s (.sc (.int .i64 x.fBase)),.s (.ls [.sc (.string ⟨#[]⟩),.ls [.sc (.string ⟨#[]⟩),.sc (.int .i64 0),.sc (.bool false),.sc (.bool false),.sc (.int .i64 0),.sc (.int .i64 0),.sc (.string ⟨#[]⟩)] [],.ls [.sc (.string ⟨#[]⟩)] []] (x.fDb.fCat.fTables.map eTable)),.s (.ls [.ls [.ls [.sc (.int .i64 0),.sc (.int .i64 0),.sc (.string ⟨#[]⟩)] []] []] (x.fDb.fData.map eRows)),.s (.ls [.sc (.int .i64 0),.sc (.int .i64 0),.sc (.int .i64 0),.sc (.string ⟨#[]⟩),.ls [.sc (.int .i64 0),.sc (.int .i64 0),.sc (.string ⟨#[]⟩)] [],.ls [.sc (.int .i64 0),.sc (.int .i64 0),.sc (.string ⟨#[]⟩)] [],.sc (.int .i64 0),.sc (.string ⟨#[]⟩),.ls [.sc (.string ⟨#[]⟩),.sc (.int .i64 0),.sc (.bool false),.sc (.bool false),.sc (.int .i64 0),.sc (.int .i64 0),.sc (.string ⟨#[]⟩)] [],.ls [.sc (.string ⟨#[]⟩)] [],.sc (.string ⟨#[]⟩),.sc (.string ⟨#[]⟩)] (x.fRecs.map eRec))]
def dTail:GTail:=⟨0,⟨⟨[]⟩,[]⟩,[]⟩
@[simp] theorem row_Tail (l:List GTail) (i:Nat):(Option.map eTail l[i]?).getD [.sc (.int .i64 0),.ls [.sc (.string ⟨#[]⟩),.ls [.sc (.string ⟨#[]⟩),.sc (.int .i64 0),.sc (.bool false),.sc (.bool false),.sc (.int .i64 0),.sc (.int .i64 0),.sc (.string ⟨#[]⟩)] [],.ls [.sc (.string ⟨#[]⟩)] []] [],.ls [.ls [.ls [.sc (.int .i64 0),.sc (.int .i64 0),.sc (.string ⟨#[]⟩)] []] []] [],.ls [.sc (.int .i64 0),.sc (.int .i64 0),.sc (.int .i64 0),.sc (.string ⟨#[]⟩),.ls [.sc (.int .i64 0),.sc (.int .i64 0),.sc (.string ⟨#[]⟩)] [],.ls [.sc (.int .i64 0),.sc (.int .i64 0),.sc (.string ⟨#[]⟩)] [],.sc (.int .i64 0),.sc (.string ⟨#[]⟩),.ls [.sc (.string ⟨#[]⟩),.sc (.int .i64 0),.sc (.bool false),.sc (.bool false),.sc (.int .i64 0),.sc (.int .i64 0),.sc (.string ⟨#[]⟩)] [],.ls [.sc (.string ⟨#[]⟩)] [],.sc (.string ⟨#[]⟩),.sc (.string ⟨#[]⟩)] []]=eTail (l[i]?.getD dTail):=by cases l[i]? <;>rfl
def wTail (x:GTail):List Nat:=wDb x.fDb++(wRecS x.fRecs++([]))
def okTail (x:GTail):Prop:=okI x.fBase∧okDb x.fDb∧okRecS x.fRecs∧True
theorem okw_Tail (x:GTail) (h:okTail x): ∀n∈wTail x,okM n:=by
 obtain ⟨h0,h1,h2,_⟩:=h
 intro n hn
 simp only[wTail,List.mem_cons,List.mem_append,List.not_mem_nil,or_false,false_or] at hn
 rcases hn with hn|hn
 ·exact okw_Db _ h1 n hn
 ·exact okw_RecS _ h2 n hn
theorem fit_Tail (ls:List Lf) (h:Fit ti ck 87 ls): ∃x:GTail,ls=eTail x∧okTail x:=by
 obtain ⟨c0,r0,rfl,h0,g0⟩:=All2.cons_inv h
 obtain ⟨a0,rfl,b0⟩:=h0.int_inv
 obtain ⟨c1,r1,rfl,h1,g1⟩:=All2.cons_inv g0
 obtain ⟨a1,rfl,b1,b1'⟩:=h1.list eTable okTable fit_Table
 obtain ⟨c2,r2,rfl,h2,g2⟩:=All2.cons_inv g1
 obtain ⟨a2,rfl,b2,b2'⟩:=h2.list eRows okRows fit_Rows
 obtain ⟨c3,r3,rfl,h3,g3⟩:=All2.cons_inv g2
 obtain ⟨a3,rfl,b3,b3'⟩:=h3.list eRec okRec fit_Rec
 obtain rfl:=All2.nil_inv g3
 exact ⟨⟨a0,⟨⟨a1⟩,a2⟩,a3⟩,rfl,⟨okI_wf b0,⟨⟨⟨b1,b1'⟩,trivial⟩,⟨b2,b2'⟩,trivial⟩,⟨b3,b3'⟩,trivial⟩⟩
def mTail (x:GTail):ML:= [(.s,.sc (.int .i64 x.fBase)),(.o 201 (fun _=> [.s,.o 236 (fun _=> [.s,.s,.s,.s,.s,.s,.s]),.o 9 (fun _=> [.s])]),.ls [.sc (.string ⟨#[]⟩),.ls [.sc (.string ⟨#[]⟩),.sc (.int .i64 0),.sc (.bool false),.sc (.bool false),.sc (.int .i64 0),.sc (.int .i64 0),.sc (.string ⟨#[]⟩)] [],.ls [.sc (.string ⟨#[]⟩)] []] (x.fDb.fCat.fTables.map eTable)),(.o 205 (fun _=> [.o 120 (fun _=> [.o 234 (fun _=> [.s,.s,.s])])]),.ls [.ls [.ls [.sc (.int .i64 0),.sc (.int .i64 0),.sc (.string ⟨#[]⟩)] []] []] (x.fDb.fData.map eRows)),(.o 128 (fun _=> [.s,.s,.s,.s,.o 234 (fun _=> [.s,.s,.s]),.o 234 (fun _=> [.s,.s,.s]),.s,.s,.o 236 (fun _=> [.s,.s,.s,.s,.s,.s,.s]),.o 9 (fun _=> [.s]),.s,.s]),.ls [.sc (.int .i64 0),.sc (.int .i64 0),.sc (.int .i64 0),.sc (.string ⟨#[]⟩),.ls [.sc (.int .i64 0),.sc (.int .i64 0),.sc (.string ⟨#[]⟩)] [],.ls [.sc (.int .i64 0),.sc (.int .i64 0),.sc (.string ⟨#[]⟩)] [],.sc (.int .i64 0),.sc (.string ⟨#[]⟩),.ls [.sc (.string ⟨#[]⟩),.sc (.int .i64 0),.sc (.bool false),.sc (.bool false),.sc (.int .i64 0),.sc (.int .i64 0),.sc (.string ⟨#[]⟩)] [],.ls [.sc (.string ⟨#[]⟩)] [],.sc (.string ⟨#[]⟩),.sc (.string ⟨#[]⟩)] (x.fRecs.map eRec))]
theorem szTail_ok (x:GTail) (left:Int) (h0:0≤left) (h1:left≤1048576) (hs: ∀n∈wTail x,okM n):VC Tryz.prog 55 [vTail x,int .i64 left] [(false,[(.s,.sc (.int .i64 (szL (wTail x) left)))])]:=by
 refine vc_of_ew good hm [0,1,2,4,10,16] Tryz.func55 rfl (by kernel_rfl) (by kernel_rfl) rfl ?_
 simp[Tryz.f55,vTail]
 refine .of (szDb_ok x.fDb left (by omega) (by omega) (fun n hn=>hs n (by simp[wTail,hn]))) ?_
 simp
 have hb0:=szL_le' (l:=wDb x.fDb) (left:=left) (by omega)
 have hc0:=szL_neg (wDb x.fDb) left (by omega)
 refine ⟨fun hn=> ?_,fun hk0=> ?_⟩
 ·have e:szL (wTail x) left= -1:=by rw[wTail,szL_app _ _ _ h0,if_pos (by omega)]
  rw[e]
  try omega
 have hq0: ¬(szL (wDb x.fDb) left)<0:=by omega
 have hz0:0≤(szL (wDb x.fDb) left):=by omega
 refine .of (szRecS_ok x.fRecs (szL (wDb x.fDb) left) (by omega) (by omega) (fun n hn=>hs n (by simp[wTail,hn]))) ?_
 simp
 have hb1:=szL_le' (l:=wRecS x.fRecs) (left:=(szL (wDb x.fDb) left)) (by omega)
 have hc1:=szL_neg (wRecS x.fRecs) (szL (wDb x.fDb) left) (by omega)
 by_cases hn:(szL (wRecS x.fRecs) (szL (wDb x.fDb) left))<0
 ·have e:szL (wTail x) left= -1:=by rw[wTail,szL_app _ _ _ h0,if_neg hq0,szL_app _ _ _ hz0,if_pos hn]
  rw[e]
  try omega
 ·have e:szL (wTail x) left=(szL (wRecS x.fRecs) (szL (wDb x.fDb) left)):=by rw[wTail,szL_app _ _ _ h0,if_neg hq0,szL_app _ _ _ hz0,if_neg hn];rfl
  rw[e]
  try omega
theorem toTail_ok (x:GTail) (hs: ∀n∈wTail x,n≤1048576):VC Tryz.prog 57 [vTail x] [(true,mTail x)]:=by
 refine vc_of_ew good hm [0,1,2,3] Tryz.func57 rfl (by kernel_rfl) (by kernel_rfl) rfl ?_
 simp[Tryz.f57,vTail,mTail]
 refine .of (toDb_ok x.fDb (fun n hn=>hs n (by simp[wTail,hn]))) ?_
 simp[mDb]
 refine .of (toRecS_ok x.fRecs (fun n hn=>hs n (by simp[wTail,hn]))) ?_
 simp[mRecS]
theorem eqTail_ok (x:GTail) (hs: ∀n∈wTail x,n≤1048576):VC Tryz.prog 59 [vTail x,vTail x] [(false,[(.s,.sc (.bool true))])]:=by
 refine vc_of_ew good hm [0,1,2,3,4,9,15,21] Tryz.func59 rfl (by kernel_rfl) (by kernel_rfl) rfl ?_
 simp[Tryz.f59,vTail]
 refine .of (eqDb_ok x.fDb (fun n hn=>hs n (by simp[wTail,hn]))) ?_
 simp
 refine .of (eqRecS_ok x.fRecs (fun n hn=>hs n (by simp[wTail,hn]))) ?_
 simp
def cvTail (x:GTail):Nat:=cvDb x.fDb+ctRecS x.fRecs
def mvTail (k:Nat) (x:GTail):GTail:= {x with fDb:=mvDb (k) x.fDb,fRecs:=mkRecS (k+cvDb x.fDb) x.fRecs}
theorem cvle_Tail (x:GTail):cvTail x≤64* (wTail x).sum:=by
 have:=cvle_Db x.fDb
 have:=ctle_RecS x.fRecs
 simp only[cvTail,wTail,List.sum_cons,List.sum_append,List.sum_nil]
 omega
theorem markVTail_ok (x:GTail) (k:Nat) (k':Int) (hkk':k'=(k:Int)) (hk:k+cvTail x≤4611686018427387904) (hs: ∀n∈wTail x,n≤4611686018427387904):VM Tryz.prog 60 [.v true [.s (.sc (.int .i64 x.fBase)),.r [900],.r [901],.r [902]],int .i64 k'] [(.o 201 (fun _=> [.s,.o 236 (fun _=> [.s,.s,.s,.s,.s,.s,.s]),.o 9 (fun _=> [.s])]),.ls [.sc (.string ⟨#[]⟩),.ls [.sc (.string ⟨#[]⟩),.sc (.int .i64 0),.sc (.bool false),.sc (.bool false),.sc (.int .i64 0),.sc (.int .i64 0),.sc (.string ⟨#[]⟩)] [],.ls [.sc (.string ⟨#[]⟩)] []] (x.fDb.fCat.fTables.map eTable),.ls [.sc (.string ⟨#[]⟩),.ls [.sc (.string ⟨#[]⟩),.sc (.int .i64 0),.sc (.bool false),.sc (.bool false),.sc (.int .i64 0),.sc (.int .i64 0),.sc (.string ⟨#[]⟩)] [],.ls [.sc (.string ⟨#[]⟩)] []] ((mvTail k x).fDb.fCat.fTables.map eTable)),(.o 205 (fun _=> [.o 120 (fun _=> [.o 234 (fun _=> [.s,.s,.s])])]),.ls [.ls [.ls [.sc (.int .i64 0),.sc (.int .i64 0),.sc (.string ⟨#[]⟩)] []] []] (x.fDb.fData.map eRows),.ls [.ls [.ls [.sc (.int .i64 0),.sc (.int .i64 0),.sc (.string ⟨#[]⟩)] []] []] ((mvTail k x).fDb.fData.map eRows)),(.o 128 (fun _=> [.s,.s,.s,.s,.o 234 (fun _=> [.s,.s,.s]),.o 234 (fun _=> [.s,.s,.s]),.s,.s,.o 236 (fun _=> [.s,.s,.s,.s,.s,.s,.s]),.o 9 (fun _=> [.s]),.s,.s]),.ls [.sc (.int .i64 0),.sc (.int .i64 0),.sc (.int .i64 0),.sc (.string ⟨#[]⟩),.ls [.sc (.int .i64 0),.sc (.int .i64 0),.sc (.string ⟨#[]⟩)] [],.ls [.sc (.int .i64 0),.sc (.int .i64 0),.sc (.string ⟨#[]⟩)] [],.sc (.int .i64 0),.sc (.string ⟨#[]⟩),.ls [.sc (.string ⟨#[]⟩),.sc (.int .i64 0),.sc (.bool false),.sc (.bool false),.sc (.int .i64 0),.sc (.int .i64 0),.sc (.string ⟨#[]⟩)] [],.ls [.sc (.string ⟨#[]⟩)] [],.sc (.string ⟨#[]⟩),.sc (.string ⟨#[]⟩)] (x.fRecs.map eRec),.ls [.sc (.int .i64 0),.sc (.int .i64 0),.sc (.int .i64 0),.sc (.string ⟨#[]⟩),.ls [.sc (.int .i64 0),.sc (.int .i64 0),.sc (.string ⟨#[]⟩)] [],.ls [.sc (.int .i64 0),.sc (.int .i64 0),.sc (.string ⟨#[]⟩)] [],.sc (.int .i64 0),.sc (.string ⟨#[]⟩),.ls [.sc (.string ⟨#[]⟩),.sc (.int .i64 0),.sc (.bool false),.sc (.bool false),.sc (.int .i64 0),.sc (.int .i64 0),.sc (.string ⟨#[]⟩)] [],.ls [.sc (.string ⟨#[]⟩)] [],.sc (.string ⟨#[]⟩),.sc (.string ⟨#[]⟩)] ((mvTail k x).fRecs.map eRec))] (some ((k:Int)+(cvTail x:Int))):=by
 subst hkk'
 refine vm_of_ew good hm [0,1,2,4,5000,5001,5002] Tryz.func60 rfl (by kernel_rfl) (by kernel_rfl) rfl fun pv=> ?_
 simp only[cvTail] at hk
 simp[Tryz.f60,mvTail,cvTail]
 refine .mut (markVDb_ok x.fDb (k) ((k:Int)) (by omega) (by omega) (fun n hn=>hs n (by simp[wTail,hn]))) ?_
 simp[mvCat,mvDdl,mvRow,mvStmt,mvDb,mvRec,mvBatch,mvPack,mvFol,mvSnap,mvTail]
 refine .mut (markRecS_ok x.fRecs (k+cvDb x.fDb) ((k:Int)+(cvDb x.fDb:Int)) (by omega) (by omega) (fun n hn=>hs n (by simp[wTail,hn]))) ?_
 simp[mvCat,mvDdl,mvRow,mvStmt,mvDb,mvRec,mvBatch,mvPack,mvFol,mvSnap,mvTail]
 try omega
def vBatchS (l:List GBatch):SV:=list [.sc (.int .i64 0),.sc (.int .i64 0),.ls [.sc (.int .i64 0),.sc (.string ⟨#[]⟩),.ls [.sc (.int .i64 0),.sc (.int .i64 0),.sc (.string ⟨#[]⟩)] [],.ls [.sc (.int .i64 0),.sc (.int .i64 0),.sc (.string ⟨#[]⟩)] [],.sc (.int .i64 0),.sc (.string ⟨#[]⟩),.ls [.sc (.string ⟨#[]⟩),.sc (.int .i64 0),.sc (.bool false),.sc (.bool false),.sc (.int .i64 0),.sc (.int .i64 0),.sc (.string ⟨#[]⟩)] [],.ls [.sc (.string ⟨#[]⟩)] [],.sc (.string ⟨#[]⟩),.sc (.string ⟨#[]⟩),.ls [.sc (.string ⟨#[]⟩)] [],.ls [.sc (.string ⟨#[]⟩)] []] []] (l.map eBatch)
def wBatchS (l:List GBatch):List Nat:=l.length::l.flatMap wBatch
def mBatchS (x:List GBatch):ML:= [(.o 62 (fun _=> [.s,.s,.o 150 (fun _=> [.s,.s,.o 234 (fun _=> [.s,.s,.s]),.o 234 (fun _=> [.s,.s,.s]),.s,.s,.o 236 (fun _=> [.s,.s,.s,.s,.s,.s,.s]),.o 9 (fun _=> [.s]),.s,.s,.o 9 (fun _=> [.s]),.o 9 (fun _=> [.s])])]),.ls [.sc (.int .i64 0),.sc (.int .i64 0),.ls [.sc (.int .i64 0),.sc (.string ⟨#[]⟩),.ls [.sc (.int .i64 0),.sc (.int .i64 0),.sc (.string ⟨#[]⟩)] [],.ls [.sc (.int .i64 0),.sc (.int .i64 0),.sc (.string ⟨#[]⟩)] [],.sc (.int .i64 0),.sc (.string ⟨#[]⟩),.ls [.sc (.string ⟨#[]⟩),.sc (.int .i64 0),.sc (.bool false),.sc (.bool false),.sc (.int .i64 0),.sc (.int .i64 0),.sc (.string ⟨#[]⟩)] [],.ls [.sc (.string ⟨#[]⟩)] [],.sc (.string ⟨#[]⟩),.sc (.string ⟨#[]⟩),.ls [.sc (.string ⟨#[]⟩)] [],.ls [.sc (.string ⟨#[]⟩)] []] []] (x.map eBatch))]
@[simp] theorem ow_BatchS (l:List GBatch):Ow (.o 62 (fun _=> [.s,.s,.o 150 (fun _=> [.s,.s,.o 234 (fun _=> [.s,.s,.s]),.o 234 (fun _=> [.s,.s,.s]),.s,.s,.o 236 (fun _=> [.s,.s,.s,.s,.s,.s,.s]),.o 9 (fun _=> [.s]),.s,.s,.o 9 (fun _=> [.s]),.o 9 (fun _=> [.s])])])) (.ls [.sc (.int .i64 0),.sc (.int .i64 0),.ls [.sc (.int .i64 0),.sc (.string ⟨#[]⟩),.ls [.sc (.int .i64 0),.sc (.int .i64 0),.sc (.string ⟨#[]⟩)] [],.ls [.sc (.int .i64 0),.sc (.int .i64 0),.sc (.string ⟨#[]⟩)] [],.sc (.int .i64 0),.sc (.string ⟨#[]⟩),.ls [.sc (.string ⟨#[]⟩),.sc (.int .i64 0),.sc (.bool false),.sc (.bool false),.sc (.int .i64 0),.sc (.int .i64 0),.sc (.string ⟨#[]⟩)] [],.ls [.sc (.string ⟨#[]⟩)] [],.sc (.string ⟨#[]⟩),.sc (.string ⟨#[]⟩),.ls [.sc (.string ⟨#[]⟩)] [],.ls [.sc (.string ⟨#[]⟩)] []] []] (l.map eBatch))=True:=eq_true (Ow_rows (fun x j hj=>match j,hj with|0,_=> .sc|1,_=> .sc|2,_=>of_eq_true (ow_PartS x.fParts)|n+3,hj=>absurd hj (by simp)) l)
@[simp] theorem full_BatchS (l:List GBatch):Full (.o 62 (fun _=> [.s,.s,.o 150 (fun _=> [.s,.s,.o 234 (fun _=> [.s,.s,.s]),.o 234 (fun _=> [.s,.s,.s]),.s,.s,.o 236 (fun _=> [.s,.s,.s,.s,.s,.s,.s]),.o 9 (fun _=> [.s]),.s,.s,.o 9 (fun _=> [.s]),.o 9 (fun _=> [.s])])])) (.ls [.sc (.int .i64 0),.sc (.int .i64 0),.ls [.sc (.int .i64 0),.sc (.string ⟨#[]⟩),.ls [.sc (.int .i64 0),.sc (.int .i64 0),.sc (.string ⟨#[]⟩)] [],.ls [.sc (.int .i64 0),.sc (.int .i64 0),.sc (.string ⟨#[]⟩)] [],.sc (.int .i64 0),.sc (.string ⟨#[]⟩),.ls [.sc (.string ⟨#[]⟩),.sc (.int .i64 0),.sc (.bool false),.sc (.bool false),.sc (.int .i64 0),.sc (.int .i64 0),.sc (.string ⟨#[]⟩)] [],.ls [.sc (.string ⟨#[]⟩)] [],.sc (.string ⟨#[]⟩),.sc (.string ⟨#[]⟩),.ls [.sc (.string ⟨#[]⟩)] [],.ls [.sc (.string ⟨#[]⟩)] []] []] (l.map eBatch))=True:=eq_true (Full_rows (fun x j hj=>match j,hj with|0,_=> .s|1,_=> .s|2,_=>of_eq_true (full_PartS x.fParts)|n+3,hj=>absurd hj (by simp)) l)
theorem eqBatchS_ok (x:List GBatch) (hs: ∀n∈wBatchS x,n≤1048576):VC Tryz.prog 31 [vBatchS x,vBatchS x] [(false,[(.s,.sc (.bool true))])]:=by
 refine vc_of_ew good hm [0,1,4,10,5,14,26] Tryz.func31 rfl (by kernel_rfl) (by kernel_rfl) rfl ?_
 have hl:x.length≤1048576:=hs _ (by simp[wBatchS])
 simp[Tryz.f31,vBatchS]
 refine ew_loop (fun E=> ∃i:Nat,i≤x.length∧E= {nt:=27,sl:= [(0,vBatchS x),(1,vBatchS x),(5,int .i64 i)],bx:= [],rt:= []}) (fun E=>x.length- (E.num 5).toNat) _ (Gh.keep _ [0,1,5]) ⟨0,by omega,by simp[vBatchS]⟩ ?_
 rintro E1 ⟨i,hi,rfl⟩
 simp[vBatchS,eBatch]
 intro h
 refine ⟨h,.of (eqBatch_ok (x[i]?.getD dBatch) (fun n hn=>hs n (List.mem_cons_of_mem _ (mem_flat (wt:=wBatch) h hn)))) ?_⟩
 simp
 refine .of _ (Gh.keep _ [0,1,5]) ⟨i+1,by omega, ?_⟩ ?_
 ·simp[wrapS (show i<9223372036854775807 by omega),vBatchS]
 ·simp[wrapS (show i<9223372036854775807 by omega)];omega
def ctBatch (x:GBatch):Nat:=2+ctPartS x.fParts
def mkBatch (k:Nat) (x:GBatch):GBatch:=⟨mkInt (k) x.fLsn,mkInt (k+1) x.fPrev,mkPartS (k+2) x.fParts⟩
theorem ctle_Batch (x:GBatch):ctBatch x≤64+64* (wBatch x).sum:=by
 have:=ctle_PartS x.fParts
 simp only[ctBatch,wBatch,List.sum_cons,List.sum_append,List.sum_nil]
 omega
def ctBatchS (l:List GBatch):Nat:=ctRw ctBatch l
def mkBatchS (k:Nat) (l:List GBatch):List GBatch:=mkRw mkBatch ctBatch k l
theorem ctle_BatchS (l:List GBatch):ctBatchS l≤64* (wBatchS l).sum:=by
 have:=ctRw_le64 ctBatch wBatch l (fun x _=>ctle_Batch x)
 simp only[wBatchS,List.sum_cons]
 exact this
theorem markBatchS_ok (x:List GBatch) (k:Nat) (k':Int) (hkk':k'=(k:Int)) (hk:k+ctBatchS x≤4611686018427387904) (hs: ∀n∈wBatchS x,n≤4611686018427387904):VM Tryz.prog 34 [.v false [.r [900]],int .i64 k'] [(.o 62 (fun _=> [.s,.s,.o 150 (fun _=> [.s,.s,.o 234 (fun _=> [.s,.s,.s]),.o 234 (fun _=> [.s,.s,.s]),.s,.s,.o 236 (fun _=> [.s,.s,.s,.s,.s,.s,.s]),.o 9 (fun _=> [.s]),.s,.s,.o 9 (fun _=> [.s]),.o 9 (fun _=> [.s])])]),.ls [.sc (.int .i64 0),.sc (.int .i64 0),.ls [.sc (.int .i64 0),.sc (.string ⟨#[]⟩),.ls [.sc (.int .i64 0),.sc (.int .i64 0),.sc (.string ⟨#[]⟩)] [],.ls [.sc (.int .i64 0),.sc (.int .i64 0),.sc (.string ⟨#[]⟩)] [],.sc (.int .i64 0),.sc (.string ⟨#[]⟩),.ls [.sc (.string ⟨#[]⟩),.sc (.int .i64 0),.sc (.bool false),.sc (.bool false),.sc (.int .i64 0),.sc (.int .i64 0),.sc (.string ⟨#[]⟩)] [],.ls [.sc (.string ⟨#[]⟩)] [],.sc (.string ⟨#[]⟩),.sc (.string ⟨#[]⟩),.ls [.sc (.string ⟨#[]⟩)] [],.ls [.sc (.string ⟨#[]⟩)] []] []] (x.map eBatch),.ls [.sc (.int .i64 0),.sc (.int .i64 0),.ls [.sc (.int .i64 0),.sc (.string ⟨#[]⟩),.ls [.sc (.int .i64 0),.sc (.int .i64 0),.sc (.string ⟨#[]⟩)] [],.ls [.sc (.int .i64 0),.sc (.int .i64 0),.sc (.string ⟨#[]⟩)] [],.sc (.int .i64 0),.sc (.string ⟨#[]⟩),.ls [.sc (.string ⟨#[]⟩),.sc (.int .i64 0),.sc (.bool false),.sc (.bool false),.sc (.int .i64 0),.sc (.int .i64 0),.sc (.string ⟨#[]⟩)] [],.ls [.sc (.string ⟨#[]⟩)] [],.sc (.string ⟨#[]⟩),.sc (.string ⟨#[]⟩),.ls [.sc (.string ⟨#[]⟩)] [],.ls [.sc (.string ⟨#[]⟩)] []] []] ((mkBatchS k x).map eBatch))] (some ((k:Int)+(ctBatchS x:Int))):=by
 subst hkk'
 have hl:x.length≤4611686018427387904:=hs _ (by simp[wBatchS])
 refine vm_of_ew good hm [0,1,4,5,9,5000] Tryz.func34 rfl (by kernel_rfl) (by kernel_rfl) rfl fun pv=> ?_
 simp[Tryz.f34]
 refine ew_loop (fun E=> ∃ (i K:Nat) (M:List (GBatch)),i≤x.length∧K=k+ctRw ctBatch (x.take i)∧M=mixR mkBatch ctBatch k x i∧E= {nt:=34,sl:= [(0,.v false [.r [900]]),(1,int .i64 (K:Int)),(5,int .i64 i),(5000,.pin 900 [] (pv 900))],bx:= [],rt:= [(900,.o 62 (fun _=> [.s,.s,.o 150 (fun _=> [.s,.s,.o 234 (fun _=> [.s,.s,.s]),.o 234 (fun _=> [.s,.s,.s]),.s,.s,.o 236 (fun _=> [.s,.s,.s,.s,.s,.s,.s]),.o 9 (fun _=> [.s]),.s,.s,.o 9 (fun _=> [.s]),.o 9 (fun _=> [.s])])]),.ls [.sc (.int .i64 0),.sc (.int .i64 0),.ls [.sc (.int .i64 0),.sc (.string ⟨#[]⟩),.ls [.sc (.int .i64 0),.sc (.int .i64 0),.sc (.string ⟨#[]⟩)] [],.ls [.sc (.int .i64 0),.sc (.int .i64 0),.sc (.string ⟨#[]⟩)] [],.sc (.int .i64 0),.sc (.string ⟨#[]⟩),.ls [.sc (.string ⟨#[]⟩),.sc (.int .i64 0),.sc (.bool false),.sc (.bool false),.sc (.int .i64 0),.sc (.int .i64 0),.sc (.string ⟨#[]⟩)] [],.ls [.sc (.string ⟨#[]⟩)] [],.sc (.string ⟨#[]⟩),.sc (.string ⟨#[]⟩),.ls [.sc (.string ⟨#[]⟩)] [],.ls [.sc (.string ⟨#[]⟩)] []] []] (M.map eBatch))]}) (fun E=>x.length- (E.num 5).toNat) _ (Gh.kb _ [0,1,5,5000] [] [900]) ⟨0,k,x,by omega,by simp[ctRw],by simp[mixR_zero],by simp⟩ ?_
 rintro E1 ⟨i,K,M,hi,hK,hM,rfl⟩
 have hfl:M.length=x.length:=by rw[hM];exact mixR_len mkBatch ctBatch k x i
 have hct:=ctRw_le ctBatch x i
 simp only[ctBatchS] at hk
 simp[hfl]
 refine ⟨fun h=> ?_,fun h=> ?_⟩
 ·have hg:M[i]? =x[i]? :=by rw[hM];exact mixR_get mkBatch ctBatch k x i h
  have hst:=mixR_set mkBatch ctBatch k x i (dBatch) h
  have hc1:=ctRw_lt ctBatch (dBatch) h
  have hs1:ctRw ctBatch (x.take (i+1))=ctRw ctBatch (x.take i)+ctBatch (x[i]?.getD (dBatch)):=ctRw_succ ctBatch (dBatch) h
  have hxi:x[i]? =some (x[i]?.getD (dBatch)):=by rw[List.getElem?_eq_getElem h];rfl
  have hy:(x[i]?.getD (dBatch))∈x:=getD_mem _ h
  rw[hxi] at hg
  rw[←hK,←hM] at hst
  generalize (x[i]?.getD (dBatch))=y at*
  have hg': ∀h',M[i]'h'=y:=fun h'=>by simpa [List.getElem?_eq_getElem h'] using hg
  have hse: ∀n∈wBatch y,n≤4611686018427387904:=fun n hn=>hs n (List.mem_cons_of_mem _ (List.mem_flatMap.2 ⟨y,hy,hn⟩))
  simp only[ctBatch] at hc1 hs1
  have w0:IntKind.i64.wrap ((K:Int)+1)=(K:Int)+1:=(wrapI (by omega) (by omega)).trans (by omega)
  have w1:IntKind.i64.wrap ((K:Int)+1+1)=(K:Int)+2:=(wrapI (by omega) (by omega)).trans (by omega)
  simp[md,lf,hg',hg,h,hfl,eBatch,w0,w1]
  refine .mut (markPartS_ok y.fParts (K+2) ((K:Int)+2) (by omega) (by omega) (fun n hn=>hse n (by simp[wBatch,hn]))) ?_
  simp[md,lf,hg',hg,h,hfl,eBatch,w0,w1]
  have e1:(k:Int)+(ctRw ctBatch (x.take (i+1)):Int)=(K:Int)+2+(ctPartS y.fParts:Int):=by omega
  refine .of _ (Gh.kb _ [0,1,5,5000] [] [900]) ⟨i+1,by omega, ?_⟩ ?_
  ·simp[wrapS (show i<9223372036854775807 by omega),e1,←hst,List.map_set,mkBatch,mkInt,eBatch,wrapU8]
  ·simp[wrapS (show i<9223372036854775807 by omega)];omega
 ·have:i=x.length:=by omega
  subst this
  subst hM
  subst hK
  simp[mixR_all,ctBatchS,mkBatchS]
theorem heldBatchS_ok (x:List GBatch) (k:Nat) (k':Int) (hkk':k'=(k:Int)) (hk:k+ctBatchS x≤4611686018427387904) (hs: ∀n∈wBatchS x,n≤4611686018427387904):VC Tryz.prog 35 [vBatchS (mkBatchS k x),int .i64 k'] [(false,[(.s,.sc (.int .i64 ((k:Int)+(ctBatchS x:Int))))])]:=by
 subst hkk'
 have hl:x.length≤4611686018427387904:=hs _ (by simp[wBatchS])
 refine vc_of_ew good hm [0,1,4,5,9,18,27,38] Tryz.func35 rfl (by kernel_rfl) (by kernel_rfl) rfl ?_
 simp[Tryz.f35,vBatchS]
 refine ew_loop (fun E=> ∃ (i K:Nat),i≤x.length∧K=k+ctRw ctBatch (x.take i)∧E= {nt:=40,sl:= [(0,vBatchS (mkBatchS k x)),(1,int .i64 (K:Int)),(5,int .i64 i)],bx:= [],rt:= []}) (fun E=>x.length- (E.num 5).toNat) _ (Gh.kb _ [0,1,5] [] []) ⟨0,k,by omega,by simp[ctRw],by simp[vBatchS]⟩ ?_
 rintro E1 ⟨i,K,hi,hK,rfl⟩
 have hfl:(mkBatchS k x).length=x.length:=mkRw_len mkBatch ctBatch k x
 have hct:=ctRw_le ctBatch x i
 simp only[ctBatchS] at hk
 simp[vBatchS,hfl]
 refine ⟨fun h=> ?_,fun h=> ?_⟩
 ·have hg:(mkBatchS k x)[i]? =some (mkBatch (k+ctRw ctBatch (x.take i)) (x[i]?.getD (dBatch))):=mkRw_get mkBatch ctBatch (dBatch) k x i h
  have hc1:=ctRw_lt ctBatch (dBatch) h
  have hs1:ctRw ctBatch (x.take (i+1))=ctRw ctBatch (x.take i)+ctBatch (x[i]?.getD (dBatch)):=ctRw_succ ctBatch (dBatch) h
  have hy:(x[i]?.getD (dBatch))∈x:=getD_mem _ h
  rw[←hK] at hg
  generalize (x[i]?.getD (dBatch))=y at*
  have hg2: ∀hh:i< (mkBatchS k x).length,(mkBatchS k x)[i]=mkBatch K y:=fun hh=>(List.getElem_eq_iff hh).2 hg
  have hse: ∀n∈wBatch y,n≤4611686018427387904:=fun n hn=>hs n (List.mem_cons_of_mem _ (List.mem_flatMap.2 ⟨y,hy,hn⟩))
  simp only[ctBatch] at hc1 hs1
  have w0:IntKind.i64.wrap ((K:Int)+1)=(K:Int)+1:=(wrapI (by omega) (by omega)).trans (by omega)
  have w1:IntKind.i64.wrap ((K:Int)+1+1)=(K:Int)+2:=(wrapI (by omega) (by omega)).trans (by omega)
  simp[md,lf,hg,hg2,h,hfl,eBatch,mkBatch,mkInt,wrapU8,w0,w1]
  refine .of (heldPartS_ok y.fParts (K+2) _ (by omega) (by omega) (fun n hn=>hse n (by simp[wBatch,hn]))) ?_
  have v2: ¬((K:Int)+2+(ctPartS y.fParts:Int)<0):=by omega
  have v3:0≤(K:Int)+2+(ctPartS y.fParts:Int):=by omega
  simp[md,lf,hg,hg2,h,hfl,eBatch,mkBatch,mkInt,wrapU8,w0,w1,v2,v3]
  have e1:(k:Int)+(ctRw ctBatch (x.take (i+1)):Int)=(K:Int)+2+(ctPartS y.fParts:Int):=by omega
  refine .of _ (Gh.kb _ [0,1,5] [] []) ⟨i+1,by omega, ?_⟩ ?_
  ·simp[wrapS (show i<9223372036854775807 by omega),e1,vBatchS]
  ·simp[wrapS (show i<9223372036854775807 by omega)];omega
 ·have:i=x.length:=by omega
  subst this
  subst hK
  simp[ctBatchS]
def vStmtS (l:List GStmt):SV:=list [.sc (.int .i64 0),.sc (.string ⟨#[]⟩),.ls [.sc (.int .i64 0),.sc (.int .i64 0),.sc (.string ⟨#[]⟩)] [],.ls [.sc (.int .i64 0),.sc (.int .i64 0),.sc (.string ⟨#[]⟩)] [],.sc (.int .i64 0),.sc (.string ⟨#[]⟩),.ls [.sc (.string ⟨#[]⟩),.sc (.int .i64 0),.sc (.bool false),.sc (.bool false),.sc (.int .i64 0),.sc (.int .i64 0),.sc (.string ⟨#[]⟩)] [],.ls [.sc (.string ⟨#[]⟩)] [],.sc (.string ⟨#[]⟩),.sc (.string ⟨#[]⟩)] (l.map eStmt)
def wStmtS (l:List GStmt):List Nat:=l.length::l.flatMap wStmt
def mStmtS (x:List GStmt):ML:= [(.o 126 (fun _=> [.s,.s,.o 234 (fun _=> [.s,.s,.s]),.o 234 (fun _=> [.s,.s,.s]),.s,.s,.o 236 (fun _=> [.s,.s,.s,.s,.s,.s,.s]),.o 9 (fun _=> [.s]),.s,.s]),.ls [.sc (.int .i64 0),.sc (.string ⟨#[]⟩),.ls [.sc (.int .i64 0),.sc (.int .i64 0),.sc (.string ⟨#[]⟩)] [],.ls [.sc (.int .i64 0),.sc (.int .i64 0),.sc (.string ⟨#[]⟩)] [],.sc (.int .i64 0),.sc (.string ⟨#[]⟩),.ls [.sc (.string ⟨#[]⟩),.sc (.int .i64 0),.sc (.bool false),.sc (.bool false),.sc (.int .i64 0),.sc (.int .i64 0),.sc (.string ⟨#[]⟩)] [],.ls [.sc (.string ⟨#[]⟩)] [],.sc (.string ⟨#[]⟩),.sc (.string ⟨#[]⟩)] (x.map eStmt))]
@[simp] theorem ow_StmtS (l:List GStmt):Ow (.o 126 (fun _=> [.s,.s,.o 234 (fun _=> [.s,.s,.s]),.o 234 (fun _=> [.s,.s,.s]),.s,.s,.o 236 (fun _=> [.s,.s,.s,.s,.s,.s,.s]),.o 9 (fun _=> [.s]),.s,.s])) (.ls [.sc (.int .i64 0),.sc (.string ⟨#[]⟩),.ls [.sc (.int .i64 0),.sc (.int .i64 0),.sc (.string ⟨#[]⟩)] [],.ls [.sc (.int .i64 0),.sc (.int .i64 0),.sc (.string ⟨#[]⟩)] [],.sc (.int .i64 0),.sc (.string ⟨#[]⟩),.ls [.sc (.string ⟨#[]⟩),.sc (.int .i64 0),.sc (.bool false),.sc (.bool false),.sc (.int .i64 0),.sc (.int .i64 0),.sc (.string ⟨#[]⟩)] [],.ls [.sc (.string ⟨#[]⟩)] [],.sc (.string ⟨#[]⟩),.sc (.string ⟨#[]⟩)] (l.map eStmt))=True:=eq_true (Ow_rows (fun x j hj=>match j,hj with|0,_=> .sc|1,_=> .sc|2,_=>of_eq_true (ow_ValS x.fKey)|3,_=>of_eq_true (ow_ValS x.fRow.fVals)|4,_=> .sc|5,_=> .sc|6,_=>of_eq_true (ow_ColS x.fDdl.fCols)|7,_=>of_eq_true (ow_StrS x.fDdl.fKeys)|8,_=> .sc|9,_=> .sc|n+10,hj=>absurd hj (by simp)) l)
@[simp] theorem full_StmtS (l:List GStmt):Full (.o 126 (fun _=> [.s,.s,.o 234 (fun _=> [.s,.s,.s]),.o 234 (fun _=> [.s,.s,.s]),.s,.s,.o 236 (fun _=> [.s,.s,.s,.s,.s,.s,.s]),.o 9 (fun _=> [.s]),.s,.s])) (.ls [.sc (.int .i64 0),.sc (.string ⟨#[]⟩),.ls [.sc (.int .i64 0),.sc (.int .i64 0),.sc (.string ⟨#[]⟩)] [],.ls [.sc (.int .i64 0),.sc (.int .i64 0),.sc (.string ⟨#[]⟩)] [],.sc (.int .i64 0),.sc (.string ⟨#[]⟩),.ls [.sc (.string ⟨#[]⟩),.sc (.int .i64 0),.sc (.bool false),.sc (.bool false),.sc (.int .i64 0),.sc (.int .i64 0),.sc (.string ⟨#[]⟩)] [],.ls [.sc (.string ⟨#[]⟩)] [],.sc (.string ⟨#[]⟩),.sc (.string ⟨#[]⟩)] (l.map eStmt))=True:=eq_true (Full_rows (fun x j hj=>match j,hj with|0,_=> .s|1,_=> .s|2,_=>of_eq_true (full_ValS x.fKey)|3,_=>of_eq_true (full_ValS x.fRow.fVals)|4,_=> .s|5,_=> .s|6,_=>of_eq_true (full_ColS x.fDdl.fCols)|7,_=>of_eq_true (full_StrS x.fDdl.fKeys)|8,_=> .s|9,_=> .s|n+10,hj=>absurd hj (by simp)) l)
end Go.Proofs.YteeolohhmfjafaaGreat
namespace Go.Proofs.YteeolohhmfjafaaGreat
open Go Go.Proofs Go.Sm
attribute [local simp] ti eStr eInt eByte eVal vVal eValS vValS eRow cRow vRow eCol vCol vColS vStrS eDdl cDdl vDdl eStmt cStmt vStmt ePart vPart vPartS eBatch vBatch eTable cTable vTable vTableS cCat vCat vRowS eRows vRows vRowsS cDb vDb eRec vRec vRecS eTail cTail vTail vBatchS vStmtS
set_option linter.unusedVariables false
set_option linter.unusedSimpArgs false
set_option maxRecDepth 8000
def within (x lo hi:Int):Bool:=decide (x≥lo)&&decide (x≤hi)
theorem within_ok (x lo hi:Int):VC Tryz.prog 235 [int .i64 x,int .i64 lo,int .i64 hi] [(false,[(.s,.sc (.bool (within x lo hi)))])]:=by
 refine vc_of_ew good hm [0,1,2,6] Tryz.func235 rfl (by kernel_rfl) (by kernel_rfl) rfl ?_
 simp[Tryz.f235,within]
def byteAt (s:ByteArray) (i:Nat):Int:=((s.data[i]?.getD 0).toNat:Int)
def letter (c:Int):Bool:=decide (97≤c)&&decide (c≤122)
theorem letter_iff (c:Int):letter c=true↔97≤c∧c≤122:=by simp[letter]
def lettersTo (s:ByteArray) (n:Nat):Bool:=(List.range n).all (fun i=>letter (byteAt s i))
def wordOk (s:ByteArray):Bool:=lettersTo s s.size&&within s.size 1 8
theorem lettersTo_succ (s:ByteArray) (n:Nat):lettersTo s (n+1)=(lettersTo s n&&letter (byteAt s n)):=by
 simp[lettersTo,List.range_succ,List.all_append]
theorem lettersTo_le {s:ByteArray} {n m:Nat} (h:lettersTo s m=true) (hnm:n≤m):lettersTo s n=true:=by
 simp only[lettersTo,List.all_eq_true,List.mem_range] at h⊢
 exact fun x hx=>h x (by omega)
theorem wordOk_no {s:ByteArray} {i:Nat} (hi:i<s.size) (h:letter (byteAt s i)=false):wordOk s=false:=by
 unfold wordOk
 cases hl:lettersTo s s.size with
 |false=>rfl
 |true=>
  have:=lettersTo_le hl (show i+1≤s.size by omega)
  rw[lettersTo_succ,h] at this
  simp at this
theorem wordOkI_ok (s:ByteArray) (hs:okM s.size):VC Tryz.prog 199 [str s] [(false,[(.s,.sc (.bool (wordOk s)))])]:=by
 unfold okM at hs
 refine vc_of_ew good hm [0,2,3,7,19] Tryz.func199 rfl (by kernel_rfl) (by kernel_rfl) rfl ?_
 simp[Tryz.f199]
 refine ew_loop (fun E=> ∃i:Nat,i≤s.size∧lettersTo s i=true∧E= {nt:=23,sl:= [(0,str s),(3,int .i64 i)],bx:= [],rt:= []}) (fun E=>s.size- (E.num 3).toNat) _ (Gh.kb _ [0,3] [] []) ⟨0,by omega,by simp[lettersTo],by simp⟩ ?_
 rintro E1 ⟨i,hi,hall,rfl⟩
 simp
 refine ⟨fun h=>⟨h,fun h1=>⟨h1,h⟩,fun h1=>wordOk_no h ?_,fun h1 h2=> .of _ (Gh.kb _ [0,3] [] []) ⟨i+1,by omega, ?_, ?_⟩ ?_⟩,fun h=> .of (within_ok _ _ _) ?_⟩
 ·rw[Bool.eq_false_iff];intro h;rw[letter_iff] at h;unfold byteAt at h;omega
 ·rw[lettersTo_succ,hall,Bool.true_and,letter_iff];unfold byteAt;omega
 ·simp[wrapS (show i<9223372036854775807 by omega)]
 ·simp[wrapS (show i<9223372036854775807 by omega)];omega
 ·have:i=s.size:=by omega
  subst this
  simp[wordOk,hall]
theorem wordOkS_ok (s:ByteArray) (hs:okM s.size):VC Tryz.prog 285 [str s] [(false,[(.s,.sc (.bool (wordOk s)))])]:=by
 unfold okM at hs
 refine vc_of_ew good hm [0,2,3,7,19] Tryz.func285 rfl (by kernel_rfl) (by kernel_rfl) rfl ?_
 simp[Tryz.f285]
 refine ew_loop (fun E=> ∃i:Nat,i≤s.size∧lettersTo s i=true∧E= {nt:=28,sl:= [(0,str s),(3,int .i64 i)],bx:= [],rt:= []}) (fun E=>s.size- (E.num 3).toNat) _ (Gh.kb _ [0,3] [] []) ⟨0,by omega,by simp[lettersTo],by simp⟩ ?_
 rintro E1 ⟨i,hi,hall,rfl⟩
 simp
 refine ⟨fun h=>⟨h,fun h1=>⟨h1,h⟩,fun h1=>wordOk_no h ?_,fun h1 h2=> .of _ (Gh.kb _ [0,3] [] []) ⟨i+1,by omega, ?_, ?_⟩ ?_⟩,fun h=> ?_⟩
 ·rw[Bool.eq_false_iff];intro h;rw[letter_iff] at h;unfold byteAt at h;omega
 ·rw[lettersTo_succ,hall,Bool.true_and,letter_iff];unfold byteAt;omega
 ·simp[wrapS (show i<9223372036854775807 by omega)]
 ·simp[wrapS (show i<9223372036854775807 by omega)];omega
 ·have:i=s.size:=by omega
  subst this
  simp[wordOk,hall,within]
def geq (a b:ByteArray):Bool:= !Op.bytesLess a.toList b.toList
theorem wrapP {i:Nat} (h0:0<i) (h:i≤9223372036854775807):IntKind.i64.wrap ((i:Int)-1)=((i-1:Nat):Int):=by
 rw[wrapI (by omega) (by omega)]
 omega
theorem rangeAll_succ (p:Nat→Bool) (n:Nat):(List.range (n+1)).all p=((List.range n).all p&&p n):=by
 simp[List.range_succ,List.all_append]
theorem rangeAll_no {p:Nat→Bool} {n i:Nat} (hi:i<n) (h:p i=false):(List.range n).all p=false:=by
 rw[Bool.eq_false_iff]
 intro ht
 simp only[List.all_eq_true,List.mem_range] at ht
 rw[ht i hi] at h
 cases h
end Go.Proofs.YteeolohhmfjafaaGreat
namespace Go.Proofs.YteeolohhmfjafaaGreat
open Go Go.Proofs Go.Sm
attribute [local simp] ti eStr eInt eByte eVal vVal eValS vValS eRow cRow vRow eCol vCol vColS vStrS eDdl cDdl vDdl eStmt cStmt vStmt ePart vPart vPartS eBatch vBatch eTable cTable vTable vTableS cCat vCat vRowS eRows vRows vRowsS cDb vDb eRec vRec vRecS eTail cTail vTail vBatchS vStmtS
set_option linter.unusedVariables false
set_option linter.unusedSimpArgs false
set_option maxRecDepth 8000
def em (s:ByteArray):Bool:=s.toList.isEmpty
def valOk (v:GVal):Bool:=(decide (v.fTy=0)&& (decide (v.fN=0)&&em v.fS))||(decide (v.fTy=1)&& ((decide (v.fN=0)||decide (v.fN=1))&&em v.fS))||(decide (v.fTy=2)&& (within v.fN (-1099511627775) 1099511627775&&em v.fS))||(decide (v.fTy=3)&& (decide (v.fN=0)&&decide ((v.fS.size:Int)≤30)))
def nullV (v:GVal):Bool:=decide (v.fTy=0)&& (decide (v.fN=0)&&em v.fS)
theorem within01 (n:Int):within n 0 1=(decide (n=0)||decide (n=1)):=by
 unfold within
 rw[Bool.eq_iff_iff]
 simp
 omega
theorem beqI (a b:Int):(a==b)=decide (a=b):=rfl
theorem l01Num_ok (n:Int):VC Tryz.prog 360 [int .i64 n] [(false,[(.s,.sc (.bool (within n (-1099511627775) 1099511627775)))])]:=by
 refine vc_of_ew good hm [0,2] Tryz.func360 rfl (by kernel_rfl) (by kernel_rfl) rfl ?_
 simp[Tryz.f360,within]
theorem valOkS_ok (v:GVal):VC Tryz.prog 378 [vVal v] [(false,[(.s,.sc (.bool (valOk v)))])]:=by
 refine vc_of_ew good hm [0,1,2,4,5,15,30,40] Tryz.func378 rfl (by kernel_rfl) (by kernel_rfl) rfl ?_
 simp[Tryz.f378]
 refine ⟨fun h=>by simp[valOk,h,em],fun h0=>⟨fun h=>by simp[valOk,h,em],fun h1=>⟨fun h=> .of (l01Num_ok _) ?_,fun h2=>⟨fun h=>by simp[valOk,h],fun h3=>by simp[valOk,h0,h1,h2,h3]⟩⟩⟩⟩
 simp[valOk,h,em]
theorem valOkI_ok (v:GVal):VC Tryz.prog 311 [vVal v] [(false,[(.s,.sc (.bool (valOk v)))])]:=by
 refine vc_of_ew good hm [0,1,2,4,5,10,20,30] Tryz.func311 rfl (by kernel_rfl) (by kernel_rfl) rfl ?_
 simp[Tryz.f311]
 refine ⟨fun h=>by simp[valOk,h,em,beqI],fun h0=>⟨fun h=> .of (within_ok _ _ _) ?_,fun h1=>⟨fun h=> .of (within_ok _ _ _) ?_,fun h2=>⟨fun h=>by simp[valOk,h],fun h3=>by simp[valOk,h0,h1,h2,h3]⟩⟩⟩⟩
 ·simp[valOk,h,em,within01]
 ·simp[valOk,h,em]
def valLess (a b:GVal):Bool:=valOk a&&valOk b&& (decide (a.fTy<b.fTy)||(decide (a.fTy=b.fTy)&& (decide (a.fN<b.fN)||(decide (a.fN=b.fN)&&Op.bytesLess a.fS.toList b.fS.toList))))
theorem valLessS_ok (a b:GVal):VC Tryz.prog 377 [vVal a,vVal b] [(false,[(.s,.sc (.bool (valLess a b)))])]:=by
 refine vc_of_ew good hm [0,1,2,3,4,12,17] Tryz.func377 rfl (by kernel_rfl) (by kernel_rfl) rfl ?_
 simp[Tryz.f377]
 refine .of (valOkS_ok a) ?_
 simp
 refine .of (fun h=>⟨h,valOkS_ok b⟩) ?_
 simp
 grind[valLess]
theorem valLessI_ok (a b:GVal):VC Tryz.prog 386 [vVal a,vVal b] [(false,[(.s,.sc (.bool (valLess a b)))])]:=by
 refine vc_of_ew good hm [0,1,2,3,4,5,14,25] Tryz.func386 rfl (by kernel_rfl) (by kernel_rfl) rfl ?_
 simp[Tryz.f386]
 refine .of (valOkI_ok a) ?_
 simp
 refine .of (fun h=>⟨h,valOkI_ok b⟩) ?_
 simp
 grind[valLess]
end Go.Proofs.YteeolohhmfjafaaGreat
namespace Go.Proofs.YteeolohhmfjafaaGreat
open Go Go.Proofs Go.Sm
attribute [local simp] ti eStr eInt eByte eVal vVal eValS vValS eRow cRow vRow eCol vCol vColS vStrS eDdl cDdl vDdl eStmt cStmt vStmt ePart vPart vPartS eBatch vBatch eTable cTable vTable vTableS cCat vCat vRowS eRows vRows vRowsS cDb vDb eRec vRec vRecS eTail cTail vTail vBatchS vStmtS
set_option linter.unusedVariables false
set_option linter.unusedSimpArgs false
set_option maxRecDepth 8000
def idxF {α:Type} (p:α→Bool) (l:List α):Int:=if l.any p then (l.findIdx p:Int) else-1
def anyT {α:Type} (p:α→Bool) (l:List α) (i:Nat):Bool:=(l.take i).any p
theorem anyT_zero {α:Type} (p:α→Bool) (l:List α):anyT p l 0=false:=by simp[anyT]
theorem anyT_all {α:Type} (p:α→Bool) (l:List α):anyT p l l.length=l.any p:=by simp[anyT]
theorem anyT_succ {α:Type} (p:α→Bool) (d:α) {l:List α} {i:Nat} (h:i<l.length):anyT p l (i+1)=(anyT p l i||p (l[i]?.getD d)):=by
 unfold anyT
 rw[List.take_succ_eq_append_getElem h,List.any_append,List.getElem?_eq_getElem h]
 simp
theorem idxF_at {α:Type} (p:α→Bool) (d:α) {l:List α} {i:Nat} (h:i<l.length) (h0:anyT p l i=false) (hp:p (l[i]?.getD d)=true):idxF p l=i:=by
 rw[List.getElem?_eq_getElem h,Option.getD_some] at hp
 have ha:l.any p=true:=List.any_eq_true.2 ⟨_,List.getElem_mem h,hp⟩
 rw[idxF,if_pos ha,(List.findIdx_eq h).2 ⟨hp,fun j hj=> ?_⟩]
 rw[anyT,List.any_eq_false] at h0
 have:=h0 l[j] (List.mem_take_iff_getElem.2 ⟨j,by omega,rfl⟩)
 simpa using this
theorem idxF_no {α:Type} (p:α→Bool) {l:List α} (h0:l.any p=false):idxF p l= -1:=by simp[idxF,h0]
theorem idxF_ge {α:Type} (p:α→Bool) (l:List α):decide (0≤idxF p l)=l.any p:=by
 unfold idxF
 split
 ·rename_i h;simp[h]
 ·rename_i h;simp only[Bool.not_eq_true] at h;rw[h];rfl
theorem idxF_bd {α:Type} (p:α→Bool) (l:List α): -1≤idxF p l∧idxF p l<l.length:=by
 unfold idxF
 split
 ·rename_i h
  have:=List.findIdx_lt_length.2 (List.any_eq_true.1 h)
  omega
 ·omega
theorem idxTable1_ok (l:List GTable) (k:Nat) (ds:List Lf) (p:GTable→Bool) (hl:okM l.length) (hk: ∀x∈l,VC Tryz.prog k [vTable x,.p (.ps ds)] [(false,[(.s,.sc (.bool (p x)))])]):
  VC Tryz.prog 303 [vTableS l,.fn k [.ps ds]] [(false,[(.s,.sc (.int .i64 (idxF p l)))])]:=by
 unfold okM at hl
 refine vc_of_ew good hm [0,1,4,7,8,9,5,16] Tryz.func303 rfl (by kernel_rfl) (by kernel_rfl) rfl ?_
 simp[Tryz.f303]
 refine ew_loop (fun E=> ∃i:Nat,i≤l.length∧anyT p l i=false∧E= {nt:=19,sl:= [(0,vTableS l),(1,.fn k [.ps ds]),(7,int .i64 l.length),(8,int .i64 i)],bx:= [],rt:= []}) (fun E=>l.length- (E.num 8).toNat) _ (Gh.kb _ [0,1,7,8] [] []) ⟨0,by omega,anyT_zero _ _,by simp⟩ ?_
 rintro E1 ⟨i,hi,hall,rfl⟩
 simp
 refine ⟨fun h=>⟨h,.of (hk _ (getD_mem dTable h)) ?_⟩,fun h=> ?_⟩
 ·simp
  refine ⟨fun hp=>(idxF_at p dTable h hall hp).symm,fun hp=> .of _ (Gh.kb _ [0,1,7,8] [] []) ⟨i+1,by omega,by rw[anyT_succ p dTable h,hall,hp];rfl, ?_⟩ ?_⟩
  ·simp[wrapS (show i<9223372036854775807 by omega)]
  ·simp[wrapS (show i<9223372036854775807 by omega)];omega
 ·have:i=l.length:=by omega
  subst this
  rw[anyT_all] at hall
  exact (idxF_no p hall).symm
theorem idxVal0_ok (l:List GVal) (k:Nat) (p:GVal→Bool) (hl:okM l.length) (hk: ∀x∈l,VC Tryz.prog k [vVal x] [(false,[(.s,.sc (.bool (p x)))])]):
  VC Tryz.prog 387 [vValS l,.fn k []] [(false,[(.s,.sc (.int .i64 (idxF p l)))])]:=by
 unfold okM at hl
 refine vc_of_ew good hm [0,1,4,7,8,9,5,16] Tryz.func387 rfl (by kernel_rfl) (by kernel_rfl) rfl ?_
 simp[Tryz.f387]
 refine ew_loop (fun E=> ∃i:Nat,i≤l.length∧anyT p l i=false∧E= {nt:=19,sl:= [(0,vValS l),(1,.fn k []),(7,int .i64 l.length),(8,int .i64 i)],bx:= [],rt:= []}) (fun E=>l.length- (E.num 8).toNat) _ (Gh.kb _ [0,1,7,8] [] []) ⟨0,by omega,anyT_zero _ _,by simp⟩ ?_
 rintro E1 ⟨i,hi,hall,rfl⟩
 simp
 refine ⟨fun h=>⟨h,.of (hk _ (getD_mem dVal h)) ?_⟩,fun h=> ?_⟩
 ·simp
  refine ⟨fun hp=>(idxF_at p dVal h hall hp).symm,fun hp=> .of _ (Gh.kb _ [0,1,7,8] [] []) ⟨i+1,by omega,by rw[anyT_succ p dVal h,hall,hp];rfl, ?_⟩ ?_⟩
  ·simp[wrapS (show i<9223372036854775807 by omega)]
  ·simp[wrapS (show i<9223372036854775807 by omega)];omega
 ·have:i=l.length:=by omega
  subst this
  rw[anyT_all] at hall
  exact (idxF_no p hall).symm
theorem idxRow2_ok (l:List GRow) (k:Nat) (ds es:List Lf) (p:GRow→Bool) (hl:okM l.length) (hk: ∀x∈l,VC Tryz.prog k [vRow x,.p (.ps ds),.p (.ps es)] [(false,[(.s,.sc (.bool (p x)))])]):
  VC Tryz.prog 396 [vRowS l,.fn k [.ps ds,.ps es]] [(false,[(.s,.sc (.int .i64 (idxF p l)))])]:=by
 unfold okM at hl
 refine vc_of_ew good hm [0,1,4,7,8,9,5,16] Tryz.func396 rfl (by kernel_rfl) (by kernel_rfl) rfl ?_
 simp[Tryz.f396]
 refine ew_loop (fun E=> ∃i:Nat,i≤l.length∧anyT p l i=false∧E= {nt:=19,sl:= [(0,vRowS l),(1,.fn k [.ps ds,.ps es]),(7,int .i64 l.length),(8,int .i64 i)],bx:= [],rt:= []}) (fun E=>l.length- (E.num 8).toNat) _ (Gh.kb _ [0,1,7,8] [] []) ⟨0,by omega,anyT_zero _ _,by simp⟩ ?_
 rintro E1 ⟨i,hi,hall,rfl⟩
 simp
 refine ⟨fun h=>⟨h,.of (hk _ (getD_mem dRow h)) ?_⟩,fun h=> ?_⟩
 ·simp
  refine ⟨fun hp=>(idxF_at p dRow h hall hp).symm,fun hp=> .of _ (Gh.kb _ [0,1,7,8] [] []) ⟨i+1,by omega,by rw[anyT_succ p dRow h,hall,hp];rfl, ?_⟩ ?_⟩
  ·simp[wrapS (show i<9223372036854775807 by omega)]
  ·simp[wrapS (show i<9223372036854775807 by omega)];omega
 ·have:i=l.length:=by omega
  subst this
  rw[anyT_all] at hall
  exact (idxF_no p hall).symm
theorem idxCol1_ok (l:List GCol) (k:Nat) (ds:List Lf) (p:GCol→Bool) (hl:okM l.length) (hk: ∀x∈l,VC Tryz.prog k [vCol x,.p (.ps ds)] [(false,[(.s,.sc (.bool (p x)))])]):
  VC Tryz.prog 404 [vColS l,.fn k [.ps ds]] [(false,[(.s,.sc (.int .i64 (idxF p l)))])]:=by
 unfold okM at hl
 refine vc_of_ew good hm [0,1,4,7,8,9,5,16] Tryz.func404 rfl (by kernel_rfl) (by kernel_rfl) rfl ?_
 simp[Tryz.f404]
 refine ew_loop (fun E=> ∃i:Nat,i≤l.length∧anyT p l i=false∧E= {nt:=19,sl:= [(0,vColS l),(1,.fn k [.ps ds]),(7,int .i64 l.length),(8,int .i64 i)],bx:= [],rt:= []}) (fun E=>l.length- (E.num 8).toNat) _ (Gh.kb _ [0,1,7,8] [] []) ⟨0,by omega,anyT_zero _ _,by simp⟩ ?_
 rintro E1 ⟨i,hi,hall,rfl⟩
 simp
 refine ⟨fun h=>⟨h,.of (hk _ (getD_mem dCol h)) ?_⟩,fun h=> ?_⟩
 ·simp
  refine ⟨fun hp=>(idxF_at p dCol h hall hp).symm,fun hp=> .of _ (Gh.kb _ [0,1,7,8] [] []) ⟨i+1,by omega,by rw[anyT_succ p dCol h,hall,hp];rfl, ?_⟩ ?_⟩
  ·simp[wrapS (show i<9223372036854775807 by omega)]
  ·simp[wrapS (show i<9223372036854775807 by omega)];omega
 ·have:i=l.length:=by omega
  subst this
  rw[anyT_all] at hall
  exact (idxF_no p hall).symm
theorem indexStr_ok (l:List ByteArray) (s:ByteArray) (hl:okM l.length):
  VC Tryz.prog 161 [vStrS l,str s] [(false,[(.s,.sc (.int .i64 (idxF (fun x=>s.toList==x.toList) l)))])]:=by
 unfold okM at hl
 refine vc_of_ew good hm [0,1,4,7,8,9,5,16] Tryz.func161 rfl (by kernel_rfl) (by kernel_rfl) rfl ?_
 simp[Tryz.f161]
 refine ew_loop (fun E=> ∃i:Nat,i≤l.length∧anyT (fun x=>s.toList==x.toList) l i=false∧E= {nt:=19,sl:= [(0,vStrS l),(1,str s),(7,int .i64 l.length),(8,int .i64 i)],bx:= [],rt:= []}) (fun E=>l.length- (E.num 8).toNat) _ (Gh.kb _ [0,1,7,8] [] []) ⟨0,by omega,anyT_zero _ _,by simp⟩ ?_
 rintro E1 ⟨i,hi,hall,rfl⟩
 simp
 refine ⟨fun h=>⟨h,fun hp=>(idxF_at _ (⟨#[]⟩:ByteArray) h hall (by simpa using hp)).symm,fun hp=> .of _ (Gh.kb _ [0,1,7,8] [] []) ⟨i+1,by omega,by rw[anyT_succ _ (⟨#[]⟩:ByteArray) h,hall];simpa using hp, ?_⟩ ?_⟩,fun h=> ?_⟩
 ·simp[wrapS (show i<9223372036854775807 by omega)]
 ·simp[wrapS (show i<9223372036854775807 by omega)];omega
 ·have:i=l.length:=by omega
  subst this
  rw[anyT_all] at hall
  exact (idxF_no _ hall).symm
theorem hasVal0_ok (l:List GVal) (k:Nat) (p:GVal→Bool) (hl:okM l.length) (hk: ∀x∈l,VC Tryz.prog k [vVal x] [(false,[(.s,.sc (.bool (p x)))])]):
  VC Tryz.prog 309 [vValS l,.fn k []] [(false,[(.s,.sc (.bool (l.any p)))])]:=by
 refine vc_of_ew good hm [0,1,4] Tryz.func309 rfl (by kernel_rfl) (by kernel_rfl) rfl ?_
 simp[Tryz.f309]
 refine .of (idxVal0_ok l k p hl hk) ?_
 simp
 exact idxF_ge p l
theorem containsStr_ok (l:List ByteArray) (s:ByteArray) (hl:okM l.length):
  VC Tryz.prog 415 [vStrS l,str s] [(false,[(.s,.sc (.bool (l.any (fun x=>s.toList==x.toList))))])]:=by
 refine vc_of_ew good hm [0,1,4] Tryz.func415 rfl (by kernel_rfl) (by kernel_rfl) rfl ?_
 simp[Tryz.f415]
 refine .of (indexStr_ok l s hl) ?_
 simp
 rw[idxF_ge]
end Go.Proofs.YteeolohhmfjafaaGreat
namespace Go.Proofs.YteeolohhmfjafaaGreat
open Go Go.Proofs Go.Sm
attribute [local simp] ti eStr eInt eByte eVal vVal eValS vValS eRow cRow vRow eCol vCol vColS vStrS eDdl cDdl vDdl eStmt cStmt vStmt ePart vPart vPartS eBatch vBatch eTable cTable vTable vTableS cCat vCat vRowS eRows vRows vRowsS cDb vDb eRec vRec vRecS eTail cTail vTail vBatchS vStmtS
set_option linter.unusedVariables false
set_option linter.unusedSimpArgs false
set_option maxRecDepth 8000
def colOk (c:GCol):Bool:=wordOk c.fName&&within c.fTy 1 3&& (if c.fHas then valOk c.fDef&& (decide (c.fDef.fTy=c.fTy)||(decide (c.fDef.fTy=0)&& !c.fNot)) else nullV c.fDef)
theorem colOkS_ok (c:GCol) (hc:okCol c):VC Tryz.prog 375 [vCol c] [(false,[(.s,.sc (.bool (colOk c)))])]:=by
 refine vc_of_ew good hm [0,1,2,3,21,24] Tryz.func375 rfl (by kernel_rfl) (by kernel_rfl) rfl ?_
 simp[Tryz.f375]
 refine .of (wordOkS_ok _ hc.1) ?_
 simp[beqI]
 refine ⟨fun h=>by grind[colOk,within],fun h1 h2 h3=>⟨fun h4=>by grind[colOk,nullV,em,within],fun h4=> .of (valOkS_ok _) ?_⟩⟩
 simp
 grind[colOk,nullV,em,within,valOk]
theorem colOkI_ok (c:GCol) (hc:okCol c):VC Tryz.prog 306 [vCol c] [(false,[(.s,.sc (.bool (colOk c)))])]:=by
 refine vc_of_ew good hm [0,1,2,18,21] Tryz.func306 rfl (by kernel_rfl) (by kernel_rfl) rfl ?_
 simp[Tryz.f306]
 refine .of (wordOkI_ok _ hc.1) ?_
 simp[beqI]
 refine .of (fun h=>⟨h,within_ok _ _ _⟩) ?_
 simp[beqI]
 refine .of (fun h=>⟨h,valOkI_ok _⟩) ?_
 simp[beqI]
 grind[colOk,nullV,em,within,valOk]
def colAt (t:GTable) (s:ByteArray):Int:=idxF (fun c:GCol=>c.fName.toList==s.toList) t.fCols
theorem colAtS_ok (t:GTable) (s:ByteArray) (hl:okM t.fCols.length):VC Tryz.prog 333 [vTable t,str s] [(false,[(.s,.sc (.int .i64 (colAt t s)))])]:=by
 unfold okM at hl
 refine vc_of_ew good hm [0,1,2,4,8,9,10,11,6,5,18] Tryz.func333 rfl (by kernel_rfl) (by kernel_rfl) rfl ?_
 simp[Tryz.f333]
 refine ew_loop (fun E=> ∃i:Nat,i≤t.fCols.length∧anyT (fun c:GCol=>c.fName.toList==s.toList) t.fCols i=false∧E= {nt:=21,sl:= [(1,str s),(8,vColS t.fCols),(9,int .i64 t.fCols.length),(10,int .i64 i)],bx:= [],rt:= []}) (fun E=>t.fCols.length- (E.num 10).toNat) _ (Gh.kb _ [1,8,9,10] [] []) ⟨0,by omega,anyT_zero _ _,by simp⟩ ?_
 rintro E1 ⟨i,hi,hall,rfl⟩
 simp
 refine ⟨fun h=>⟨h,fun hp=>(idxF_at _ dCol h hall (by simpa using hp)).symm,fun hp=> .of _ (Gh.kb _ [1,8,9,10] [] []) ⟨i+1,by omega,by rw[anyT_succ _ dCol h,hall];simpa using hp, ?_⟩ ?_⟩,fun h=> ?_⟩
 ·simp[wrapS (show i<9223372036854775807 by omega)]
 ·simp[wrapS (show i<9223372036854775807 by omega)];omega
 ·have:i=t.fCols.length:=by omega
  subst this
  rw[anyT_all] at hall
  exact (idxF_no _ hall).symm
theorem colAt1_ok (c:GCol) (s:ByteArray):VC Tryz.prog 405 [vCol c,.p (.ps [.sc (.string s)])] [(false,[(.s,.sc (.bool (c.fName.toList==s.toList)))])]:=by
 refine vc_of_ew good hm [0,1,2,3] Tryz.func405 rfl (by kernel_rfl) (by kernel_rfl) rfl ?_
 simp[Tryz.f405]
theorem colAtI_ok (t:GTable) (s:ByteArray) (hl:okM t.fCols.length):VC Tryz.prog 339 [vTable t,str s] [(false,[(.s,.sc (.int .i64 (colAt t s)))])]:=by
 refine vc_of_ew good hm [0,1,2,3,4] Tryz.func339 rfl (by kernel_rfl) (by kernel_rfl) rfl ?_
 simp[Tryz.f339]
 refine .of (idxCol1_ok t.fCols _ _ (fun c:GCol=>c.fName.toList==s.toList) hl (fun x _=>colAt1_ok x s)) ?_
 simp[colAt]
end Go.Proofs.YteeolohhmfjafaaGreat
namespace Go.Proofs.YteeolohhmfjafaaGreat
open Go Go.Proofs Go.Sm
attribute [local simp] ti eStr eInt eByte eVal vVal eValS vValS eRow cRow vRow eCol vCol vColS vStrS eDdl cDdl vDdl eStmt cStmt vStmt ePart vPart vPartS eBatch vBatch eTable cTable vTable vTableS cCat vCat vRowS eRows vRows vRowsS cDb vDb eRec vRec vRecS eTail cTail vTail vBatchS vStmtS
set_option linter.unusedVariables false
set_option linter.unusedSimpArgs false
set_option maxRecDepth 8000
def colsOkAt (t:GTable) (i:Nat):Bool:=colOk (t.fCols[i]?.getD dCol)&&decide (colAt t (t.fCols[i]?.getD dCol).fName=i)
def colsTo (t:GTable) (n:Nat):Bool:=(List.range n).all (colsOkAt t)
def lastK (t:GTable) (i:Nat):Int:=if i=0 then-1 else colAt t (t.fKeys[i-1]?.getD ⟨#[]⟩)
def keyOkAt (t:GTable) (i:Nat):Bool:=decide (lastK t i<colAt t (t.fKeys[i]?.getD ⟨#[]⟩))&& (t.fCols[(colAt t (t.fKeys[i]?.getD ⟨#[]⟩)).toNat]?.getD dCol).fNot
def keysTo (t:GTable) (n:Nat):Bool:=(List.range n).all (keyOkAt t)
def tableOk (t:GTable):Bool:=wordOk t.fName&& (within t.fCols.length 1 8&&decide (0<t.fKeys.length))&& (colsTo t t.fCols.length&&keysTo t t.fKeys.length)
theorem colsTo_no {t:GTable} {i:Nat} (hi:i<t.fCols.length) (h:colsOkAt t i=false):tableOk t=false:=by
 simp[tableOk,colsTo,rangeAll_no hi h]
theorem keysTo_no {t:GTable} {i:Nat} (hi:i<t.fKeys.length) (h:keyOkAt t i=false):tableOk t=false:=by
 simp[tableOk,keysTo,rangeAll_no hi h]
theorem lastK_succ (t:GTable) (i:Nat):lastK t (i+1)=colAt t (t.fKeys[i]?.getD ⟨#[]⟩):=by simp[lastK]
theorem lastK_ge (t:GTable) (i:Nat): -1≤lastK t i:=by
 unfold lastK
 split
 ·omega
 ·exact (idxF_bd _ _).1
theorem tableOkS_ok (t:GTable) (ht:okTable t):VC Tryz.prog 280 [vTable t] [(false,[(.s,.sc (.bool (tableOk t)))])]:=by
 obtain ⟨hn,hc,hk,_⟩:=ht
 have hcl:t.fCols.length≤9223372036854775807:=hc.1
 have hkl:t.fKeys.length≤9223372036854775807:=hk.1
 refine vc_of_ew good hm [0,1,2,30,32,33,34,35,4,3,49,5,52,53,54,55,7,8,72] Tryz.func280 rfl (by kernel_rfl) (by kernel_rfl) rfl ?_
 simp[Tryz.f280]
 refine .of (wordOkS_ok _ hn) ?_
 simp
 refine ⟨fun h=>by grind[tableOk,within],fun a1 a2 a3 a4=> ?_⟩
 refine ew_loop (fun E=> ∃i:Nat,i≤t.fCols.length∧colsTo t i=true∧E= {nt:=75,sl:= [(1,.p (.bx 1 0)),(32,vColS t.fCols),(33,int .i64 t.fCols.length),(34,int .i64 i)],bx:= [(1,cTable t)],rt:= []}) (fun E=>t.fCols.length- (E.num 34).toNat) _ (Gh.kb _ [1,32,33,34] [1] []) ⟨0,by omega,by simp[colsTo],by simp⟩ ?_
 rintro E1 ⟨i,hi,hall,rfl⟩
 simp
 refine ⟨fun h=>⟨h,.of (colOkS_ok _ (hc.2 _ (getD_mem dCol h))) ?_⟩,fun h=> ?_⟩
 ·simp
  refine .of (fun h=>⟨h,colAtS_ok _ _ hc.1⟩) ?_
  simp
  have hat:colsOkAt t i=(colOk (t.fCols[i]?.getD dCol)&&decide (colAt t (t.fCols[i]?.getD dCol).fName=i)):=rfl
  refine ⟨fun hb=>colsTo_no h (by grind),fun h1 h2=> .of _ (Gh.kb _ [1,32,33,34] [1] []) ⟨i+1,by omega, ?_, ?_⟩ ?_⟩
  ·rw[colsTo,rangeAll_succ];unfold colsTo at hall;grind
  ·simp[wrapS (show i<9223372036854775807 by omega)]
  ·simp[wrapS (show i<9223372036854775807 by omega)];omega
 ·have hil:i=t.fCols.length:=by omega
  subst hil
  refine ew_loop (fun E=> ∃i:Nat,i≤t.fKeys.length∧keysTo t i=true∧E= {nt:=75,sl:= [(1,.p (.bx 1 0)),(5,int .i64 (lastK t i)),(52,vStrS t.fKeys),(53,int .i64 t.fKeys.length),(54,int .i64 i)],bx:= [(1,cTable t)],rt:= []}) (fun E=>t.fKeys.length- (E.num 54).toNat) _ (Gh.kb _ [1,5,52,53,54] [1] []) ⟨0,by omega,by simp[keysTo],by simp[lastK]⟩ ?_
  rintro E1 ⟨j,hj,hkall,rfl⟩
  simp
  refine ⟨fun h=>⟨h,.of (colAtS_ok _ _ hc.1) ?_⟩,fun h=> ?_⟩
  ·simp
   have hb:=idxF_bd (fun c:GCol=>c.fName.toList==(t.fKeys[j]?.getD ⟨#[]⟩).toList) t.fCols
   have hlg:=lastK_ge t j
   rw[show idxF (fun c:GCol=>c.fName.toList==(t.fKeys[j]?.getD ⟨#[]⟩).toList) t.fCols=colAt t (t.fKeys[j]?.getD ⟨#[]⟩) from rfl] at hb
   have hat:keyOkAt t j=(decide (lastK t j<colAt t (t.fKeys[j]?.getD ⟨#[]⟩))&& (t.fCols[(colAt t (t.fKeys[j]?.getD ⟨#[]⟩)).toNat]?.getD dCol).fNot):=rfl
   refine ⟨fun h1=>⟨h1,by omega,by omega⟩,fun hb=>keysTo_no h (by grind),fun h1 h2=> .of _ (Gh.kb _ [1,5,52,53,54] [1] []) ⟨j+1,by omega, ?_, ?_⟩ ?_⟩
   ·rw[keysTo,rangeAll_succ];unfold keysTo at hkall;grind
   ·simp[wrapS (show j<9223372036854775807 by omega),lastK_succ]
   ·simp[wrapS (show j<9223372036854775807 by omega)];omega
  ·have hjl:j=t.fKeys.length:=by omega
   subst hjl
   grind[tableOk,within]
theorem tableOkI_ok (t:GTable) (ht:okTable t):VC Tryz.prog 299 [vTable t] [(false,[(.s,.sc (.bool (tableOk t)))])]:=by
 obtain ⟨hn,hc,hk,_⟩:=ht
 have hcl:t.fCols.length≤9223372036854775807:=hc.1
 have hkl:t.fKeys.length≤9223372036854775807:=hk.1
 refine vc_of_ew good hm [0,1,2,10,11,12,13,4,3,27,5,30,31,32,33,7,8,50] Tryz.func299 rfl (by kernel_rfl) (by kernel_rfl) rfl ?_
 simp[Tryz.f299]
 refine ew_loop (fun E=> ∃i:Nat,i≤t.fCols.length∧colsTo t i=true∧E= {nt:=68,sl:= [(1,.p (.bx 1 0)),(10,vColS t.fCols),(11,int .i64 t.fCols.length),(12,int .i64 i)],bx:= [(1,cTable t)],rt:= []}) (fun E=>t.fCols.length- (E.num 12).toNat) _ (Gh.kb _ [1,10,11,12] [1] []) ⟨0,by omega,by simp[colsTo],by simp⟩ ?_
 rintro E1 ⟨i,hi,hall,rfl⟩
 simp
 refine ⟨fun h=>⟨h,.of (colOkI_ok _ (hc.2 _ (getD_mem dCol h))) ?_⟩,fun h=> ?_⟩
 ·simp
  refine .of (fun h=>⟨h,colAtI_ok _ _ hc.1⟩) ?_
  simp
  have hat:colsOkAt t i=(colOk (t.fCols[i]?.getD dCol)&&decide (colAt t (t.fCols[i]?.getD dCol).fName=i)):=rfl
  refine ⟨fun hb=>colsTo_no h (by grind),fun h1 h2=> .of _ (Gh.kb _ [1,10,11,12] [1] []) ⟨i+1,by omega, ?_, ?_⟩ ?_⟩
  ·rw[colsTo,rangeAll_succ];unfold colsTo at hall;grind
  ·simp[wrapS (show i<9223372036854775807 by omega)]
  ·simp[wrapS (show i<9223372036854775807 by omega)];omega
 ·have hil:i=t.fCols.length:=by omega
  subst hil
  refine ew_loop (fun E=> ∃i:Nat,i≤t.fKeys.length∧keysTo t i=true∧E= {nt:=68,sl:= [(1,.p (.bx 1 0)),(5,int .i64 (lastK t i)),(30,vStrS t.fKeys),(31,int .i64 t.fKeys.length),(32,int .i64 i)],bx:= [(1,cTable t)],rt:= []}) (fun E=>t.fKeys.length- (E.num 32).toNat) _ (Gh.kb _ [1,5,30,31,32] [1] []) ⟨0,by omega,by simp[keysTo],by simp[lastK]⟩ ?_
  rintro E1 ⟨j,hj,hkall,rfl⟩
  simp
  refine ⟨fun h=>⟨h,.of (colAtI_ok _ _ hc.1) ?_⟩,fun h=> ?_⟩
  ·simp
   have hb:=idxF_bd (fun c:GCol=>c.fName.toList==(t.fKeys[j]?.getD ⟨#[]⟩).toList) t.fCols
   have hlg:=lastK_ge t j
   rw[show idxF (fun c:GCol=>c.fName.toList==(t.fKeys[j]?.getD ⟨#[]⟩).toList) t.fCols=colAt t (t.fKeys[j]?.getD ⟨#[]⟩) from rfl] at hb
   have hat:keyOkAt t j=(decide (lastK t j<colAt t (t.fKeys[j]?.getD ⟨#[]⟩))&& (t.fCols[(colAt t (t.fKeys[j]?.getD ⟨#[]⟩)).toNat]?.getD dCol).fNot):=rfl
   refine ⟨fun h1=>⟨h1,by omega,by omega⟩,fun hb=>keysTo_no h (by grind),fun h1 h2=> .of _ (Gh.kb _ [1,5,30,31,32] [1] []) ⟨j+1,by omega, ?_, ?_⟩ ?_⟩
   ·rw[keysTo,rangeAll_succ];unfold keysTo at hkall;grind
   ·simp[wrapS (show j<9223372036854775807 by omega),lastK_succ]
   ·simp[wrapS (show j<9223372036854775807 by omega)];omega
  ·have hjl:j=t.fKeys.length:=by omega
   subst hjl
   refine .of (wordOkI_ok _ hn) ?_
   simp
   refine .of (fun h=>⟨h,within_ok _ _ _⟩) ?_
   simp
   grind[tableOk,within]
end Go.Proofs.YteeolohhmfjafaaGreat
