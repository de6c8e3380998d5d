import Derived.Test.YtanlbohhmoifcaaGreatG5
import Derived.Test.YtanlbohhmoifcaaGreatG4
import Derived.Shelf.Spec.SlicesInsertGrow
import Derived.Shelf.RegionOpenPlain
import Derived.Lib.Overlaps
import Derived.WalkKit
import Derived.Deep.LoopGhost
import Derived.Deep.RegionLaw
import Derived.Lib.Walk
import Derived.Sort.WalkB12
import Derived.Lib.SliceRun
set_option maxHeartbeats 8000000
set_option maxRecDepth 8000
namespace Go.Proofs.YtanlbohhmoifcaaGreat
open Go Go.Proofs Go.Sm
attribute [local simp] ti eStr eInt eByte eVal vVal eCol vCol vColS vStrS eTable cTable vTable vTableS cCat vCat eValS vValS eRow cRow vRow vRowS eRows vRowsS cDb vDb eDdl cDdl vDdl eStmt cStmt vStmt eRec vRec eSlot vSlot eRecS vRecS eSlotS vSlotS vStmtS
set_option linter.unusedVariables false
set_option linter.unusedSimpArgs false
def eqVal (a b:GVal):Bool:=a.fTy==b.fTy&& (a.fN==b.fN&&a.fS.toList==b.fS.toList)
def eqCol (a b:GCol):Bool:=a.fName.toList==b.fName.toList&& (a.fTy==b.fTy&& (a.fNot==b.fNot&& (a.fHas==b.fHas&&eqVal a.fDef b.fDef)))
def eqS (a b:ByteArray):Bool:=a.toList==b.toList
def eqTo {α:Type} (eq:α→α→Bool) (d:α) (a b:List α) (n:Nat):Bool:=(List.range n).all (fun i=>eq (a[i]?.getD d) (b[i]?.getD d))
def eqRows {α:Type} (eq:α→α→Bool) (d:α) (a b:List α):Bool:=decide ((a.length:Int)=b.length)&&eqTo eq d a b a.length
theorem eqTo_no {α:Type} {eq:α→α→Bool} {d:α} {a b:List α} {n i:Nat} (hi:i<n) (h:eq (a[i]?.getD d) (b[i]?.getD d)=false):eqTo eq d a b n=false:=rangeAll_no hi h
theorem eqTo_succ {α:Type} (eq:α→α→Bool) (d:α) (a b:List α) (n:Nat):eqTo eq d a b (n+1)=(eqTo eq d a b n&&eq (a[n]?.getD d) (b[n]?.getD d)):=rangeAll_succ _ _
theorem eqRows_nil {α:Type} (eq:α→α→Bool) (d:α) (a:List α):eqRows eq d a []=a.isEmpty:=by
 unfold eqRows
 cases a with
 |nil=>rfl
 |cons x r=>simp;omega
theorem eqRows_self {α:Type} (eq:α→α→Bool) (hr: ∀x,eq x x=true) (d:α) (a:List α):eqRows eq d a a=true:=by
 simp[eqRows,eqTo,hr]
theorem eqVal_self (x:GVal):eqVal x x=true:=by simp[eqVal]
theorem eqCol_self (x:GCol):eqCol x x=true:=by simp[eqCol,eqVal_self]
theorem equalStr_ok (a b:List ByteArray) (ha:okM a.length):VC Tryz.prog 240 [vStrS a,vStrS b] [(false,[(.s,.sc (.bool (eqRows eqS ⟨#[]⟩ a b)))])]:=by
 unfold okM at ha
 refine vc_of_ew good hm [0,1,4,10,12,13,14,5,24] Tryz.func240 rfl (by kernel_rfl) (by kernel_rfl) rfl ?_
 simp[Tryz.f240]
 refine ⟨fun h=>by simp[eqRows,h],fun hl=> ?_⟩
 refine ew_loop (fun E=> ∃i:Nat,i≤a.length∧eqTo eqS ⟨#[]⟩ a b i=true∧E= {nt:=26,sl:= [(0,vStrS a),(1,vStrS b),(12,int .i64 a.length),(13,int .i64 i)],bx:= [],rt:= []}) (fun E=>a.length- (E.num 13).toNat) _ (Gh.kb _ [0,1,12,13] [] []) ⟨0,by omega,by simp[eqTo],by simp⟩ ?_
 rintro E1 ⟨i,hi,hall,rfl⟩
 simp
 refine ⟨fun h=>⟨h,by omega, ?_⟩,fun h=> ?_⟩
 ·refine ⟨fun hp=> ?_,fun hp=> .of _ (Gh.kb _ [0,1,12,13] [] []) ⟨i+1,by omega, ?_, ?_⟩ ?_⟩
  ·have:=eqTo_no (eq:=eqS) (d:=⟨#[]⟩) (a:=a) (b:=b) h (by simpa [eqS] using hp)
   simp[eqRows,this]
  ·rw[eqTo_succ,hall];simpa [eqS] using hp
  ·simp[wrapS (show i<9223372036854775807 by omega)]
  ·simp[wrapS (show i<9223372036854775807 by omega)];omega
 ·have:i=a.length:=by omega
  subst this
  simp[eqRows,hall,hl]
theorem equalCol_ok (a b:List GCol) (ha:okM a.length):VC Tryz.prog 239 [vColS a,vColS b] [(false,[(.s,.sc (.bool (eqRows eqCol dCol a b)))])]:=by
 unfold okM at ha
 refine vc_of_ew good hm [0,1,4,10,12,13,14,5,24] Tryz.func239 rfl (by kernel_rfl) (by kernel_rfl) rfl ?_
 simp[Tryz.f239]
 refine ⟨fun h=>by simp[eqRows,h],fun hl=> ?_⟩
 refine ew_loop (fun E=> ∃i:Nat,i≤a.length∧eqTo eqCol dCol a b i=true∧E= {nt:=26,sl:= [(0,vColS a),(1,vColS b),(12,int .i64 a.length),(13,int .i64 i)],bx:= [],rt:= []}) (fun E=>a.length- (E.num 13).toNat) _ (Gh.kb _ [0,1,12,13] [] []) ⟨0,by omega,by simp[eqTo],by simp⟩ ?_
 rintro E1 ⟨i,hi,hall,rfl⟩
 simp
 have hat:eqCol (a[i]?.getD dCol) (b[i]?.getD dCol)=((a[i]?.getD dCol).fName.toList==(b[i]?.getD dCol).fName.toList&& ((a[i]?.getD dCol).fTy==(b[i]?.getD dCol).fTy&& ((a[i]?.getD dCol).fNot==(b[i]?.getD dCol).fNot&& ((a[i]?.getD dCol).fHas==(b[i]?.getD dCol).fHas&& ((a[i]?.getD dCol).fDef.fTy==(b[i]?.getD dCol).fDef.fTy&& ((a[i]?.getD dCol).fDef.fN==(b[i]?.getD dCol).fDef.fN&& (a[i]?.getD dCol).fDef.fS.toList==(b[i]?.getD dCol).fDef.fS.toList)))))):=rfl
 refine ⟨fun h=>⟨h,by omega, ?_⟩,fun h=> ?_⟩
 ·refine ⟨fun hb=> ?_,fun h1 h2 h3 h4 h5 h6 h7=> .of _ (Gh.kb _ [0,1,12,13] [] []) ⟨i+1,by omega,by rw[eqTo_succ,hall,hat];simp[h1,h2,h3,h4,h5,h6,h7], ?_⟩ ?_⟩
  ·have:=eqTo_no (eq:=eqCol) (d:=dCol) (a:=a) (b:=b) h (by rw[hat];grind)
   simp[eqRows,this]
  ·simp[wrapS (show i<9223372036854775807 by omega)]
  ·simp[wrapS (show i<9223372036854775807 by omega)];omega
 ·have:i=a.length:=by omega
  subst this
  simp[eqRows,hall,hl]
def eqDdl (a b:GDdl):Bool:=a.fKind==b.fKind&& (a.fTable.toList==b.fTable.toList&& (eqRows eqCol dCol a.fCols b.fCols&& (eqRows eqS ⟨#[]⟩ a.fKeys b.fKeys&& (a.fName.toList==b.fName.toList&&a.fTo.toList==b.fTo.toList))))
theorem equalDdl_ok (a b:GDdl) (ha:okDdl a):VC Tryz.prog 216 [vDdl a,vDdl b] [(false,[(.s,.sc (.bool (eqDdl a b)))])]:=by
 refine vc_of_ew good hm [0,1,2,3,4] Tryz.func216 rfl (by kernel_rfl) (by kernel_rfl) rfl ?_
 simp[Tryz.f216]
 refine .of (fun h=>⟨h,equalCol_ok a.fCols b.fCols ha.2.2.1.1⟩) ?_
 simp
 refine .of (fun h=>⟨h,equalStr_ok a.fKeys b.fKeys ha.2.2.2.1.1⟩) ?_
 simp
 grind[eqDdl]
def noDdl (d:GDdl):Bool:=decide (d.fKind=0)&& (em d.fTable&& (d.fCols.isEmpty&& (d.fKeys.isEmpty&& (em d.fName&&em d.fTo))))
theorem l04NoDdl_ok (d:GDdl):VC Tryz.prog 195 [vDdl d] [(false,[(.s,.sc (.bool (noDdl d)))])]:=by
 refine vc_of_ew good hm [0,1,2] Tryz.func195 rfl (by kernel_rfl) (by kernel_rfl) rfl ?_
 simp[Tryz.f195]
 grind[noDdl,em]
theorem eqDdl_nil (d:GDdl):eqDdl d dDdl=noDdl d:=by
 simp[eqDdl,dDdl,eqRows_nil,noDdl,em,beqI]
theorem copyTexts_ok (l:List ByteArray) (hl:l.length≤1048576):VC Tryz.prog 193 [vStrS l] [(false,mStrS l)]:=by
 refine vc_of_ew good hm [0,2] Tryz.func193 rfl (by kernel_rfl) (by kernel_rfl) rfl ?_
 simp[Tryz.f193,mStrS]
 omega
theorem copyTable_ok (t:GTable) (h1:t.fCols.length≤1048576) (h2:t.fKeys.length≤1048576):VC Tryz.prog 176 [vTable t] [(true,mTable t)]:=by
 refine vc_of_ew good hm [0,1,2] Tryz.func176 rfl (by kernel_rfl) (by kernel_rfl) rfl ?_
 simp[Tryz.f176,mTable]
 refine ⟨by omega,.of (copyTexts_ok _ h2) ?_⟩
 simp[mStrS]
def madeT (d:GDdl):GTable:=⟨d.fTable,d.fCols,d.fKeys⟩
theorem made_ok (d:GDdl) (h1:d.fCols.length≤1048576) (h2:d.fKeys.length≤1048576):VC Tryz.prog 238 [vDdl d] [(true,mTable (madeT d))]:=by
 refine vc_of_ew good hm [0,1,2] Tryz.func238 rfl (by kernel_rfl) (by kernel_rfl) rfl ?_
 simp[Tryz.f238,mTable]
 refine .of (copyTable_ok (madeT d) h1 h2) ?_
 simp[mTable,madeT]
def plain (d:GDdl):Bool:=d.fCols.isEmpty&&d.fKeys.isEmpty
def addOk (d:GDdl):Bool:=decide ((d.fCols.length:Int)=1)&& (colOk (d.fCols[0]?.getD dCol)&& ((d.fCols[0]?.getD dCol).fHas|| !(d.fCols[0]?.getD dCol).fNot))
def ddlOk (d:GDdl):Bool:=wordOk d.fTable&& ((decide (d.fKind=1)&& (tableOk (madeT d)&& (em d.fName&&em d.fTo)))||(decide (d.fKind=2)&& (plain d&& (em d.fName&&em d.fTo)))||(decide (d.fKind=3)&& (addOk d&& (d.fKeys.isEmpty&& (em d.fName&&em d.fTo))))||(decide (d.fKind=4)&& (plain d&& (wordOk d.fName&&em d.fTo)))||(decide (d.fKind=5)&& (plain d&& (wordOk d.fName&&wordOk d.fTo))))
theorem okMade {d:GDdl} (h:okDdl d):okTable (madeT d):=⟨h.2.1,h.2.2.1,h.2.2.2.1,trivial⟩
theorem okC0 {d:GDdl} (h:okDdl d) (hl:d.fCols.length=1):okCol (d.fCols[0]?.getD dCol):=h.2.2.1.2 _ (getD_mem dCol (by omega))
theorem ddlOkS_ok (d:GDdl) (hd:okDdl d):VC Tryz.prog 196 [vDdl d] [(false,[(.s,.sc (.bool (ddlOk d)))])]:=by
 refine vc_of_ew good hm [0,1,2,7,3,19,20,40,53,97,110] Tryz.func196 rfl (by kernel_rfl) (by kernel_rfl) rfl ?_
 simp[Tryz.f196]
 refine .of (wordOkS_ok _ hd.2.1) ?_
 simp[beqI]
 refine ⟨fun h=>by grind[ddlOk],fun hw=>⟨fun k1=> .of (fun h=>⟨h,tableOkS_ok (madeT d) (okMade hd)⟩) ?_,fun k1=>⟨fun k2=> ?_,fun k2=>⟨fun k3=>⟨fun h=>⟨h,by omega⟩,.of (fun h=>⟨h,colOkS_ok _ (okC0 hd (by omega))⟩) ?_⟩,fun k3=>⟨fun k4=> .of (fun h=>⟨h,wordOkS_ok _ hd.2.2.2.2.1⟩) ?_,fun k4=>⟨fun k5=> .of (fun h=>⟨h,wordOkS_ok _ hd.2.2.2.2.1⟩) ?_,fun k5=>by grind[ddlOk]⟩⟩⟩⟩⟩⟩
 ·simp
  grind[ddlOk,em]
 ·grind[ddlOk,em,plain]
 ·simp
  refine ⟨by grind,by grind,by grind, ?_⟩
  grind[ddlOk,em,addOk]
 ·simp
  grind[ddlOk,em,plain]
 ·simp
  refine .of (fun h=>⟨h,wordOkS_ok _ hd.2.2.2.2.2.1⟩) ?_
  simp
  grind[ddlOk,em,plain]
theorem ddlOkI_ok (d:GDdl) (hd:okDdl d) (h1:d.fCols.length≤1048576) (h2:d.fKeys.length≤1048576):VC Tryz.prog 215 [vDdl d] [(false,[(.s,.sc (.bool (ddlOk d)))])]:=by
 refine vc_of_ew good hm [0,1,2,7,3,14,15,30,35,71,84] Tryz.func215 rfl (by kernel_rfl) (by kernel_rfl) rfl ?_
 simp[Tryz.f215]
 refine .of (wordOkI_ok _ hd.2.1) ?_
 simp[beqI]
 refine ⟨fun h=>by grind[ddlOk],fun hw=>⟨fun k1=> .of (made_ok d h1 h2) ?_,fun k1=>⟨fun k2=> ?_,fun k2=>⟨fun k3=> ?_,fun k3=>⟨fun k4=> ?_,fun k4=>⟨fun k5=> ?_,fun k5=>by grind[ddlOk]⟩⟩⟩⟩⟩⟩
 ·simp[mTable]
  refine .of (tableOkI_ok (madeT d) (okMade hd)) ?_
  simp
  grind[ddlOk,em]
 ·refine .of (equalDdl_ok d ⟨d.fKind,d.fTable,[],[],⟨#[]⟩,⟨#[]⟩⟩ hd) ?_
  simp[eqDdl,eqRows_nil]
  grind[ddlOk,em,plain]
 ·refine .of (equalDdl_ok d ⟨d.fKind,d.fTable,d.fCols,[],⟨#[]⟩,⟨#[]⟩⟩ hd) ?_
  rw[show eqDdl d ⟨d.fKind,d.fTable,d.fCols,[],⟨#[]⟩,⟨#[]⟩⟩=(d.fKeys.isEmpty&& (em d.fName&&em d.fTo)) by simp[eqDdl,eqRows_nil,eqRows_self eqCol eqCol_self,em]]
  generalize hq:(d.fKeys.isEmpty&& (em d.fName&&em d.fTo))=q
  simp
  refine ⟨fun a b=>⟨⟨a,b⟩,by omega⟩,.of (fun h=>⟨h,colOkI_ok _ (okC0 hd (by omega))⟩) ?_⟩
  simp
  refine ⟨by grind,by grind,by grind, ?_⟩
  grind[ddlOk,em,addOk]
 ·refine .of (equalDdl_ok d ⟨d.fKind,d.fTable,[],[],d.fName,⟨#[]⟩⟩ hd) ?_
  rw[show eqDdl d ⟨d.fKind,d.fTable,[],[],d.fName,⟨#[]⟩⟩=(plain d&&em d.fTo) by simp[eqDdl,eqRows_nil,em,plain,Bool.and_assoc]]
  generalize hq:(plain d&&em d.fTo)=q
  simp
  refine .of (fun h=>⟨h,wordOkI_ok _ hd.2.2.2.2.1⟩) ?_
  simp
  grind[ddlOk,em]
 ·refine .of (equalDdl_ok d ⟨d.fKind,d.fTable,[],[],d.fName,d.fTo⟩ hd) ?_
  rw[show eqDdl d ⟨d.fKind,d.fTable,[],[],d.fName,d.fTo⟩=plain d by simp[eqDdl,eqRows_nil,em,plain,Bool.and_assoc]]
  generalize hq:plain d=q
  simp
  refine .of (fun h=>⟨h,wordOkI_ok _ hd.2.2.2.2.1⟩) ?_
  simp
  refine .of (fun h=>⟨h,wordOkI_ok _ hd.2.2.2.2.2.1⟩) ?_
  simp
  grind[ddlOk,em]
end Go.Proofs.YtanlbohhmoifcaaGreat
namespace Go.Proofs.YtanlbohhmoifcaaGreat
open Go Go.Proofs Go.Sm
attribute [local simp] ti eStr eInt eByte eVal vVal eCol vCol vColS vStrS eTable cTable vTable vTableS cCat vCat eValS vValS eRow cRow vRow vRowS eRows vRowsS cDb vDb eDdl cDdl vDdl eStmt cStmt vStmt eRec vRec eSlot vSlot eRecS vRecS eSlotS vSlotS vStmtS
set_option linter.unusedVariables false
set_option linter.unusedSimpArgs false
def insW {α:Type} (p:α→Bool) (x:α) (l:List α):List α:=l.takeWhile p++x::l.dropWhile p
def layTo {α:Type} (q:α→Bool) (x:α) (l:List α) (i:Nat):List α:=if (l.take i).any q=true then insW (fun y=> !q y) x (l.take i) else l.take i
theorem insW_len {α:Type} (p:α→Bool) (x:α) (l:List α):(insW p x l).length=l.length+1:=by
 have:=congrArg List.length (List.takeWhile_append_dropWhile (p:=p) (l:=l))
 simp only[List.length_append] at this
 simp only[insW,List.length_append,List.length_cons]
 omega
theorem insW_mem {α:Type} {p:α→Bool} {x:α} {l:List α} {y:α}:y∈insW p x l↔y=x∨y∈l:=by
 have h:l=l.takeWhile p++l.dropWhile p:=List.takeWhile_append_dropWhile.symm
 have h2:y∈l↔y∈l.takeWhile p∨y∈l.dropWhile p:=by
  conv=>lhs;rw[h]
  exact List.mem_append
 simp only[insW,List.mem_append,List.mem_cons,h2]
 grind
theorem insW_congr {α:Type} {p q:α→Bool} (x:α) {l:List α} (h: ∀y∈l,p y=q y):insW p x l=insW q x l:=by
 have h1: ∀l:List α,(∀y∈l,p y=q y)→l.takeWhile p=l.takeWhile q∧l.dropWhile p=l.dropWhile q:=by
  intro l
  induction l with
  |nil=>intro _;exact ⟨rfl,rfl⟩
  |cons a l ih=>
   intro h
   have ha:=h a (by simp)
   obtain ⟨i1,i2⟩:=ih (fun y hy=>h y (by simp[hy]))
   simp only[List.takeWhile_cons,List.dropWhile_cons,ha]
   cases q a<;>simp[i1,i2]
 unfold insW
 rw[(h1 l h).1,(h1 l h).2]
theorem takeW_len {α:Type} (p:α→Bool) (l:List α):(l.takeWhile p).length≤l.length:=(List.takeWhile_sublist p).length_le
theorem insW_at {α:Type} (p:α→Bool) (x:α) (l:List α):insW p x l=l.take (l.takeWhile p).length++x::l.drop (l.takeWhile p).length:=by
 have h:l=l.takeWhile p++l.dropWhile p:=List.takeWhile_append_dropWhile.symm
 unfold insW
 conv=>rhs;rw[h]
 congr 1
 ·rw[List.takeWhile_append_dropWhile]
  conv=>rhs;arg 2;rw[h]
  rw[List.take_left]
 ·rw[List.takeWhile_append_dropWhile]
  conv=>rhs;arg 2;arg 2;rw[h]
  rw[List.drop_left]
theorem takeW_at {α:Type} (p:α→Bool) (d:α): ∀ {l:List α} {i:Nat},i≤(l.takeWhile p).length→(i< (l.takeWhile p).length↔i<l.length∧p (l[i]?.getD d)=true)
 | [],i,h=>by simp
 |a::l,0,h=>by
  by_cases ha:p a=true<;>simp[List.takeWhile_cons,ha]
 |a::l,i+1,h=>by
  by_cases ha:p a=true
  ·simp only[List.takeWhile_cons,ha,if_true,List.length_cons] at h⊢
   have:=takeW_at p d (l:=l) (i:=i) (by omega)
   rw[List.getElem?_cons_succ,Nat.add_lt_add_iff_right,Nat.add_lt_add_iff_right]
   exact this
  ·simp[List.takeWhile_cons,ha] at h
theorem takeW_all {α:Type} {p:α→Bool}: ∀ {l:List α},l.any (fun y=> !p y)=false→l.takeWhile p=l∧l.dropWhile p= []
 | [],_=>⟨rfl,rfl⟩
 |a::l,h=>by
  simp only[List.any_cons,Bool.or_eq_false_iff,Bool.not_eq_false'] at h
  obtain ⟨i1,i2⟩:=takeW_all h.2
  simp[List.takeWhile_cons,List.dropWhile_cons,h.1,i1,i2]
theorem takeW_app {α:Type} {p:α→Bool} {m:List α}: ∀ {l:List α},l.any (fun y=> !p y)=true→(l++m).takeWhile p=l.takeWhile p∧(l++m).dropWhile p=l.dropWhile p++m
 | [],h=>by simp at h
 |a::l,h=>by
  simp only[List.any_cons,Bool.or_eq_true] at h
  by_cases ha:p a=true
  ·have h2:l.any (fun y=> !p y)=true:=by simpa [ha] using h
   obtain ⟨i1,i2⟩:=takeW_app (m:=m) h2
   simp[List.takeWhile_cons,List.dropWhile_cons,ha,i1,i2]
  ·simp[List.takeWhile_cons,List.dropWhile_cons,ha]
theorem layTo_zero {α:Type} (q:α→Bool) (x:α) (l:List α):layTo q x l 0= []:=by simp[layTo]
theorem layTo_succ {α:Type} (q:α→Bool) (x:α) (d:α) {l:List α} {i:Nat} (h:i<l.length):layTo q x l (i+1)=if (l.take i).any q=false∧q (l[i]?.getD d)=true then (layTo q x l i++ [x])++ [l[i]?.getD d] else layTo q x l i++ [l[i]?.getD d]:=by
 have e:l.take (i+1)=l.take i++ [l[i]?.getD d]:=by rw[List.take_succ_eq_append_getElem h,List.getElem?_eq_getElem h];rfl
 unfold layTo
 rw[e,List.any_append]
 simp only[List.any_cons,List.any_nil,Bool.or_false]
 cases h1:(l.take i).any q with
 |true=>
  have h2:(l.take i).any (fun y=> !(!q y))=true:=by simpa using h1
  obtain ⟨i1,i2⟩:=takeW_app (p:=fun y=> !q y) (m:= [l[i]?.getD d]) h2
  simp[insW,i1,i2]
 |false=>
  have h2:(l.take i).any (fun y=> !(!q y))=false:=by simpa using h1
  obtain ⟨i1,i2⟩:=takeW_all (p:=fun y=> !q y) h2
  cases h3:q (l[i]?.getD d) with
  |true=>
   have h4:(l.take i).takeWhile (fun y=> !q y)=l.take i:=i1
   have: ∀a:List α,a.any (fun y=> !(!q y))=false→insW (fun y=> !q y) x (a++ [l[i]?.getD d])=a++ [x]++ [l[i]?.getD d]:=by
    intro a
    induction a with
    |nil=>intro _;simp[insW,List.takeWhile_cons,List.dropWhile_cons,h3]
    |cons b a ih=>
     intro hb
     simp only[List.any_cons,Bool.or_eq_false_iff,Bool.not_eq_false'] at hb
     have:=ih hb.2
     simp only[insW] at this⊢
     simp[List.takeWhile_cons,List.dropWhile_cons,hb.1] at this⊢
     exact this
   simp[this _ h2]
  |false=>simp
theorem layTo_end {α:Type} (q:α→Bool) (x:α) (l:List α):insW (fun y=> !q y) x l=if l.any q=true then layTo q x l l.length else layTo q x l l.length++ [x]:=by
 unfold layTo
 rw[List.take_length]
 split
 ·rfl
 ·rename_i h
  have h2:l.any (fun y=> !(!q y))=false:=by simpa using h
  obtain ⟨i1,i2⟩:=takeW_all (p:=fun y=> !q y) h2
  simp[insW,i1,i2]
theorem layTo_len {α:Type} (q:α→Bool) (x:α) (l:List α) (i:Nat):(layTo q x l i).length≤min i l.length+1:=by
 unfold layTo
 split
 ·rw[insW_len,List.length_take];omega
 ·rw[List.length_take];omega
theorem insW_pw {α:Type} {R:α→α→Bool} (tr: ∀a b c,R a b=true→R b c=true→R a c=true) (x:α): ∀ {l:List α},l.Pairwise (fun a b=>R a b=true)→(∀y∈l,R y x=true∨R x y=true)→(insW (fun y=>R y x) x l).Pairwise (fun a b=>R a b=true)
 | [],_,_=>by simp[insW]
 |a::l,hp,ht=>by
  rw[List.pairwise_cons] at hp
  by_cases ha:R a x=true
  ·have ih:=insW_pw tr x hp.2 (fun y hy=>ht y (by simp[hy]))
   have e:insW (fun y=>R y x) x (a::l)=a::insW (fun y=>R y x) x l:=by simp[insW,List.takeWhile_cons,List.dropWhile_cons,ha]
   rw[e,List.pairwise_cons]
   refine ⟨fun y hy=> ?_,ih⟩
   rcases insW_mem.1 hy with rfl|hy
   ·exact ha
   ·exact hp.1 y hy
  ·have e:insW (fun y=>R y x) x (a::l)=x::a::l:=by simp[insW,List.takeWhile_cons,List.dropWhile_cons,ha]
   have hx:R x a=true:=(ht a (by simp)).resolve_left ha
   rw[e,List.pairwise_cons,List.pairwise_cons]
   refine ⟨fun y hy=> ?_,hp⟩
   rcases List.mem_cons.1 hy with rfl|hy
   ·exact hx
   ·exact tr _ _ _ hx (hp.1 y hy)
theorem eqVs_iff (a b:List GVal):eqRows veq dVal a b=true↔a=b:=by
 simp only[eqRows,eqTo,Bool.and_eq_true,decide_eq_true_eq,List.all_eq_true,List.mem_range,veq_iff]
 constructor
 ·rintro ⟨h1,h2⟩
  refine List.ext_getElem (by omega) fun i hi hj=> ?_
  have:=h2 i hi
  rwa [List.getElem?_eq_getElem hi,List.getElem?_eq_getElem hj] at this
 ·rintro rfl
  exact ⟨rfl,fun _ _=>rfl⟩
def keyAt (t:GTable) (l:List GRow) (key:List GVal):Int:=idxF (fun r=>eqRows veq dVal (keyOf t r) key) l
theorem keyAt_bd (t:GTable) (l:List GRow) (key:List GVal): -1≤keyAt t l key∧keyAt t l key<l.length:=idxF_bd _ _
theorem keyAt_nn (t:GTable) (l:List GRow) (key:List GVal):0≤keyAt t l key↔ ∃r∈l,keyOf t r=key:=by
 have:=idxF_ge (fun r=>eqRows veq dVal (keyOf t r) key) l
 rw[Bool.eq_iff_iff,decide_eq_true_eq,List.any_eq_true] at this
 simp only[eqVs_iff] at this
 exact this
theorem keyAt_get {t:GTable} {l:List GRow} {key:List GVal} (h:0≤keyAt t l key):keyOf t (l[(keyAt t l key).toNat]?.getD dRow)=key:=by
 have h2:l.any (fun r=>eqRows veq dVal (keyOf t r) key)=true:=by
  have:=idxF_ge (fun r=>eqRows veq dVal (keyOf t r) key) l
  rw[←this]
  exact decide_eq_true h
 have hlt:l.findIdx (fun r=>eqRows veq dVal (keyOf t r) key)<l.length:=List.findIdx_lt_length_of_exists (by simpa using h2)
 have e:(keyAt t l key).toNat=l.findIdx (fun r=>eqRows veq dVal (keyOf t r) key):=by
  unfold keyAt idxF
  rw[if_pos h2]
  rfl
 rw[e,List.getElem?_eq_getElem hlt]
 have:=List.findIdx_getElem (w:=hlt) (p:=fun r=>eqRows veq dVal (keyOf t r) key)
 exact (eqVs_iff _ _).1 this
def rowPut (t:GTable) (l:List GRow) (r:GRow):List GRow×Int:=
 if rowsOk t l=false then ([],1) else if rowFit t r=false then ([],2) else if 0≤keyAt t l (keyOf t r) then ([],3) else if l.length=60 then ([],4) else (insW (fun x=>rowLt t x r) r l,0)
def rowSet (t:GTable) (l:List GRow) (key:List GVal) (r:GRow):List GRow×Int:=
 if rowsOk t l=false then ([],1) else if rowFit t r=false then ([],2) else if keyOk t key=false∨keyAt t l key<0 then ([],5) else
 if eqRows veq dVal (keyOf t r) key=false∧0≤keyAt t l (keyOf t r) then ([],3) else (insW (fun x=>rowLt t x r) r (l.eraseIdx (keyAt t l key).toNat),0)
def rowOut (t:GTable) (l:List GRow) (key:List GVal):List GRow×Int:=
 if rowsOk t l=false then ([],1) else if keyOk t key=false∨keyAt t l key<0 then ([],5) else (l.eraseIdx (keyAt t l key).toNat,0)
theorem rowsOk_erase {t:GTable} {l:List GRow} (h:rowsOk t l=true) (k:Nat):rowsOk t (l.eraseIdx k)=true:=by
 rw[rowsOk_iff] at h⊢
 have hs:=List.eraseIdx_sublist (l:=l) (k:=k)
 exact ⟨h.1,by have:=hs.length_le;omega,fun r hr=>h.2.2.1 r (hs.subset hr),h.2.2.2.sublist hs⟩
theorem rowsOk_ins {t:GTable} {l:List GRow} {r:GRow} (h:rowsOk t l=true) (hr:rowFit t r=true) (hk: ∀x∈l,keyOf t x≠keyOf t r) (hl:l.length<60):rowsOk t (insW (fun x=>rowLt t x r) r l)=true:=by
 rw[rowsOk_iff] at h⊢
 refine ⟨h.1,by rw[insW_len];omega,fun x hx=> ?_, ?_⟩
 ·rcases insW_mem.1 hx with rfl|hx
  ·exact hr
  ·exact h.2.2.1 x hx
 ·exact insW_pw (R:=rowLt t) (fun a b c=>rowLt_trans) r h.2.2.2 (fun y hy=>rowLt_total (h.2.2.1 y hy) hr (hk y hy))
theorem lay_ins {t:GTable} {l:List GRow} {r:GRow} (hf: ∀x∈l,rowFit t x=true) (hr:rowFit t r=true) (hk: ∀x∈l,keyOf t x≠keyOf t r):insW (fun y=> !rowLt t r y) r l=insW (fun x=>rowLt t x r) r l:=by
 refine insW_congr r fun y hy=> ?_
 rcases rowLt_total (hf y hy) hr (hk y hy) with h|h
 ·rw[h,rowLt_asymm h];rfl
 ·rw[h,rowLt_asymm h];rfl
theorem key_once {t:GTable} {l:List GRow} (h:l.Pairwise (fun a b=>rowLt t a b=true)) {i j:Nat} (hi:i<l.length) (hj:j<l.length) (e:keyOf t (l[i]?.getD dRow)=keyOf t (l[j]?.getD dRow)):i=j:=by
 rw[List.getElem?_eq_getElem hi,List.getElem?_eq_getElem hj] at e
 simp only[Option.getD_some] at e
 have h2:=List.pairwise_iff_getElem.1 h
 rcases Nat.lt_trichotomy i j with hlt|he|hgt
 ·have:=h2 i j hi hj hlt
  rw[rowLt,e,kl_irrefl] at this
  cases this
 ·exact he
 ·have:=h2 j i hj hi hgt
  rw[rowLt,e,kl_irrefl] at this
  cases this
theorem key_rest {t:GTable} {l:List GRow} {key key2:List GVal} (h:rowsOk t l=true) (hk:0≤keyAt t l key):(∃x∈l.eraseIdx (keyAt t l key).toNat,keyOf t x=key2)↔key2≠key∧ ∃x∈l,keyOf t x=key2:=by
 have hg:=keyAt_get hk
 have hb:=keyAt_bd t l key
 have hp:=((rowsOk_iff t l).1 h).2.2.2
 simp only[List.mem_eraseIdx_iff_getElem?]
 constructor
 ·rintro ⟨x,⟨i,hne,hx⟩,rfl⟩
  obtain ⟨hi,rfl⟩:=List.getElem?_eq_some_iff.1 hx
  refine ⟨fun e=>hne ?_,_,List.getElem_mem hi,rfl⟩
  refine key_once hp hi (by omega) ?_
  rw[hg,←e,List.getElem?_eq_getElem hi]
  rfl
 ·rintro ⟨hne,x,hx,rfl⟩
  obtain ⟨i,hi,rfl⟩:=List.getElem_of_mem hx
  refine ⟨_,⟨i,fun e=>hne ?_,List.getElem?_eq_getElem hi⟩,rfl⟩
  rw[←hg,←e,List.getElem?_eq_getElem hi]
  rfl
theorem rowPut_ok {t:GTable} {l:List GRow} {r:GRow} (h:(rowPut t l r).2=0):rowsOk t (rowPut t l r).1=true:=by
 unfold rowPut at h⊢
 split at h
 ·simp at h
 split at h
 ·simp at h
 split at h
 ·simp at h
 split at h
 ·simp at h
 rename_i h1 h2 h3 h4
 rw[if_neg h1,if_neg h2,if_neg h3,if_neg h4]
 simp only[Bool.not_eq_false] at h1 h2
 have h5:=((rowsOk_iff t l).1 h1).2.1
 refine rowsOk_ins h1 h2 (fun x hx e=>h3 ?_) (by omega)
 exact (keyAt_nn t l _).2 ⟨x,hx,e⟩
theorem rowOut_ok {t:GTable} {l:List GRow} {key:List GVal} (h:(rowOut t l key).2=0):rowsOk t (rowOut t l key).1=true:=by
 unfold rowOut at h⊢
 split at h
 ·simp at h
 split at h
 ·simp at h
 rename_i h1 h2
 rw[if_neg h1,if_neg h2]
 exact rowsOk_erase (by simpa using h1) _
theorem rowSet_ok {t:GTable} {l:List GRow} {key:List GVal} {r:GRow} (h:(rowSet t l key r).2=0):rowsOk t (rowSet t l key r).1=true:=by
 unfold rowSet at h⊢
 split at h
 ·simp at h
 split at h
 ·simp at h
 split at h
 ·simp at h
 split at h
 ·simp at h
 rename_i h1 h2 h3 h4
 rw[if_neg h1,if_neg h2,if_neg h3,if_neg h4]
 simp only[Bool.not_eq_false] at h1 h2
 have h5:0≤keyAt t l key:=by
  have:=(keyAt_bd t l key).1
  by_cases hx:0≤keyAt t l key
  ·exact hx
  ·exact absurd (.inr (by omega)) h3
 have h6:=((rowsOk_iff t l).1 h1).2.1
 have hb:=keyAt_bd t l key
 refine rowsOk_ins (rowsOk_erase h1 _) h2 (fun x hx e=> ?_) ?_
 ·have:=(key_rest h1 h5).1 ⟨x,hx,e⟩
  exact h4 ⟨Bool.eq_false_iff.2 fun e=>this.1 ((eqVs_iff _ _).1 e),(keyAt_nn t l _).2 this.2⟩
 ·rw[List.length_eraseIdx_of_lt (by omega)];omega
end Go.Proofs.YtanlbohhmoifcaaGreat
namespace Go.Proofs.YtanlbohhmoifcaaGreat
open Go Go.Proofs Go.Sm
attribute [local simp] ti eStr eInt eByte eVal vVal eCol vCol vColS vStrS eTable cTable vTable vTableS cCat vCat eValS vValS eRow cRow vRow vRowS eRows vRowsS cDb vDb eDdl cDdl vDdl eStmt cStmt vStmt eRec vRec eSlot vSlot eRecS vRecS eSlotS vSlotS vStmtS
set_option linter.unusedVariables false
set_option linter.unusedSimpArgs false
def tabAt (l:List GTable) (s:ByteArray):Int:=idxF (fun t:GTable=>t.fName.toList==s.toList) l
theorem tabAt_bd (l:List GTable) (s:ByteArray): -1≤tabAt l s∧tabAt l s<l.length:=idxF_bd _ _
theorem at1_ok (t:GTable) (s:ByteArray):VC Tryz.prog 245 [vTable t,.p (.ps [.sc (.string s)])] [(false,[(.s,.sc (.bool (t.fName.toList==s.toList)))])]:=by
 refine vc_of_ew good hm [0,1,2,3] Tryz.func245 rfl (by kernel_rfl) (by kernel_rfl) rfl ?_
 simp[Tryz.f245]
theorem at_ok (c:GCat) (s:ByteArray) (hl:okM c.fTables.length):VC Tryz.prog 218 [vCat c,str s] [(false,[(.s,.sc (.int .i64 (tabAt c.fTables s)))])]:=by
 refine vc_of_ew good hm [0,1,2,3,4] Tryz.func218 rfl (by kernel_rfl) (by kernel_rfl) rfl ?_
 simp[Tryz.f218]
 refine .of (idxTable1_ok c.fTables _ _ (fun t:GTable=>t.fName.toList==s.toList) hl (fun x _=>at1_ok x s)) ?_
 simp[tabAt]
theorem l02At_ok (c:GCat) (s:ByteArray) (hl:okM c.fTables.length):VC Tryz.prog 199 [vCat c,str s] [(false,[(.s,.sc (.int .i64 (tabAt c.fTables s)))])]:=by
 unfold okM at hl
 refine vc_of_ew good hm [0,1,2,4,8,9,10,11,6,5,18] Tryz.func199 rfl (by kernel_rfl) (by kernel_rfl) rfl ?_
 simp[Tryz.f199]
 refine ew_loop (fun E=> ∃i:Nat,i≤c.fTables.length∧anyT (fun t:GTable=>t.fName.toList==s.toList) c.fTables i=false∧E= {nt:=21,sl:= [(1,str s),(8,vTableS c.fTables),(9,int .i64 c.fTables.length),(10,int .i64 i)],bx:= [],rt:= []}) (fun E=>c.fTables.length- (E.num 10).toNat) _ (Gh.kb _ [1,8,9,10] [] []) ⟨0,by omega,anyT_zero _ _,by simp⟩ ?_
 rintro E1 ⟨i,hi,hall,rfl⟩
 simp
 refine ⟨fun h=>⟨h,fun hp=>(idxF_at _ dTable h hall (by simpa using hp)).symm,fun hp=> .of _ (Gh.kb _ [1,8,9,10] [] []) ⟨i+1,by omega,by rw[anyT_succ _ dTable h,hall];simpa using hp, ?_⟩ ?_⟩,fun h=> ?_⟩
 ·simp[wrapS (show i<9223372036854775807 by omega)]
 ·simp[wrapS (show i<9223372036854775807 by omega)];omega
 ·have:i=c.fTables.length:=by omega
  subst this
  rw[anyT_all] at hall
  exact (idxF_no _ hall).symm
def bdTable (t:GTable):Prop:=t.fCols.length≤1048576∧t.fKeys.length≤1048576
theorem l02Table_ok (t:GTable) (h:bdTable t):VC Tryz.prog 208 [vTable t] [(true,mTable t)]:=by
 obtain ⟨h1,h2⟩:=h
 refine vc_of_ew good hm [0,1,2] Tryz.func208 rfl (by kernel_rfl) (by kernel_rfl) rfl ?_
 simp[Tryz.f208,mTable]
 omega
end Go.Proofs.YtanlbohhmoifcaaGreat
namespace Go.Proofs.YtanlbohhmoifcaaGreat
open Go Go.Proofs Go.Sm
attribute [local simp] ti eStr eInt eByte eVal vVal eCol vCol vColS vStrS eTable cTable vTable vTableS cCat vCat eValS vValS eRow cRow vRow vRowS eRows vRowsS cDb vDb eDdl cDdl vDdl eStmt cStmt vStmt eRec vRec eSlot vSlot eRecS vRecS eSlotS vSlotS vStmtS
set_option linter.unusedVariables false
set_option linter.unusedSimpArgs false
def has (l:List ByteArray) (s:ByteArray):Bool:=l.any (fun x=>s.toList==x.toList)
theorem has_flip (l:List ByteArray) (s:ByteArray):l.any (fun x=>x.toList==s.toList)=has l s:=by
 unfold has
 congr 1
 funext x
 exact Bool.beq_comm
theorem l02Has_ok (l:List ByteArray) (s:ByteArray) (hl:okM l.length):VC Tryz.prog 278 [vStrS l,str s] [(false,[(.s,.sc (.bool (has l s)))])]:=by
 unfold okM at hl
 refine vc_of_ew good hm [0,1,4,7,8,9,10,6,15] Tryz.func278 rfl (by kernel_rfl) (by kernel_rfl) rfl ?_
 simp[Tryz.f278]
 refine ew_loop (fun E=> ∃i:Nat,i≤l.length∧anyT (fun x=>x.toList==s.toList) l i=false∧E= {nt:=17,sl:= [(1,str s),(7,vStrS l),(8,int .i64 l.length),(9,int .i64 i)],bx:= [],rt:= []}) (fun E=>l.length- (E.num 9).toNat) _ (Gh.kb _ [1,7,8,9] [] []) ⟨0,by omega,anyT_zero _ _,by simp⟩ ?_
 rintro E1 ⟨i,hi,hall,rfl⟩
 simp
 refine ⟨fun h=>⟨h,fun hp=> ?_,fun hp=> .of _ (Gh.kb _ [1,7,8,9] [] []) ⟨i+1,by omega,by rw[anyT_succ _ ⟨#[]⟩ h,hall];simpa using hp, ?_⟩ ?_⟩,fun h=> ?_⟩
 ·rw[←has_flip,List.any_eq_true]
  exact ⟨_,getD_mem ⟨#[]⟩ h,by simpa using hp⟩
 ·simp[wrapS (show i<9223372036854775807 by omega)]
 ·simp[wrapS (show i<9223372036854775807 by omega)];omega
 ·have:i=l.length:=by omega
  subst this
  rw[anyT_all,has_flip] at hall
  exact hall
end Go.Proofs.YtanlbohhmoifcaaGreat
namespace Go.Proofs.YtanlbohhmoifcaaGreat
open Go Go.Proofs Go.Sm
attribute [local simp] ti eStr eInt eByte eVal vVal eCol vCol vColS vStrS eTable cTable vTable vTableS cCat vCat eValS vValS eRow cRow vRow vRowS eRows vRowsS cDb vDb eDdl cDdl vDdl eStmt cStmt vStmt eRec vRec eSlot vSlot eRecS vRecS eSlotS vSlotS vStmtS
set_option linter.unusedVariables false
set_option linter.unusedSimpArgs false
def renS (a b s:ByteArray):ByteArray:=if s.toList==a.toList then b else s
def renC (a b:ByteArray) (c:GCol):GCol:=if c.fName.toList==a.toList then ⟨b,c.fTy,c.fNot,c.fHas,c.fDef⟩ else c
theorem renS_eq (a b s:ByteArray):(s=a→renS a b s=b)∧(s≠a→renS a b s=s):=by
 unfold renS
 by_cases h:s=a
 ·subst h;simp
 ·have:(s.toList==a.toList)=false:=Bool.eq_false_iff.2 fun e=>h ((tl_beq _ _).1 e)
  simp[this,h]
theorem renC_name (a b:ByteArray) (c:GCol):(renC a b c).fName=renS a b c.fName:=by
 unfold renC renS
 split<;>rfl
theorem cnm_ren (a b:ByteArray) (l:List GCol):cnm (l.map (renC a b))=(cnm l).map (renS a b):=by
 unfold cnm
 rw[List.map_map,List.map_map]
 exact List.map_congr_left fun c _=>renC_name a b c
theorem hasS_iff (l:List ByteArray) (s:ByteArray):has l s=true↔s∈l:=by
 simp only[has,List.any_eq_true,tl_beq]
 exact ⟨fun ⟨x,h,e⟩=>e▸h,fun h=>⟨s,h,rfl⟩⟩
def col0 (d:GDdl):GCol:=d.fCols[0]?.getD dCol
def tabCh (t:GTable) (d:GDdl):GTable:=
 if d.fKind=3 then ⟨t.fName,t.fCols++ [col0 d],t.fKeys⟩
 else if d.fKind=4 then ⟨t.fName,t.fCols.filter (fun c=> !(c.fName.toList==d.fName.toList)),t.fKeys⟩
 else if d.fKind=5 then ⟨t.fName,t.fCols.map (renC d.fName d.fTo),t.fKeys.map (renS d.fName d.fTo)⟩ else t
def tabCode (t:GTable) (d:GDdl):Int:=
 if (d.fKind=3∧0≤colAt t (col0 d).fName)∨(d.fKind=5∧0≤colAt t d.fTo) then 5 else
 if d.fKind=3∧t.fCols.length=8 then 6 else
 if (d.fKind=4∨d.fKind=5)∧colAt t d.fName<0 then 7 else
 if d.fKind=4∧has t.fKeys d.fName=true then 8 else 0
def tabOf (c:GCat) (s:ByteArray):GTable:=c.fTables[(tabAt c.fTables s).toNat]?.getD dTable
def ddlCode (c:GCat) (d:GDdl):Int:=
 if d.fKind=1 then (if 0≤tabAt c.fTables d.fTable then 2 else if c.fTables.length=6 then 3 else 0) else
 if tabAt c.fTables d.fTable<0 then 4 else tabCode (tabOf c d.fTable) d
def catCh (c:GCat) (d:GDdl):GCat:=
 if d.fKind=1 then ⟨insW (fun y=>tabLt y (madeT d)) (madeT d) c.fTables⟩ else
 if d.fKind=2 then ⟨c.fTables.eraseIdx (tabAt c.fTables d.fTable).toNat⟩ else
 ⟨c.fTables.set (tabAt c.fTables d.fTable).toNat (tabCh (tabOf c d.fTable) d)⟩
def ddlApply (c:GCat) (d:GDdl):GCat×Int:=if catOk c=false∨ddlOk d=false then (⟨[]⟩,1) else if ddlCode c d≠0 then (⟨[]⟩,ddlCode c d) else (catCh c d,0)
theorem ddlOk_wd {d:GDdl} (h:ddlOk d=true):wordOk d.fTable=true:=by
 simp only[ddlOk,Bool.and_eq_true] at h
 exact h.1
theorem ddlOk_kind {d:GDdl} (h:ddlOk d=true):d.fKind=1∨d.fKind=2∨d.fKind=3∨d.fKind=4∨d.fKind=5:=by
 simp only[ddlOk,Bool.and_eq_true,Bool.or_eq_true,decide_eq_true_eq] at h
 grind
theorem ddlOk_1 {d:GDdl} (h:ddlOk d=true) (k:d.fKind=1):tableOk (madeT d)=true:=by
 simp only[ddlOk,Bool.and_eq_true,Bool.or_eq_true,decide_eq_true_eq] at h
 grind
theorem ddlOk_3 {d:GDdl} (h:ddlOk d=true) (k:d.fKind=3):d.fCols.length=1∧colOk (col0 d)=true∧((col0 d).fHas=true∨(col0 d).fNot=false):=by
 simp only[ddlOk,addOk,Bool.and_eq_true,Bool.or_eq_true,decide_eq_true_eq] at h
 unfold col0
 grind
theorem ddlOk_5 {d:GDdl} (h:ddlOk d=true) (k:d.fKind=5):wordOk d.fName=true∧wordOk d.fTo=true:=by
 simp only[ddlOk,Bool.and_eq_true,Bool.or_eq_true,decide_eq_true_eq] at h
 grind
theorem nodup_ren {a b:ByteArray} {l:List ByteArray} (h:l.Nodup) (hb:b∉l):(l.map (renS a b)).Nodup:=by
 unfold List.Nodup at h⊢
 rw[List.pairwise_map]
 refine List.Pairwise.imp_of_mem (fun {x y} hx hy hne e=> ?_) h
 by_cases h1:x=a<;>by_cases h2:y=a
 ·exact hne (h1.trans h2.symm)
 ·rw[(renS_eq a b x).1 h1,(renS_eq a b y).2 h2] at e
  exact hb (e▸hy)
 ·rw[(renS_eq a b x).2 h1,(renS_eq a b y).1 h2] at e
  exact hb (e▸hx)
 ·rw[(renS_eq a b x).2 h1,(renS_eq a b y).2 h2] at e
  exact hne e
theorem renC_ok {a b:ByteArray} {c:GCol} (hb:wordOk b=true) (h:colOk c=true):colOk (renC a b c)=true:=by
 unfold renC
 split
 ·unfold colOk at h⊢
  simp only[Bool.and_eq_true] at h⊢
  exact ⟨⟨hb,h.1.2⟩,h.2⟩
 ·exact h
theorem cnm_filter (s:ByteArray) (l:List GCol):cnm (l.filter (fun c=> !(c.fName.toList==s.toList)))=(cnm l).filter (fun x=> !(x.toList==s.toList)):=by
 unfold cnm
 rw[List.filter_map]
 rfl
theorem tabCh_name (t:GTable) (d:GDdl):(tabCh t d).fName=t.fName:=by
 unfold tabCh
 split
 ·rfl
 split
 ·rfl
 split<;>rfl
theorem tabCode_0 {t:GTable} {d:GDdl} (h:tabCode t d=0):(d.fKind=3→(col0 d).fName∉cnm t.fCols∧t.fCols.length≠8)∧(d.fKind=5→d.fTo∉cnm t.fCols∧d.fName∈cnm t.fCols)∧(d.fKind=4→d.fName∈cnm t.fCols∧d.fName∉t.fKeys):=by
 unfold tabCode at h
 split at h
 ·cases h
 rename_i h1
 split at h
 ·cases h
 rename_i h2
 split at h
 ·cases h
 rename_i h3
 split at h
 ·cases h
 rename_i h4
 simp only[colAt_nn,not_or,not_and,hasS_iff] at h1 h2 h3 h4
 have h5: ∀s,¬colAt t s<0→s∈cnm t.fCols:=fun s hs=>colAt_nn.1 (by omega)
 exact ⟨fun k=>⟨h1.1 k,h2 k⟩,fun k=>⟨h1.2 k,h5 _ (h3 (.inr k))⟩,fun k=>⟨h5 _ (h3 (.inl k)),h4 k⟩⟩
theorem tabCh_ok {t:GTable} {d:GDdl} (ht:tableOk t=true) (hd:ddlOk d=true) (hc:tabCode t d=0):tableOk (tabCh t d)=true:=by
 have ht0:=ht
 rw[tableOk_iff] at ht⊢
 obtain ⟨h1,h2,h3,h4,h5,h6,h7,h8⟩:=ht
 obtain ⟨c3,c5,c4⟩:=tabCode_0 hc
 unfold tabCh
 by_cases k3:d.fKind=3
 ·obtain ⟨c31,c32⟩:=c3 k3
  obtain ⟨d1,d2,d3⟩:=ddlOk_3 hd k3
  rw[if_pos k3]
  have hn:cnm (t.fCols++ [col0 d])=cnm t.fCols++ [(col0 d).fName]:=by simp[cnm]
  refine ⟨h1,by simp,by simp;omega,h4,fun c hc=> ?_, ?_, ?_,fun c hc hk=> ?_⟩
  ·rcases List.mem_append.1 hc with hc|hc
   ·exact h5 c hc
   ·rw[List.mem_singleton.1 hc];exact d2
  ·rw[hn,List.nodup_append]
   refine ⟨h6,by simp,fun x hx y hy e=> ?_⟩
   rw[List.mem_singleton.1 hy] at e
   exact c31 (e▸hx)
  ·rw[hn]
   exact h7.trans (List.sublist_append_left _ _)
  ·rcases List.mem_append.1 hc with hc|hc
   ·exact h8 c hc hk
   ·rw[List.mem_singleton.1 hc] at hk
    exact absurd (h7.subset hk) c31
 rw[if_neg k3]
 by_cases k4:d.fKind=4
 ·obtain ⟨c41,c42⟩:=c4 k4
  rw[if_pos k4]
  have hsub:t.fKeys.Sublist (cnm (t.fCols.filter (fun c=> !(c.fName.toList==d.fName.toList)))):=by
   rw[cnm_filter]
   have:t.fKeys.filter (fun x=> !(x.toList==d.fName.toList))=t.fKeys:=List.filter_eq_self.2 fun k hk=>by
    rw[Bool.not_eq_true',Bool.eq_false_iff]
    exact fun e=>c42 ((tl_beq _ _).1 e▸hk)
   rw[←this]
   exact h7.filter _
  refine ⟨h1, ?_, ?_,h4,fun c hc=>h5 c (List.mem_filter.1 hc).1, ?_,hsub,fun c hc hk=>h8 c (List.mem_filter.1 hc).1 hk⟩
  ·have:=hsub.length_le
   have h9:=List.length_pos_iff.2 h4
   simp only[cnm,List.length_map] at this
   show 1≤(t.fCols.filter _).length
   omega
  ·have:=List.length_filter_le (fun c:GCol=> !(c.fName.toList==d.fName.toList)) t.fCols
   show (t.fCols.filter _).length≤8
   omega
  ·rw[cnm_filter]
   exact h6.filter _
 rw[if_neg k4]
 by_cases k5:d.fKind=5
 ·obtain ⟨c51,c52⟩:=c5 k5
  obtain ⟨d1,d2⟩:=ddlOk_5 hd k5
  rw[if_pos k5]
  refine ⟨h1,by simpa using h2,by simpa using h3,by simpa using h4,fun c hc=> ?_, ?_, ?_,fun c hc hk=> ?_⟩
  ·obtain ⟨c',hc',rfl⟩:=List.mem_map.1 hc
   exact renC_ok d2 (h5 c' hc')
  ·rw[cnm_ren]
   exact nodup_ren h6 c51
  ·rw[cnm_ren]
   exact h7.map _
  ·obtain ⟨c',hc',rfl⟩:=List.mem_map.1 hc
   rw[renC_name] at hk
   obtain ⟨k,hk1,hk2⟩:=List.mem_map.1 hk
   have hkm:=h7.subset hk1
   have hcm:c'.fName∈cnm t.fCols:=List.mem_map.2 ⟨c',hc',rfl⟩
   have he:k=c'.fName:=by
    by_cases e1:k=d.fName<;>by_cases e2:c'.fName=d.fName
    ·rw[e1,e2]
    ·rw[(renS_eq _ _ k).1 e1,(renS_eq _ _ c'.fName).2 e2] at hk2
     exact absurd (hk2▸hcm) c51
    ·rw[(renS_eq _ _ k).2 e1,(renS_eq _ _ c'.fName).1 e2] at hk2
     exact absurd (hk2▸hkm) c51
    ·rw[(renS_eq _ _ k).2 e1,(renS_eq _ _ c'.fName).2 e2] at hk2
     exact hk2
   have:=h8 c' hc' (he▸hk1)
   unfold renC
   split<;>exact this
 ·rw[if_neg k5]
  exact (tableOk_iff t).1 ht0
def rowCh (t:GTable) (d:GDdl) (r:GRow):GRow:=
 if d.fKind=3 then ⟨r.fVals++ [(col0 d).fDef]⟩ else if d.fKind=4 then ⟨r.fVals.eraseIdx (colAt t d.fName).toNat⟩ else r
theorem pos_app {l m:List ByteArray} {s:ByteArray} (h:s∈l):pos (l++m) s=pos l s:=by
 unfold pos
 rw[List.findIdx_append,if_pos (show List.findIdx _ l<l.length from pos_lt h)]
theorem filterC_erase {l:List GCol} (hn:(cnm l).Nodup) {s:ByteArray} (h:s∈cnm l):l.filter (fun c=> !(c.fName.toList==s.toList))=l.eraseIdx (pos (cnm l) s):=by
 induction l with
 |nil=>cases h
 |cons x l ih=>
  have hc:cnm (x::l)=x.fName::cnm l:=rfl
  rw[hc] at h hn⊢
  rw[pos_cons]
  rw[List.nodup_cons] at hn
  by_cases e:x.fName=s
  ·subst e
   have:l.filter (fun y=> !(y.fName.toList==x.fName.toList))=l:=List.filter_eq_self.2 fun k hk=>by
    rw[Bool.not_eq_true',Bool.eq_false_iff]
    exact fun e=>hn.1 ((tl_beq _ _).1 e▸List.mem_map.2 ⟨k,hk,rfl⟩)
   simp[this]
  ·have h1:(x.fName.toList==s.toList)=false:=Bool.eq_false_iff.2 fun e2=>e ((tl_beq _ _).1 e2)
   have h2:s∈cnm l:=by
    rcases List.mem_cons.1 h with e2|e2
    ·exact absurd e2.symm e
    ·exact e2
   simp[h1,e,ih hn.2 h2]
theorem pos_filter {l:List ByteArray} {s k:ByteArray} (hs:s∈l) (hk:k∈l) (hne:k≠s) (hn:l.Nodup):pos (l.filter (fun x=> !(x.toList==s.toList))) k=if pos l k<pos l s then pos l k else pos l k-1:=by
 induction l with
 |nil=>cases hs
 |cons x l ih=>
  rw[List.nodup_cons] at hn
  by_cases e:x=s
  ·subst e
   have hf:l.filter (fun y=> !(y.toList==x.toList))=l:=List.filter_eq_self.2 fun k hk=>by
    rw[Bool.not_eq_true',Bool.eq_false_iff]
    exact fun e=>hn.1 ((tl_beq _ _).1 e▸hk)
   rw[pos_cons x l k,pos_cons x l x,if_pos rfl,if_neg (Ne.symm hne)]
   simp[hf]
  ·have h1:(x.toList==s.toList)=false:=Bool.eq_false_iff.2 fun e2=>e ((tl_beq _ _).1 e2)
   have hs':s∈l:=(List.mem_cons.1 hs).resolve_left fun e2=>e e2.symm
   simp only[List.filter_cons,h1,Bool.not_false,if_true]
   rw[pos_cons x l s,if_neg e,pos_cons x l k,pos_cons]
   by_cases e2:x=k
   ·simp[e2]
   ·have hk':k∈l:=(List.mem_cons.1 hk).resolve_left fun e3=>e2 e3.symm
    rw[if_neg e2,if_neg e2,ih hs' hk' hn.2]
    have hp:pos l k≠pos l s:=fun e3=>by
     have a:=pos_get hs'
     have b:=pos_get hk'
     simp only[e3] at b
     exact hne (b.symm.trans a)
    split<;>rename_i h3
    ·rw[if_pos (by omega)]
    ·rw[if_neg (by omega)];omega
theorem pos_ren {a b k:ByteArray} {l:List ByteArray} (hb:b∉l) (hk:k∈l):pos (l.map (renS a b)) (renS a b k)=pos l k:=by
 induction l with
 |nil=>cases hk
 |cons x l ih=>
  rw[List.map_cons,pos_cons,pos_cons]
  have hinj:renS a b x=renS a b k↔x=k:=by
   constructor
   ·intro e
    by_cases e1:x=a<;>by_cases e2:k=a
    ·rw[e1,e2]
    ·rw[(renS_eq _ _ x).1 e1,(renS_eq _ _ k).2 e2] at e
     exact absurd (e▸hk) hb
    ·rw[(renS_eq _ _ x).2 e1,(renS_eq _ _ k).1 e2] at e
     exact absurd (List.mem_cons.2 (.inl e.symm)) hb
    ·rw[(renS_eq _ _ x).2 e1,(renS_eq _ _ k).2 e2] at e
     exact e
   ·intro e;rw[e]
  by_cases e:x=k
  ·rw[if_pos e,if_pos (hinj.2 e)]
  ·rw[if_neg e,if_neg (fun h=>e (hinj.1 h)),ih (fun h=>hb (List.mem_cons.2 (.inr h))) ((List.mem_cons.1 hk).resolve_left fun e3=>e e3.symm)]
theorem rowCh_key {t:GTable} {d:GDdl} {r:GRow} (ht:tableOk t=true) (hd:ddlOk d=true) (hc:tabCode t d=0) (hr:rowFit t r=true):keyOf (tabCh t d) (rowCh t d r)=keyOf t r:=by
 rw[tableOk_iff] at ht
 obtain ⟨h1,h2,h3,h4,h5,h6,h7,h8⟩:=ht
 obtain ⟨c3,c5,c4⟩:=tabCode_0 hc
 have hrl:=((rowFit_iff t r).1 hr).1
 have hcl:(cnm t.fCols).length=t.fCols.length:=by simp[cnm]
 unfold tabCh rowCh
 by_cases k3:d.fKind=3
 ·rw[if_pos k3,if_pos k3]
  unfold keyOf
  refine List.map_congr_left fun k hk=> ?_
  have hkm:=h7.subset hk
  have hn:cnm (t.fCols++ [col0 d])=cnm t.fCols++ [(col0 d).fName]:=by simp[cnm]
  have hp:=pos_lt hkm
  rw[colAt_toNat hkm,colAt_toNat (t:=⟨t.fName,t.fCols++ [col0 d],t.fKeys⟩) (by rw[hn];exact List.mem_append_left _ hkm)]
  show (r.fVals++ [(col0 d).fDef])[pos (cnm (t.fCols++ [col0 d])) k]?.getD dVal=_
  rw[hn,pos_app hkm,List.getElem?_append_left (by omega)]
 rw[if_neg k3,if_neg k3]
 by_cases k4:d.fKind=4
 ·obtain ⟨c41,c42⟩:=c4 k4
  rw[if_pos k4,if_pos k4]
  unfold keyOf
  refine List.map_congr_left fun k hk=> ?_
  have hkm:=h7.subset hk
  have hne:k≠d.fName:=fun e=>c42 (e▸hk)
  have hkf:k∈(cnm t.fCols).filter (fun x=> !(x.toList==d.fName.toList)):=List.mem_filter.2 ⟨hkm,by rw[Bool.not_eq_true',Bool.eq_false_iff];exact fun e=>hne ((tl_beq _ _).1 e)⟩
  rw[colAt_toNat hkm,colAt_toNat c41,colAt_toNat (t:=⟨t.fName,t.fCols.filter (fun c=> !(c.fName.toList==d.fName.toList)),t.fKeys⟩) (by rw[cnm_filter];exact hkf)]
  show (r.fVals.eraseIdx (pos (cnm t.fCols) d.fName))[pos (cnm (t.fCols.filter (fun c=> !(c.fName.toList==d.fName.toList)))) k]?.getD dVal=_
  rw[cnm_filter,pos_filter c41 hkm hne h6]
  have hp:pos (cnm t.fCols) k≠pos (cnm t.fCols) d.fName:=fun e3=>by
   have a:=pos_get c41
   have b:=pos_get hkm
   simp only[e3] at b
   exact hne (b.symm.trans a)
  rw[List.getElem?_eraseIdx]
  split<;>rename_i h9
  ·first|rfl|rw[if_pos h9]
  ·rw[if_neg (by omega),show pos (cnm t.fCols) k-1+1=pos (cnm t.fCols) k by omega]
 rw[if_neg k4,if_neg k4]
 by_cases k5:d.fKind=5
 ·obtain ⟨c51,c52⟩:=c5 k5
  rw[if_pos k5]
  unfold keyOf
  show (t.fKeys.map (renS d.fName d.fTo)).map _=_
  rw[List.map_map]
  refine List.map_congr_left fun k hk=> ?_
  have hkm:=h7.subset hk
  show r.fVals[(colAt _ (renS d.fName d.fTo k)).toNat]?.getD dVal=_
  rw[colAt_toNat hkm,colAt_toNat (t:=⟨t.fName,t.fCols.map (renC d.fName d.fTo),t.fKeys.map (renS d.fName d.fTo)⟩) (by rw[cnm_ren];exact List.mem_map.2 ⟨k,hkm,rfl⟩)]
  show r.fVals[pos (cnm (t.fCols.map (renC d.fName d.fTo))) _]?.getD dVal=_
  rw[cnm_ren,pos_ren c51 hkm]
 ·rw[if_neg k5]
theorem stands_def {c:GCol} (hc:colOk c=true) (h:c.fHas=true∨c.fNot=false):stands c c.fDef=true:=by
 simp only[colOk,nullV,Bool.and_eq_true] at hc
 obtain ⟨_,h2⟩:=hc
 unfold stands
 split at h2
 ·exact h2
 ·rename_i h3
  simp only[Bool.and_eq_true,decide_eq_true_eq] at h2
  have h4:c.fNot=false:=by
   rcases h with h|h
   ·exact absurd h h3
   ·exact h
  simp[h4,h2.1,valOk,h2.2.1,h2.2.2]
theorem rowCh_fit {t:GTable} {d:GDdl} {r:GRow} (ht:tableOk t=true) (hd:ddlOk d=true) (hc:tabCode t d=0) (hr:rowFit t r=true):rowFit (tabCh t d) (rowCh t d r)=true:=by
 rw[tableOk_iff] at ht
 obtain ⟨h1,h2,h3,h4,h5,h6,h7,h8⟩:=ht
 obtain ⟨c3,c5,c4⟩:=tabCode_0 hc
 have hr0:=hr
 rw[rowFit_iff] at hr⊢
 have hcl:(cnm t.fCols).length=t.fCols.length:=by simp[cnm]
 unfold tabCh rowCh
 by_cases k3:d.fKind=3
 ·obtain ⟨d1,d2,d3⟩:=ddlOk_3 hd k3
  rw[if_pos k3,if_pos k3]
  refine ⟨by simp[hr.1],fun i hi=> ?_⟩
  simp only[List.length_append,List.length_cons,List.length_nil] at hi
  show stands ((t.fCols++ [col0 d])[i]?.getD dCol) ((r.fVals++ [(col0 d).fDef])[i]?.getD dVal)=true
  rcases Nat.lt_or_ge i t.fCols.length with hlt|hge
  ·rw[List.getElem?_append_left hlt,List.getElem?_append_left (by omega)]
   exact hr.2 i hlt
  ·have e1:i-t.fCols.length=0:=by omega
   rw[List.getElem?_append_right hge,List.getElem?_append_right (by omega),hr.1,e1]
   exact stands_def d2 d3
 rw[if_neg k3,if_neg k3]
 by_cases k4:d.fKind=4
 ·obtain ⟨c41,c42⟩:=c4 k4
  rw[if_pos k4,if_pos k4]
  have hp:=pos_lt c41
  rw[colAt_toNat c41]
  show (r.fVals.eraseIdx _).length=(t.fCols.filter _).length∧_
  rw[filterC_erase h6 c41]
  refine ⟨by rw[List.length_eraseIdx_of_lt (by omega),List.length_eraseIdx_of_lt (by omega),hr.1],fun i hi=> ?_⟩
  have hi2:i<t.fCols.length-1:=by
   have h9:i< (t.fCols.eraseIdx (pos (cnm t.fCols) d.fName)).length:=hi
   rwa [List.length_eraseIdx_of_lt (by omega)] at h9
  show stands ((t.fCols.eraseIdx _)[i]?.getD dCol) ((r.fVals.eraseIdx _)[i]?.getD dVal)=true
  rw[List.getElem?_eraseIdx,List.getElem?_eraseIdx]
  split
  ·exact hr.2 i (by omega)
  ·exact hr.2 (i+1) (by omega)
 rw[if_neg k4,if_neg k4]
 by_cases k5:d.fKind=5
 ·rw[if_pos k5]
  refine ⟨by simp[hr.1],fun i hi=> ?_⟩
  simp only[List.length_map] at hi
  have:=hr.2 i hi
  show stands ((t.fCols.map (renC d.fName d.fTo))[i]?.getD dCol) _=true
  rw[List.getElem?_map,List.getElem?_eq_getElem hi]
  rw[List.getElem?_eq_getElem hi] at this
  simp only[Option.map_some,Option.getD_some] at this⊢
  unfold renC
  split<;>exact this
 ·rw[if_neg k5]
  exact (rowFit_iff t r).1 hr0
theorem rowsCh_ok {t:GTable} {d:GDdl} {l:List GRow} (hd:ddlOk d=true) (hc:tabCode t d=0) (h:rowsOk t l=true):rowsOk (tabCh t d) (l.map (rowCh t d))=true:=by
 rw[rowsOk_iff] at h⊢
 obtain ⟨h1,h2,h3,h4⟩:=h
 refine ⟨tabCh_ok h1 hd hc,by simpa using h2,fun r hr=> ?_, ?_⟩
 ·obtain ⟨r',hr',rfl⟩:=List.mem_map.1 hr
  exact rowCh_fit h1 hd hc (h3 r' hr')
 ·rw[List.pairwise_map]
  refine List.Pairwise.imp_of_mem (fun {a b} ha hb hab=> ?_) h4
  unfold rowLt at hab⊢
  rw[rowCh_key h1 hd hc (h3 a ha),rowCh_key h1 hd hc (h3 b hb)]
  exact hab
end Go.Proofs.YtanlbohhmoifcaaGreat
namespace Go.Proofs.YtanlbohhmoifcaaGreat
open Go Go.Proofs Go.Sm
attribute [local simp] ti eStr eInt eByte eVal vVal eCol vCol vColS vStrS eTable cTable vTable vTableS cCat vCat eValS vValS eRow cRow vRow vRowS eRows vRowsS cDb vDb eDdl cDdl vDdl eStmt cStmt vStmt eRec vRec eSlot vSlot eRecS vRecS eSlotS vSlotS vStmtS
set_option linter.unusedVariables false
set_option linter.unusedSimpArgs false
theorem ba_eq {a b:ByteArray} (h:a.toList=b.toList):a=b:=by
 have:=beq_toListBytes a b
 rw[h] at this
 simp only[BEq.rfl] at this
 obtain ⟨x⟩:=a
 obtain ⟨y⟩:=b
 have h2:(x==y)=true:=this
 rw[eq_of_beq h2]
def valsOk (l:List GVal):Bool:=within l.length 1 8&& !l.any (fun v=> !valOk v)
theorem areVals1_ok (v:GVal):VC Tryz.prog 242 [vVal v] [(false,[(.s,.sc (.bool (!valOk v)))])]:=by
 refine vc_of_ew good hm [0,1,2] Tryz.func242 rfl (by kernel_rfl) (by kernel_rfl) rfl ?_
 simp[Tryz.f242]
 refine .of (valOkI_ok v) ?_
 simp
theorem areVals_ok (l:List GVal) (hl:okM l.length):VC Tryz.prog 217 [vValS l] [(false,[(.s,.sc (.bool (valsOk l)))])]:=by
 refine vc_of_ew good hm [0,2] Tryz.func217 rfl (by kernel_rfl) (by kernel_rfl) rfl ?_
 simp[Tryz.f217]
 refine .of (within_ok _ _ _) ?_
 simp
 refine .of (fun h=>⟨h,hasVal0_ok l _ (fun v=> !valOk v) hl (fun x _=>areVals1_ok x)⟩) ?_
 simp[valsOk]
theorem l04Vals_ok (l:List GVal) (hl:okM l.length):VC Tryz.prog 194 [vValS l] [(false,[(.s,.sc (.bool (valsOk l)))])]:=by
 unfold okM at hl
 refine vc_of_ew good hm [0,2,5,6,7,8,4,13] Tryz.func194 rfl (by kernel_rfl) (by kernel_rfl) rfl ?_
 simp[Tryz.f194]
 refine ew_loop (fun E=> ∃i:Nat,i≤l.length∧anyT (fun v=> !valOk v) l i=false∧E= {nt:=23,sl:= [(0,vValS l),(5,vValS l),(6,int .i64 l.length),(7,int .i64 i)],bx:= [],rt:= []}) (fun E=>l.length- (E.num 7).toNat) _ (Gh.kb _ [0,5,6,7] [] []) ⟨0,by omega,anyT_zero _ _,by simp⟩ ?_
 rintro E1 ⟨i,hi,hall,rfl⟩
 simp
 refine ⟨fun h=>⟨h,.of (valOkS_ok _) ?_⟩,fun h=> ?_⟩
 ·simp
  refine ⟨fun hp=> ?_,fun hp=> .of _ (Gh.kb _ [0,5,6,7] [] []) ⟨i+1,by omega,by rw[anyT_succ _ dVal h,hall,hp];rfl, ?_⟩ ?_⟩
  ·have:l.any (fun v=> !valOk v)=true:=List.any_eq_true.2 ⟨_,getD_mem dVal h,by rw[hp];rfl⟩
   simp only[valsOk,this,Bool.not_true,Bool.and_false]
  ·simp[wrapS (show i<9223372036854775807 by omega)]
  ·simp[wrapS (show i<9223372036854775807 by omega)];omega
 ·have:i=l.length:=by omega
  subst this
  rw[anyT_all] at hall
  simp only[valsOk,hall,within]
  grind
def stmtOk (s:GStmt):Bool:=wordOk s.fTable&& ((decide (s.fKind=1)&& (s.fKey.isEmpty&&valsOk s.fRow.fVals&&noDdl s.fDdl))||(decide (s.fKind=2)&& (valsOk s.fKey&&valsOk s.fRow.fVals&&noDdl s.fDdl))||(decide (s.fKind=3)&& (valsOk s.fKey&&s.fRow.fVals.isEmpty&&noDdl s.fDdl))||(decide (s.fKind=4)&& (s.fKey.isEmpty&&s.fRow.fVals.isEmpty&&noDdl s.fDdl))||(decide (s.fKind=5)&& (s.fKey.isEmpty&&s.fRow.fVals.isEmpty&&ddlOk s.fDdl&&s.fDdl.fTable.toList==s.fTable.toList)))
theorem ddlOk_word {d:GDdl} (h:ddlOk d=true):wordOk d.fTable=true:=by
 unfold ddlOk at h
 cases hw:wordOk d.fTable with
 |true=>rfl
 |false=>rw[hw] at h;simp at h
theorem stmtOkS_ok (s:GStmt) (hs:okStmt s):VC Tryz.prog 169 [vStmt s] [(false,[(.s,.sc (.bool (stmtOk s)))])]:=by
 obtain ⟨_,hn,hk,hr,hd,_⟩:=hs
 refine vc_of_ew good hm [0,1,2,3,4,17,19,20,34,50,63,74] Tryz.func169 rfl (by kernel_rfl) (by kernel_rfl) rfl ?_
 simp[Tryz.f169]
 refine .of (wordOkS_ok _ hn) ?_
 simp[beqI]
 refine ⟨fun h=>by grind[stmtOk],fun hw=>⟨fun k1=> .of (fun h=>⟨h,l04Vals_ok _ hr.1.1⟩) ?_,fun k1=>⟨fun k2=> .of (l04Vals_ok _ hk.1) ?_,fun k2=>⟨fun k3=> .of (l04Vals_ok _ hk.1) ?_,fun k3=>⟨fun k4=> ?_,fun k4=>⟨fun k5=> ?_,fun k5=>by grind[stmtOk]⟩⟩⟩⟩⟩⟩
 ·simp
  refine .of (fun h=>⟨h,l04NoDdl_ok _⟩) ?_
  simp
  grind[stmtOk]
 ·simp
  refine .of (fun h=>⟨h,l04Vals_ok _ hr.1.1⟩) ?_
  simp
  refine .of (fun h=>⟨h,l04NoDdl_ok _⟩) ?_
  simp
  grind[stmtOk]
 ·simp
  refine .of (fun h=>⟨h,l04NoDdl_ok _⟩) ?_
  simp
  grind[stmtOk]
 ·refine .of (fun h=>⟨h,l04NoDdl_ok _⟩) ?_
  simp
  grind[stmtOk]
 ·refine .of (fun h=>⟨h,ddlOkS_ok _ hd⟩) ?_
  simp
  grind[stmtOk]
theorem stmtOkI_ok (s:GStmt) (hs:okStmt s) (h1:s.fDdl.fCols.length≤1048576) (h2:s.fDdl.fKeys.length≤1048576):VC Tryz.prog 189 [vStmt s] [(false,[(.s,.sc (.bool (stmtOk s)))])]:=by
 obtain ⟨_,hn,hk,hr,hd,_⟩:=hs
 refine vc_of_ew good hm [0,1,2,5,40,42,43,55,66,78] Tryz.func189 rfl (by kernel_rfl) (by kernel_rfl) rfl ?_
 simp[Tryz.f189,beqI]
 refine ⟨fun k5=> .of (ddlOkI_ok _ hd h1 h2) ?_,fun k5=> .of (wordOkI_ok _ hn) ?_⟩
 ·simp
  have hw:s.fTable.toList=s.fDdl.fTable.toList→ddlOk s.fDdl=true→wordOk s.fTable=true:=fun e h=>by
   rw[ba_eq e]
   exact ddlOk_word h
  have he:(s.fRow.fVals.length:Int)=0↔s.fRow.fVals= []:=by simp
  grind[stmtOk]
 ·simp[beqI]
  refine .of (fun h=>⟨h,equalDdl_ok s.fDdl dDdl hd⟩) ?_
  rw[eqDdl_nil]
  simp[beqI]
  refine ⟨fun h=>by grind[stmtOk],fun hw hnd=>⟨fun k1=> .of (fun h=>⟨h,areVals_ok _ hr.1.1⟩) ?_,fun k1=>⟨fun k2=> .of (areVals_ok _ hk.1) ?_,fun k2=>⟨fun k3=> .of (areVals_ok _ hk.1) ?_,fun k3=>⟨fun k4=> ?_,fun k4=>by grind[stmtOk]⟩⟩⟩⟩⟩
  ·simp
   grind[stmtOk]
  ·simp
   refine .of (fun h=>⟨h,areVals_ok _ hr.1.1⟩) ?_
   simp
   grind[stmtOk]
  ·simp
   have he:(s.fRow.fVals.length:Int)=0↔s.fRow.fVals= []:=by simp
   grind[stmtOk]
  ·have he:(s.fRow.fVals.length:Int)=0↔s.fRow.fVals= []:=by simp
   grind[stmtOk]
def noStmt (s:GStmt):Bool:=decide (s.fKind=0)&& (em s.fTable&& (s.fKey.isEmpty&& (s.fRow.fVals.isEmpty&&noDdl s.fDdl)))
theorem l07NoStmt_ok (s:GStmt):VC Tryz.prog 170 [vStmt s] [(false,[(.s,.sc (.bool (noStmt s)))])]:=by
 refine vc_of_ew good hm [0,1,2] Tryz.func170 rfl (by kernel_rfl) (by kernel_rfl) rfl ?_
 simp[Tryz.f170,beqI]
 refine .of (fun h=>⟨h,l04NoDdl_ok _⟩) ?_
 simp[beqI]
 grind[noStmt,em]
theorem isNoStmt_ok (s:GStmt) (hs:okStmt s):VC Tryz.prog 190 [vStmt s] [(false,[(.s,.sc (.bool (noStmt s)))])]:=by
 refine vc_of_ew good hm [0,1,2] Tryz.func190 rfl (by kernel_rfl) (by kernel_rfl) rfl ?_
 simp[Tryz.f190,beqI]
 refine .of (fun h=>⟨h,equalDdl_ok s.fDdl dDdl hs.2.2.2.2.1⟩) ?_
 rw[eqDdl_nil]
 simp[beqI]
 grind[noStmt,em]
def recOk (r:GRec):Bool:=within r.fKind 1 4&& (within r.fXid 1 1000000&& (if r.fKind=2 then stmtOk r.fStmt else noStmt r.fStmt))
theorem recOkS_ok (r:GRec) (hr:okRec r):VC Tryz.prog 129 [vRec r] [(false,[(.s,.sc (.bool (recOk r)))])]:=by
 refine vc_of_ew good hm [0,1,2,20,23] Tryz.func129 rfl (by kernel_rfl) (by kernel_rfl) rfl ?_
 simp[Tryz.f129,beqI]
 refine ⟨by grind[recOk,within],fun a1 a2 a3 a4=>⟨fun k=> .of (stmtOkS_ok _ hr.2.2.1) ?_,fun k=> .of (l07NoStmt_ok _) ?_⟩⟩
 ·simp
  grind[recOk,within]
 ·simp
  grind[recOk,within]
theorem recOkI_ok (r:GRec) (hr:okRec r) (h1:r.fStmt.fDdl.fCols.length≤1048576) (h2:r.fStmt.fDdl.fKeys.length≤1048576):VC Tryz.prog 160 [vRec r] [(false,[(.s,.sc (.bool (recOk r)))])]:=by
 refine vc_of_ew good hm [0,1,2,12,15] Tryz.func160 rfl (by kernel_rfl) (by kernel_rfl) rfl ?_
 simp[Tryz.f160,beqI]
 refine .of (within_ok _ _ _) ?_
 simp
 refine .of (fun h=>⟨h,within_ok _ _ _⟩) ?_
 simp[beqI]
 refine ⟨by grind[recOk],fun a1 a2=>⟨fun k=> .of (stmtOkI_ok _ hr.2.2.1 h1 h2) ?_,fun k=> .of (isNoStmt_ok _ hr.2.2.1) ?_⟩⟩
 ·simp
  grind[recOk]
 ·simp
  grind[recOk]
end Go.Proofs.YtanlbohhmoifcaaGreat
namespace Go.Proofs.YtanlbohhmoifcaaGreat
open Go Go.Proofs Go.Sm
attribute [local simp] ti eStr eInt eByte eVal vVal eCol vCol vColS vStrS eTable cTable vTable vTableS cCat vCat eValS vValS eRow cRow vRow vRowS eRows vRowsS cDb vDb eDdl cDdl vDdl eStmt cStmt vStmt eRec vRec eSlot vSlot eRecS vRecS eSlotS vSlotS vStmtS
set_option linter.unusedVariables false
set_option linter.unusedSimpArgs false
theorem tabAt_nn (l:List GTable) (s:ByteArray):0≤tabAt l s↔ ∃t∈l,t.fName=s:=by
 have:=idxF_ge (fun t:GTable=>t.fName.toList==s.toList) l
 rw[Bool.eq_iff_iff,decide_eq_true_eq,List.any_eq_true] at this
 simp only[tl_beq] at this
 exact this
theorem tabAt_get {l:List GTable} {s:ByteArray} (h:0≤tabAt l s):(l[(tabAt l s).toNat]?.getD dTable).fName=s:=by
 have h2:l.any (fun t:GTable=>t.fName.toList==s.toList)=true:=by
  have:=idxF_ge (fun t:GTable=>t.fName.toList==s.toList) l
  rw[←this]
  exact decide_eq_true h
 have hlt:l.findIdx (fun t:GTable=>t.fName.toList==s.toList)<l.length:=List.findIdx_lt_length_of_exists (by simpa using h2)
 have e:(tabAt l s).toNat=l.findIdx (fun t:GTable=>t.fName.toList==s.toList):=by
  unfold tabAt idxF
  rw[if_pos h2]
  rfl
 rw[e,List.getElem?_eq_getElem hlt]
 have:=List.findIdx_getElem (w:=hlt) (p:=fun t:GTable=>t.fName.toList==s.toList)
 exact (tl_beq _ _).1 this
def tabPw (l:List GTable):Prop:=l.Pairwise (fun a b=>tabLt a b=true)
theorem tab_once {l:List GTable} (h:tabPw l) {i j:Nat} (hi:i<l.length) (hj:j<l.length) (e:(l[i]?.getD dTable).fName=(l[j]?.getD dTable).fName):i=j:=by
 rw[List.getElem?_eq_getElem hi,List.getElem?_eq_getElem hj] at e
 simp only[Option.getD_some] at e
 have h2:=List.pairwise_iff_getElem.1 h
 rcases Nat.lt_trichotomy i j with hlt|he|hgt
 ·have:=h2 i j hi hj hlt
  rw[tabLt,e,bl_irrefl] at this
  cases this
 ·exact he
 ·have:=h2 j i hj hi hgt
  rw[tabLt,e,bl_irrefl] at this
  cases this
theorem tabAt_at {l:List GTable} (h:tabPw l) {i:Nat} (hi:i<l.length):tabAt l (l[i]?.getD dTable).fName=i:=by
 have h1:0≤tabAt l (l[i]?.getD dTable).fName:=(tabAt_nn l _).2 ⟨_,getD_mem dTable hi,rfl⟩
 have hb:=tabAt_bd l (l[i]?.getD dTable).fName
 have:=tab_once h (i:=(tabAt l (l[i]?.getD dTable).fName).toNat) (by omega) hi (tabAt_get h1)
 omega
theorem tabLt_total {a b:GTable} (h:a.fName≠b.fName):tabLt a b=true∨tabLt b a=true:=bl_total _ _ fun e=>h (tl_inj e)
theorem tabLt_asymm {a b:GTable} (h:tabLt a b=true):tabLt b a=false:=bl_asymm h
theorem names_pw (l:List GTable):tabPw l↔ (l.map (·.fName)).Pairwise (fun a b=>Op.bytesLess a.toList b.toList=true):=by
 rw[List.pairwise_map]
 rfl
theorem names_set {l:List GTable} {k:Nat} {y:GTable} (h:y.fName=(l[k]?.getD dTable).fName):(l.set k y).map (·.fName)=l.map (·.fName):=by
 rw[List.map_set,h]
 rcases Nat.lt_or_ge k l.length with hlt|hge
 ·rw[List.getElem?_eq_getElem hlt]
  apply List.ext_getElem
  ·simp
  ·intro i h1 h2
   rw[List.getElem_set]
   split
   ·rename_i e;subst e;simp
   ·rfl
 ·rw[List.set_eq_of_length_le (by simpa using hge)]
theorem ddlCode_0 {c:GCat} {d:GDdl} (h:ddlCode c d=0):(d.fKind=1→(∀t∈c.fTables,t.fName≠d.fTable)∧c.fTables.length≠6)∧(d.fKind≠1→0≤tabAt c.fTables d.fTable∧tabCode (tabOf c d.fTable) d=0):=by
 unfold ddlCode at h
 split at h
 ·rename_i k
  split at h
  ·cases h
  rename_i h1
  split at h
  ·cases h
  rename_i h2
  exact ⟨fun _=>⟨fun t ht e=>h1 ((tabAt_nn _ _).2 ⟨t,ht,e⟩),h2⟩,fun k2=>absurd k k2⟩
 ·rename_i k
  split at h
  ·cases h
  rename_i h1
  exact ⟨fun k2=>absurd k2 k,fun _=>⟨by omega,h⟩⟩
theorem catCh_ok {c:GCat} {d:GDdl} (hc:catOk c=true) (hd:ddlOk d=true) (h0:ddlCode c d=0):catOk (catCh c d)=true:=by
 obtain ⟨z1,z2⟩:=ddlCode_0 h0
 rw[catOk_iff] at hc⊢
 obtain ⟨h1,h2,h3⟩:=hc
 unfold catCh
 by_cases k1:d.fKind=1
 ·obtain ⟨z3,z4⟩:=z1 k1
  rw[if_pos k1]
  refine ⟨fun t ht=> ?_, ?_, ?_⟩
  ·rcases insW_mem.1 ht with rfl|ht
   ·exact ddlOk_1 hd k1
   ·exact h1 t ht
  ·show (insW _ _ _).length≤6
   rw[insW_len];omega
  ·exact insW_pw (R:=tabLt) (fun a b c=>bl_trans _ _ _) _ h3 (fun y hy=>tabLt_total (b:=madeT d) (z3 y hy))
 rw[if_neg k1]
 obtain ⟨z3,z4⟩:=z2 k1
 have hb:=tabAt_bd c.fTables d.fTable
 by_cases k2:d.fKind=2
 ·rw[if_pos k2]
  have hs:=List.eraseIdx_sublist (l:=c.fTables) (k:=(tabAt c.fTables d.fTable).toNat)
  exact ⟨fun t ht=>h1 t (hs.subset ht),by have:=hs.length_le;exact Nat.le_trans this h2,h3.sublist hs⟩
 ·rw[if_neg k2]
  have hm:tabOf c d.fTable∈c.fTables:=getD_mem dTable (by omega)
  refine ⟨fun t ht=> ?_,by simpa using h2, ?_⟩
  ·rcases List.mem_or_eq_of_mem_set ht with ht|rfl
   ·exact h1 t ht
   ·exact tabCh_ok (h1 _ hm) hd z4
  ·show tabPw (c.fTables.set (tabAt c.fTables d.fTable).toNat (tabCh (tabOf c d.fTable) d))
   rw[names_pw,names_set (k:=(tabAt c.fTables d.fTable).toNat) (y:=tabCh (tabOf c d.fTable) d) (tabCh_name _ _),←names_pw]
   exact h3
theorem ddlApply_ok {c:GCat} {d:GDdl} (h:(ddlApply c d).2=0):catOk c=true∧ddlOk d=true∧ddlCode c d=0∧ddlApply c d=(catCh c d,0):=by
 unfold ddlApply at h⊢
 split at h
 ·cases h
 rename_i h1
 split at h
 ·rename_i h2;exact absurd h h2
 rename_i h2
 rw[if_neg h1,if_neg h2]
 simp only[not_or,Bool.not_eq_false] at h1
 exact ⟨h1.1,h1.2,by omega,rfl⟩
def insAt {α:Type} (l:List α) (n:Nat) (x:α):List α:=l.take n++x::l.drop n
def rowsDdl (t:GTable) (l:List GRow) (d:GDdl):List GRow×Int:=
 if rowsOk t l=false∨ddlOk d=false∨(d.fTable.toList==t.fName.toList)=false∨d.fKind=1 then ([],1) else if ddlCode ⟨[t]⟩ d≠0 then ([],ddlCode ⟨[t]⟩ d) else (if d.fKind=2 then [] else l.map (rowCh t d),0)
def dataOf (d:GDb) (k:Nat):List GRow:=(d.fData[k]?.getD dRows).fRows
def dbIx (d:GDb) (s:ByteArray):Nat:=(tabAt d.fCat.fTables s).toNat
def dataCh (d:GDb) (x:GDdl):List GRows:=
 if x.fKind=1 then insAt d.fData (tabAt (catCh d.fCat x).fTables x.fTable).toNat ⟨[]⟩ else if x.fKind=2 then d.fData.eraseIdx (dbIx d x.fTable) else
 d.fData.set (dbIx d x.fTable) ⟨(rowsDdl (tabOf d.fCat x.fTable) (dataOf d (dbIx d x.fTable)) x).1⟩
def dbCh (d:GDb) (x:GDdl):GDb×Int:=
 if (ddlApply d.fCat x).2≠0 then (dDb,(ddlApply d.fCat x).2) else (⟨catCh d.fCat x,dataCh d x⟩,0)
def stRows (t:GTable) (l:List GRow) (s:GStmt):List GRow×Int:=
 if s.fKind=1 then rowPut t l s.fRow else if s.fKind=2 then rowSet t l s.fKey s.fRow else if s.fKind=3 then rowOut t l s.fKey else ([],0)
def dbExec (d:GDb) (s:GStmt):GDb×Int:=
 if tabAt d.fCat.fTables s.fTable<0∧ ¬(s.fKind=5∧s.fDdl.fKind=1) then (dDb,4) else
 if s.fKind=5 then (if (dbCh d s.fDdl).2≠0 then (dDb,10+(dbCh d s.fDdl).2) else dbCh d s.fDdl) else
 if (stRows (tabOf d.fCat s.fTable) (dataOf d (dbIx d s.fTable)) s).2≠0 then (dDb,10+(stRows (tabOf d.fCat s.fTable) (dataOf d (dbIx d s.fTable)) s).2) else
 (⟨d.fCat,d.fData.set (dbIx d s.fTable) ⟨(stRows (tabOf d.fCat s.fTable) (dataOf d (dbIx d s.fTable)) s).1⟩⟩,0)
theorem insW_tab {c:GCat} {d:GDdl} (hc:catOk c=true) (hd:ddlOk d=true) (k1:d.fKind=1) (h0:ddlCode c d=0):(tabAt (catCh c d).fTables d.fTable).toNat=(c.fTables.takeWhile (fun y=>tabLt y (madeT d))).length:=by
 have hok:=catCh_ok hc hd h0
 rw[catOk_iff] at hok
 have e:(catCh c d).fTables=insW (fun y=>tabLt y (madeT d)) (madeT d) c.fTables:=by unfold catCh;rw[if_pos k1]
 have hl:=takeW_len (fun y=>tabLt y (madeT d)) c.fTables
 have h1:(c.fTables.takeWhile (fun y=>tabLt y (madeT d))).length< (catCh c d).fTables.length:=by rw[e,insW_len];omega
 have h2:=tabAt_at hok.2.2 h1
 have h3:(catCh c d).fTables[(c.fTables.takeWhile (fun y=>tabLt y (madeT d))).length]? =some (madeT d):=by
  rw[e]
  unfold insW
  rw[List.getElem?_append_right (Nat.le_refl _)]
  simp
 rw[h3] at h2
 show (tabAt (catCh c d).fTables (madeT d).fName).toNat=_
 rw[show (madeT d).fName=((some (madeT d)).getD dTable).fName from rfl,h2]
 rfl
theorem rowsOk_nil {t:GTable} (h:tableOk t=true):rowsOk t []=true:=(rowsOk_iff t []).2 ⟨h,by simp,by simp,by simp⟩
theorem ddlCode_one {t:GTable} {d:GDdl} (k:d.fKind≠1) (hn:d.fTable=t.fName):ddlCode ⟨[t]⟩ d=tabCode t d:=by
 have h1:tabAt [t] d.fTable=0:=by
  rw[hn]
  exact tabAt_at (l:= [t]) (by simp[tabPw]) (i:=0) (by simp)
 unfold ddlCode tabOf
 rw[if_neg k]
 simp only[h1]
 rfl
theorem rowsDdl_ok {t:GTable} {l:List GRow} {d:GDdl} (hr:rowsOk t l=true) (hd:ddlOk d=true) (hn:d.fTable=t.fName) (k1:d.fKind≠1) (k2:d.fKind≠2) (hc:tabCode t d=0):rowsDdl t l d=(l.map (rowCh t d),0):=by
 unfold rowsDdl
 rw[if_neg (by simp[hr,hd,hn,k1]),ddlCode_one k1 hn,hc]
 simp[k2]
theorem dbCh_ok {d:GDb} {x:GDdl} (hd:dbOk d=true) (h:(dbCh d x).2=0):dbOk (dbCh d x).1=true:=by
 unfold dbCh at h⊢
 split at h
 ·rename_i h1;exact absurd h h1
 rename_i h1
 rw[if_neg h1]
 obtain ⟨h2,h3,h4,h5⟩:=ddlApply_ok (c:=d.fCat) (d:=x) (by omega)
 rw[dbOk_iff] at hd
 obtain ⟨g1,g2,g3⟩:=hd
 have g1':=(catOk_iff _).1 g1
 have hok:=catCh_ok h2 h3 h4
 obtain ⟨z1,z2⟩:=ddlCode_0 h4
 rw[dbOk_iff]
 refine ⟨hok, ?_⟩
 show (dataCh d x).length=_∧ ∀i,i< (catCh d.fCat x).fTables.length→rowsOk ((catCh d.fCat x).fTables[i]?.getD dTable) ((dataCh d x)[i]?.getD dRows).fRows=true
 unfold dataCh
 by_cases k1:x.fKind=1
 ·rw[if_pos k1,insW_tab h2 h3 k1 h4]
  have e:(catCh d.fCat x).fTables=insAt d.fCat.fTables (d.fCat.fTables.takeWhile (fun y=>tabLt y (madeT x))).length (madeT x):=by unfold catCh;rw[if_pos k1];exact insW_at _ _ _
  rw[e]
  have hl:=takeW_len (fun y=>tabLt y (madeT x)) d.fCat.fTables
  generalize (d.fCat.fTables.takeWhile (fun y=>tabLt y (madeT x))).length=n at hl⊢
  unfold insAt
  refine ⟨by simp;omega,fun i hi=> ?_⟩
  simp only[List.length_append,List.length_take,List.length_cons,List.length_drop] at hi
  rcases Nat.lt_trichotomy i n with hlt|he|hgt
  ·rw[List.getElem?_append_left (by simp;omega),List.getElem?_append_left (by simp;omega),List.getElem?_take_of_lt hlt,List.getElem?_take_of_lt hlt]
   exact g3 i (by omega)
  ·subst he
   rw[List.getElem?_append_right (by simp;omega),List.getElem?_append_right (by simp;omega)]
   simp only[List.length_take]
   rw[show i-min i d.fCat.fTables.length=0 by omega,show i-min i d.fData.length=0 by omega]
   exact rowsOk_nil (ddlOk_1 h3 k1)
  ·rw[List.getElem?_append_right (by simp;omega),List.getElem?_append_right (by simp;omega)]
   simp only[List.length_take]
   rw[show i-min n d.fCat.fTables.length=(i-n-1)+1 by omega,show i-min n d.fData.length=(i-n-1)+1 by omega,List.getElem?_cons_succ,List.getElem?_cons_succ,List.getElem?_drop,List.getElem?_drop,show n+(i-n-1)=i-1 by omega]
   exact g3 (i-1) (by omega)
 rw[if_neg k1]
 obtain ⟨z3,z4⟩:=z2 k1
 have hb:=tabAt_bd d.fCat.fTables x.fTable
 have hix:dbIx d x.fTable<d.fCat.fTables.length:=by unfold dbIx;omega
 by_cases k2:x.fKind=2
 ·rw[if_pos k2]
  have e:(catCh d.fCat x).fTables=d.fCat.fTables.eraseIdx (dbIx d x.fTable):=by unfold catCh;rw[if_neg k1,if_pos k2];rfl
  rw[e]
  refine ⟨by rw[List.length_eraseIdx_of_lt (by omega),List.length_eraseIdx_of_lt hix,g2],fun i hi=> ?_⟩
  rw[List.length_eraseIdx_of_lt hix] at hi
  rw[List.getElem?_eraseIdx,List.getElem?_eraseIdx]
  split
  ·exact g3 i (by omega)
  ·exact g3 (i+1) (by omega)
 ·rw[if_neg k2]
  have e:(catCh d.fCat x).fTables=d.fCat.fTables.set (dbIx d x.fTable) (tabCh (tabOf d.fCat x.fTable) x):=by unfold catCh;rw[if_neg k1,if_neg k2];rfl
  have hg:=g3 _ hix
  have hnm:(tabOf d.fCat x.fTable).fName=x.fTable:=tabAt_get z3
  have hrd:=rowsDdl_ok (t:=tabOf d.fCat x.fTable) (l:=dataOf d (dbIx d x.fTable)) hg h3 hnm.symm k1 k2 z4
  rw[e,hrd]
  refine ⟨by simp[g2],fun i hi=> ?_⟩
  simp only[List.length_set] at hi
  rw[List.getElem?_set,List.getElem?_set]
  by_cases hi2:dbIx d x.fTable=i
  ·subst hi2
   rw[if_pos rfl,if_pos rfl,if_pos hix,if_pos (by omega)]
   exact rowsCh_ok h3 z4 hg
  ·rw[if_neg hi2,if_neg hi2]
   exact g3 i hi
theorem stRows_ok {t:GTable} {l:List GRow} {s:GStmt} (ht:tableOk t=true) (h:(stRows t l s).2=0):rowsOk t (stRows t l s).1=true:=by
 unfold stRows at h⊢
 split at h
 ·rename_i k;rw[if_pos k];exact rowPut_ok h
 rename_i k
 rw[if_neg k]
 split at h
 ·rename_i k;rw[if_pos k];exact rowSet_ok h
 rename_i k
 rw[if_neg k]
 split at h
 ·rename_i k;rw[if_pos k];exact rowOut_ok h
 rename_i k
 rw[if_neg k]
 exact rowsOk_nil ht
theorem dbExec_ok {d:GDb} {s:GStmt} (hd:dbOk d=true) (h:(dbExec d s).2=0):dbOk (dbExec d s).1=true:=by
 unfold dbExec at h⊢
 split at h
 ·cases h
 rename_i h1
 rw[if_neg h1]
 split at h
 ·rename_i k
  rw[if_pos k]
  split at h
  ·rename_i h2
   have hn:0≤(dbCh d s.fDdl).2:=by
    unfold dbCh
    split
    ·show 0≤(ddlApply d.fCat s.fDdl).2
     unfold ddlApply
     split
     ·exact (by decide:(0:Int)≤1)
     split
     ·show 0≤ddlCode _ _
      unfold ddlCode tabCode
      grind
     ·exact Int.le_refl 0
    ·exact Int.le_refl 0
   simp only at h
   omega
  rename_i h2
  rw[if_neg h2]
  exact dbCh_ok hd (by omega)
 rename_i k
 rw[if_neg k]
 split at h
 ·rename_i h2
  have hn:0≤(stRows (tabOf d.fCat s.fTable) (dataOf d (dbIx d s.fTable)) s).2:=by
   unfold stRows rowPut rowSet rowOut
   grind
  simp only at h
  omega
 rename_i h2
 rw[if_neg h2]
 have h3:(stRows (tabOf d.fCat s.fTable) (dataOf d (dbIx d s.fTable)) s).2=0:=by omega
 rw[dbOk_iff] at hd⊢
 obtain ⟨g1,g2,g3⟩:=hd
 have hb:=tabAt_bd d.fCat.fTables s.fTable
 have hix:dbIx d s.fTable<d.fCat.fTables.length:=by
  have:0≤tabAt d.fCat.fTables s.fTable:=by
   by_cases hx:0≤tabAt d.fCat.fTables s.fTable
   ·exact hx
   ·exact absurd ⟨by omega,fun hk=>k hk.1⟩ h1
  unfold dbIx;omega
 refine ⟨g1,by simpa using g2,fun i hi=> ?_⟩
 show rowsOk (d.fCat.fTables[i]?.getD dTable) ((d.fData.set (dbIx d s.fTable) _)[i]?.getD dRows).fRows=true
 rw[List.getElem?_set]
 by_cases hi2:dbIx d s.fTable=i
 ·subst hi2
  rw[if_pos rfl,if_pos (by omega)]
  exact stRows_ok ((catOk_iff _).1 g1|>.1 _ (getD_mem dTable hi)) h3
 ·rw[if_neg hi2]
  exact g3 i hi
def execL:GDb→List GStmt→Nat→GDb×Int×Int
 |d,[],_=>(d,0,0)
 |d,s::l,i=>if stmtOk s=false then (dDb,1,(i:Int)) else if (dbExec d s).2≠0 then (dDb,(dbExec d s).2,(i:Int)) else execL (dbExec d s).1 l (i+1)
def execAll (d:GDb) (l:List GStmt):GDb×Int×Int:=if dbOk d=false then (dDb,1,0) else execL d l 0
theorem execL_ok: ∀ {l:List GStmt} {d:GDb} {i:Nat},dbOk d=true→(execL d l i).2.1=0→dbOk (execL d l i).1=true
 | [],d,i,h,_=>h
 |s::l,d,i,h,h0=>by
  unfold execL at h0⊢
  split at h0
  ·cases h0
  rename_i h1
  rw[if_neg h1]
  split at h0
  ·rename_i h2;exact absurd h0 h2
  rename_i h2
  rw[if_neg h2]
  exact execL_ok (dbExec_ok h (by omega)) h0
end Go.Proofs.YtanlbohhmoifcaaGreat
namespace Go.Proofs.YtanlbohhmoifcaaGreat
open Go Go.Proofs Go.Sm
attribute [local simp] ti eStr eInt eByte eVal vVal eCol vCol vColS vStrS eTable cTable vTable vTableS cCat vCat eValS vValS eRow cRow vRow vRowS eRows vRowsS cDb vDb eDdl cDdl vDdl eStmt cStmt vStmt eRec vRec eSlot vSlot eRecS vRecS eSlotS vSlotS vStmtS
set_option linter.unusedVariables false
set_option linter.unusedSimpArgs false
theorem copyVals_ok (l:List GVal) (hl:l.length≤1048576):VC Tryz.prog 167 [vValS l] [(false,mValS l)]:=by
 refine vc_of_ew good hm [0,2] Tryz.func167 rfl (by kernel_rfl) (by kernel_rfl) rfl ?_
 simp[Tryz.f167,mValS]
 omega
def bdDdl (d:GDdl):Prop:=d.fCols.length≤1048576∧d.fKeys.length≤1048576
def bdStmt (s:GStmt):Prop:=s.fKey.length≤1048576∧s.fRow.fVals.length≤1048576∧bdDdl s.fDdl
theorem copyDdl_ok (d:GDdl) (h:bdDdl d):VC Tryz.prog 168 [vDdl d] [(true,mDdl d)]:=by
 refine vc_of_ew good hm [0,1,2] Tryz.func168 rfl (by kernel_rfl) (by kernel_rfl) rfl ?_
 simp[Tryz.f168,mDdl]
 refine ⟨by have:=h.1;omega,.of (copyTexts_ok _ h.2) ?_⟩
 simp[mStrS]
theorem l03Row_ok (r:GRow) (h:r.fVals.length≤1048576):VC Tryz.prog 192 [vRow r] [(true,mRow r)]:=by
 refine vc_of_ew good hm [0,1,2] Tryz.func192 rfl (by kernel_rfl) (by kernel_rfl) rfl ?_
 simp[Tryz.f192,mRow]
 omega
theorem copyStmt_ok (s:GStmt) (h:bdStmt s):VC Tryz.prog 128 [vStmt s] [(true,mStmt s)]:=by
 refine vc_of_ew good hm [0,1,2] Tryz.func128 rfl (by kernel_rfl) (by kernel_rfl) rfl ?_
 simp[Tryz.f128,mStmt]
 refine .of (copyVals_ok _ h.1) ?_
 simp[mValS]
 refine .of (copyVals_ok _ h.2.1) ?_
 simp[mValS]
 refine .of (copyDdl_ok s.fDdl h.2.2) ?_
 simp[mDdl]
theorem l07Stmt_ok (s:GStmt) (h:bdStmt s):VC Tryz.prog 166 [vStmt s] [(true,mStmt s)]:=by
 obtain ⟨h1,h2,h3,h4⟩:=h
 refine vc_of_ew good hm [0,1,2] Tryz.func166 rfl (by kernel_rfl) (by kernel_rfl) rfl ?_
 simp[Tryz.f166,mStmt]
 refine ⟨by omega,.of (l03Row_ok s.fRow h2) ?_⟩
 simp[mRow]
 omega
theorem stmtB {s:GStmt} (hs: ∀n∈wStmt s,n≤1048576):bdStmt s:=
 ⟨hs _ (by simp[wStmt,wValS]),hs _ (by simp[wStmt,wRow,wValS]),hs _ (by simp[wStmt,wDdl,wColS]),hs _ (by simp[wStmt,wDdl,wStrS])⟩
theorem recsB {l:List GRec} (hs: ∀n∈wRecS l,n≤1048576): ∀r∈l,bdStmt r.fStmt:=fun r hr=>stmtB fun n hn=>hs n (List.mem_cons_of_mem _ (List.mem_flatMap.2 ⟨r,hr,by simp[wRec,hn]⟩))
def bdRec (r:GRec):Prop:=bdStmt r.fStmt
def recTx (x:Int) (r:GRec):Bool:=decide (r.fKind=2)&&decide (r.fXid=x)
def stmtsOf (l:List GRec) (x:Int):List GStmt:=(l.filter (recTx x)).map (·.fStmt)
theorem stmtsOf_succ {l:List GRec} {x:Int} {i:Nat} (h:i<l.length):stmtsOf (l.take (i+1)) x=if recTx x (l[i]?.getD dRec)=true then stmtsOf (l.take i) x++ [(l[i]?.getD dRec).fStmt] else stmtsOf (l.take i) x:=by
 unfold stmtsOf
 rw[List.take_succ_eq_append_getElem h,List.filter_append,List.map_append,List.getElem?_eq_getElem h]
 simp only[Option.getD_some]
 split
 ·rename_i h1;simp[List.filter,h1]
 ·rename_i h1;simp[List.filter,h1]
theorem stmtsOf_len (l:List GRec) (x:Int):(stmtsOf l x).length≤l.length:=by
 unfold stmtsOf
 rw[List.length_map]
 exact List.length_filter_le _ _
theorem stmtsOfI_ok (l:List GRec) (x:Int) (hl:l.length≤1048576) (hb: ∀r∈l,bdRec r):VC Tryz.prog 162 [vRecS l,int .i64 x] [(false,mStmtS (stmtsOf l x))]:=by
 refine vc_of_ew good hm [0,1,4,5,9,10,11,12,7,23] Tryz.func162 rfl (by kernel_rfl) (by kernel_rfl) rfl ?_
 simp[Tryz.f162,mStmtS]
 refine ew_loop (fun E=> ∃i:Nat,i≤l.length∧E= {nt:=32,sl:= [(1,int .i64 x),(5,.v false [.r [8]]),(9,vRecS l),(10,int .i64 l.length),(11,int .i64 i)],bx:= [],rt:=(mStmtS (stmtsOf (l.take i) x)).map fun y=>(8,y)}) (fun E=>l.length- (E.num 11).toNat) _ (Gh.kb _ [1,5,9,10,11] [] [8]) ⟨0,by omega,by simp[mStmtS,stmtsOf]⟩ ?_
 rintro E1 ⟨i,hi,rfl⟩
 have hsl:=stmtsOf_len (l.take i) x
 rw[List.length_take] at hsl
 simp[mStmtS]
 refine ⟨fun h=>⟨h, ?_⟩,fun h=> ?_⟩
 ·have hr:recTx x (l[i]?.getD dRec)=(decide ((l[i]?.getD dRec).fKind=2)&&decide ((l[i]?.getD dRec).fXid=x)):=rfl
  have hs:=stmtsOf_succ (x:=x) h
  refine ⟨fun h1 h2=> .of (copyStmt_ok _ (hb _ (getD_mem dRec h))) ?_,fun h1=> ?_⟩
  ·simp[mStmt]
   refine ⟨by omega,.of _ ((Gh.kb _ [1,5,9,10,11] [] [29]).trans (Gh.rn _ 29 8)) ⟨i+1,by omega, ?_⟩ ?_⟩
   ·rw[hs,if_pos (by rw[hr];simp[h1,h2])]
    simp[wrapS (show i<9223372036854775807 by omega),mStmtS]
   ·simp[wrapS (show i<9223372036854775807 by omega)];omega
  ·refine .of _ (Gh.kb _ [1,5,9,10,11] [] [8]) ⟨i+1,by omega, ?_⟩ ?_
   ·rw[hs,if_neg (by rw[hr];simp;exact h1)]
    simp[wrapS (show i<9223372036854775807 by omega),mStmtS]
   ·simp[wrapS (show i<9223372036854775807 by omega)];omega
 ·have:i=l.length:=by omega
  subst this
  simp
theorem stmtsOfS_ok (l:List GRec) (x:Int) (hl:l.length≤1048576) (hb: ∀r∈l,bdRec r):VC Tryz.prog 142 [vRecS l,int .i64 x] [(false,mStmtS (stmtsOf l x))]:=by
 refine vc_of_ew good hm [0,1,4,5,9,10,11,12,7,23] Tryz.func142 rfl (by kernel_rfl) (by kernel_rfl) rfl ?_
 simp[Tryz.f142,mStmtS]
 refine ew_loop (fun E=> ∃i:Nat,i≤l.length∧E= {nt:=32,sl:= [(1,int .i64 x),(5,.v false [.r [8]]),(9,vRecS l),(10,int .i64 l.length),(11,int .i64 i)],bx:= [],rt:=(mStmtS (stmtsOf (l.take i) x)).map fun y=>(8,y)}) (fun E=>l.length- (E.num 11).toNat) _ (Gh.kb _ [1,5,9,10,11] [] [8]) ⟨0,by omega,by simp[mStmtS,stmtsOf]⟩ ?_
 rintro E1 ⟨i,hi,rfl⟩
 have hsl:=stmtsOf_len (l.take i) x
 rw[List.length_take] at hsl
 simp[mStmtS]
 refine ⟨fun h=>⟨h, ?_⟩,fun h=> ?_⟩
 ·have hr:recTx x (l[i]?.getD dRec)=(decide ((l[i]?.getD dRec).fKind=2)&&decide ((l[i]?.getD dRec).fXid=x)):=rfl
  have hs:=stmtsOf_succ (x:=x) h
  refine ⟨fun h1 h2=> .of (l07Stmt_ok _ (hb _ (getD_mem dRec h))) ?_,fun h1=> ?_⟩
  ·simp[mStmt]
   refine ⟨by omega,.of _ ((Gh.kb _ [1,5,9,10,11] [] [29]).trans (Gh.rn _ 29 8)) ⟨i+1,by omega, ?_⟩ ?_⟩
   ·rw[hs,if_pos (by rw[hr];simp[h1,h2])]
    simp[wrapS (show i<9223372036854775807 by omega),mStmtS]
   ·simp[wrapS (show i<9223372036854775807 by omega)];omega
  ·refine .of _ (Gh.kb _ [1,5,9,10,11] [] [8]) ⟨i+1,by omega, ?_⟩ ?_
   ·rw[hs,if_neg (by rw[hr];simp;exact h1)]
    simp[wrapS (show i<9223372036854775807 by omega),mStmtS]
   ·simp[wrapS (show i<9223372036854775807 by omega)];omega
 ·have:i=l.length:=by omega
  subst this
  simp
end Go.Proofs.YtanlbohhmoifcaaGreat
namespace Go.Proofs.YtanlbohhmoifcaaGreat
open Go Go.Proofs Go.Sm
attribute [local simp] ti eStr eInt eByte eVal vVal eCol vCol vColS vStrS eTable cTable vTable vTableS cCat vCat eValS vValS eRow cRow vRow vRowS eRows vRowsS cDb vDb eDdl cDdl vDdl eStmt cStmt vStmt eRec vRec eSlot vSlot eRecS vRecS eSlotS vSlotS vStmtS
set_option linter.unusedVariables false
set_option linter.unusedSimpArgs false
theorem em_size {s:ByteArray} (h:em s=true):s.size=0:=by
 unfold em at h
 rw[List.isEmpty_iff,Lib.toList_data] at h
 have:=congrArg List.length h
 simpa using this
theorem wordOk_size {s:ByteArray} (h:wordOk s=true):s.size≤8:=by
 simp only[wordOk,within,Bool.and_eq_true,decide_eq_true_eq] at h
 omega
theorem valOk_ok {v:GVal} (h:valOk v=true):okVal v∧v.fS.size≤30:=by
 simp only[valOk,within,Bool.and_eq_true,Bool.or_eq_true,decide_eq_true_eq] at h
 have hs:v.fS.size≤30:=by
  rcases h with ((⟨_,_,h⟩|⟨_,_,h⟩)|⟨_,_,h⟩)|⟨_,_,h⟩
  ·have:=em_size h;omega
  ·have:=em_size h;omega
  ·have:=em_size h;omega
  ·omega
 refine ⟨⟨?_, ?_, ?_,trivial⟩,hs⟩
 ·unfold okI;omega
 ·unfold okI;omega
 ·unfold okM;omega
theorem nullV_ok {v:GVal} (h:nullV v=true):valOk v=true:=by
 simp only[nullV,Bool.and_eq_true,decide_eq_true_eq] at h
 simp[valOk,h.1,h.2.1,h.2.2]
theorem colOk_ok {c:GCol} (h:colOk c=true):okCol c:=by
 simp only[colOk,within,Bool.and_eq_true,decide_eq_true_eq] at h
 obtain ⟨⟨h1,h2⟩,h3⟩:=h
 have hw:=wordOk_size h1
 have hv:valOk c.fDef=true:=by
  split at h3
  ·simp only[Bool.and_eq_true] at h3
   exact h3.1
  ·exact nullV_ok h3
 exact ⟨by unfold okM;omega,by unfold okI;omega,(valOk_ok hv).1,trivial⟩
theorem tableOk_ok {t:GTable} (h:tableOk t=true):okTable t∧bdTable t:=by
 have h0:=(tableOk_iff t).1 h
 obtain ⟨h1,h2,h3,h4,h5,h6,h7,h8⟩:=h0
 have hkl:=h7.length_le
 simp only[cnm,List.length_map] at hkl
 have hw:=wordOk_size h1
 refine ⟨⟨by unfold okM;omega,⟨by unfold okM;omega,fun c hc=>colOk_ok (h5 c hc)⟩,⟨by unfold okM;omega,fun k hk=> ?_⟩,trivial⟩,by omega,by omega⟩
 obtain ⟨c,hc,rfl⟩:=List.mem_map.1 (h7.subset hk)
 exact (colOk_ok (h5 c hc)).1
theorem rowFit_ok {t:GTable} {r:GRow} (ht:tableOk t=true) (h:rowFit t r=true):okRow r∧r.fVals.length≤8:=by
 have h1:=((rowFit_iff t r).1 h).1
 have h2:=((tableOk_iff t).1 ht).2.2.1
 exact ⟨⟨⟨by unfold okM;omega,fun v hv=>(valOk_ok (rowFit_vals h v hv)).1⟩,trivial⟩,by omega⟩
theorem rowsOk_ok {t:GTable} {l:List GRow} (h:rowsOk t l=true):okRowS l∧l.length≤60∧ ∀r∈l,r.fVals.length≤8:=by
 rw[rowsOk_iff] at h
 obtain ⟨h1,h2,h3,_⟩:=h
 exact ⟨⟨by unfold okM;omega,fun r hr=>(rowFit_ok h1 (h3 r hr)).1⟩,h2,fun r hr=>(rowFit_ok h1 (h3 r hr)).2⟩
theorem catOk_ok {c:GCat} (h:catOk c=true):okCat c∧c.fTables.length≤6∧ ∀t∈c.fTables,tableOk t=true∧bdTable t:=by
 rw[catOk_iff] at h
 exact ⟨⟨⟨by unfold okM;omega,fun t ht=>(tableOk_ok (h.1 t ht)).1⟩,trivial⟩,h.2.1,fun t ht=>⟨h.1 t ht,(tableOk_ok (h.1 t ht)).2⟩⟩
theorem dbOk_rows {d:GDb} (h:dbOk d=true): ∀r∈d.fData,∃t∈d.fCat.fTables,rowsOk t r.fRows=true:=by
 rw[dbOk_iff] at h
 intro r hr
 obtain ⟨i,hi,rfl⟩:=List.getElem_of_mem hr
 have:=h.2.2 i (by omega)
 rw[List.getElem?_eq_getElem hi] at this
 exact ⟨_,getD_mem dTable (by omega),this⟩
theorem dbOk_cat {d:GDb} (h:dbOk d=true):catOk d.fCat=true:=((dbOk_iff d).1 h).1
theorem dbOk_len {d:GDb} (h:dbOk d=true):d.fData.length=d.fCat.fTables.length:=((dbOk_iff d).1 h).2.1
theorem dbOk_ok {d:GDb} (h:dbOk d=true):okDb d:=by
 have h1:=(catOk_ok (dbOk_cat h))
 have h2:=dbOk_len h
 refine ⟨h1.1,⟨by unfold okM;omega,fun r hr=> ?_⟩,trivial⟩
 obtain ⟨t,_,h3⟩:=dbOk_rows h r hr
 exact ⟨(rowsOk_ok h3).1,trivial⟩
theorem dbOk_key {d:GDb} (h:dbOk d=true): ∀t∈d.fCat.fTables,t.fKeys.length≤1048576:=fun t ht=>((catOk_ok (dbOk_cat h)).2.2 t ht).2.2
theorem ddlOk_ok {d:GDdl} (h:ddlOk d=true):okDdl d∧d.fCols.length≤8∧d.fKeys.length≤8:=by
 have hw:=wordOk_size (ddlOk_wd h)
 have hk:=ddlOk_kind h
 have h0:=h
 simp only[ddlOk,addOk,plain,Bool.and_eq_true,Bool.or_eq_true,decide_eq_true_eq,List.isEmpty_iff] at h0
 have hnm:d.fName.size≤8:=by
  rcases h0.2 with (((⟨_,_,a,_⟩|⟨_,_,a,_⟩)|⟨_,_,_,a,_⟩)|⟨_,_,a,_⟩)|⟨_,_,a,_⟩
  ·have:=em_size a;omega
  ·have:=em_size a;omega
  ·have:=em_size a;omega
  ·exact wordOk_size a
  ·exact wordOk_size a
 have hto:d.fTo.size≤8:=by
  rcases h0.2 with (((⟨_,_,_,a⟩|⟨_,_,_,a⟩)|⟨_,_,_,_,a⟩)|⟨_,_,_,a⟩)|⟨_,_,_,a⟩
  ·have:=em_size a;omega
  ·have:=em_size a;omega
  ·have:=em_size a;omega
  ·have:=em_size a;omega
  ·exact wordOk_size a
 have hck:okColS d.fCols∧okStrS d.fKeys∧d.fCols.length≤8∧d.fKeys.length≤8:=by
  by_cases k1:d.fKind=1
  ·have h1:=ddlOk_1 h k1
   have h2:=(tableOk_ok h1).1
   have h3:=(tableOk_iff _).1 h1
   have h4:=h3.2.2.2.2.2.2.1.length_le
   simp only[cnm,List.length_map] at h4
   exact ⟨h2.2.1,h2.2.2.1,h3.2.2.1,Nat.le_trans h4 h3.2.2.1⟩
  ·by_cases k3:d.fKind=3
   ·obtain ⟨h1,h2,_⟩:=ddlOk_3 h k3
    have h3:d.fKeys= []:=by grind
    rw[h3]
    refine ⟨⟨by unfold okM;omega,fun c hc=> ?_⟩,⟨by simp[okM],by simp⟩,by omega,by simp⟩
    obtain ⟨i,hi,rfl⟩:=List.getElem_of_mem hc
    have:i=0:=by omega
    subst this
    have:=colOk_ok h2
    unfold col0 at this
    rwa [List.getElem?_eq_getElem hi] at this
   ·have h3:d.fCols= []∧d.fKeys= []:=by grind
    rw[h3.1,h3.2]
    exact ⟨⟨by simp[okM],by simp⟩,⟨by simp[okM],by simp⟩,by simp,by simp⟩
 exact ⟨⟨by unfold okI;omega,by unfold okM;omega,hck.1,hck.2.1,by unfold okM;omega,by unfold okM;omega,trivial⟩,hck.2.2.1,hck.2.2.2⟩
theorem noDdl_ok {d:GDdl} (h:noDdl d=true):okDdl d∧d.fCols.length≤8∧d.fKeys.length≤8:=by
 simp only[noDdl,Bool.and_eq_true,decide_eq_true_eq,List.isEmpty_iff] at h
 obtain ⟨h1,h2,h3,h4,h5,h6⟩:=h
 rw[h3,h4]
 exact ⟨⟨by unfold okI;omega,by have:=em_size h2;unfold okM;omega,⟨by simp[h3,okM],by simp[h3]⟩,⟨by simp[h4,okM],by simp[h4]⟩,by have:=em_size h5;unfold okM;omega,by have:=em_size h6;unfold okM;omega,trivial⟩,by simp,by simp⟩
theorem valsOk_ok {l:List GVal} (h:valsOk l=true):okValS l∧l.length≤8:=by
 simp only[valsOk,within,Bool.and_eq_true,decide_eq_true_eq,Bool.not_eq_true',List.any_eq_false] at h
 refine ⟨⟨by unfold okM;omega,fun v hv=>(valOk_ok (by simpa using h.2 v hv)).1⟩,by omega⟩
theorem nilVals_ok {l:List GVal} (h:l= []):okValS l∧l.length≤8:=by
 subst h
 exact ⟨⟨by simp[okM],by simp⟩,by simp⟩
theorem stmtOk_ok {s:GStmt} (h:stmtOk s=true):okStmt s∧s.fTable.size≤8∧s.fKey.length≤8∧s.fRow.fVals.length≤8∧s.fDdl.fCols.length≤8∧s.fDdl.fKeys.length≤8:=by
 simp only[stmtOk,Bool.and_eq_true,Bool.or_eq_true,decide_eq_true_eq,List.isEmpty_iff] at h
 obtain ⟨h0,h⟩:=h
 have hw:=wordOk_size h0
 have hk:okI s.fKind:=by unfold okI;omega
 have fin:(okValS s.fKey∧s.fKey.length≤8)→(okValS s.fRow.fVals∧s.fRow.fVals.length≤8)→(okDdl s.fDdl∧s.fDdl.fCols.length≤8∧s.fDdl.fKeys.length≤8)→okStmt s∧s.fTable.size≤8∧s.fKey.length≤8∧s.fRow.fVals.length≤8∧s.fDdl.fCols.length≤8∧s.fDdl.fKeys.length≤8:=fun a b c=>
  ⟨⟨hk,by unfold okM;omega,a.1,⟨b.1,trivial⟩,c.1,trivial⟩,hw,a.2,b.2,c.2.1,c.2.2⟩
 rcases h with (((⟨k,⟨a,b⟩,c⟩|⟨k,⟨a,b⟩,c⟩)|⟨k,⟨a,b⟩,c⟩)|⟨k,⟨a,b⟩,c⟩)|⟨k,⟨⟨a,b⟩,c⟩,e⟩
 ·exact fin (nilVals_ok a) (valsOk_ok b) (noDdl_ok c)
 ·exact fin (valsOk_ok a) (valsOk_ok b) (noDdl_ok c)
 ·exact fin (valsOk_ok a) (nilVals_ok b) (noDdl_ok c)
 ·exact fin (nilVals_ok a) (nilVals_ok b) (noDdl_ok c)
 ·exact fin (nilVals_ok a) (nilVals_ok b) (ddlOk_ok c)
end Go.Proofs.YtanlbohhmoifcaaGreat
namespace Go.Proofs.YtanlbohhmoifcaaGreat
open Go Go.Proofs Go.Sm Go.RowKit Go.Lib
set_option linter.unusedVariables false
set_option linter.unusedSimpArgs false
set_option maxRecDepth 100000 in
theorem insA_Rows (b n c vb vc:Nat) (vs:List Value) (w:World) (hroom:n+1≤c) (hc63:c≤9223372036854775807)
  (hvl:vs.length=1) (hsp: ∀j,j<1→(w.cell? ⟨b,n+j,none⟩).isSome=true) (hfz: ∀j,j<1→w.frozen? ⟨b,n+j,none⟩=false)
  (hvs: ∀j v,vs[j]? =some v→w.cell? ⟨vb,j,none⟩=some v) (h1v: ∀v∈vs,v.oneCell'=true):
  Calls Tryz.prog 247 #[.slice (some ⟨b,0,none⟩) n c,.int .i64 n,.slice (some ⟨vb,0,none⟩) 1 vc] w fun e w'=>
   e= .returned (.slice (some ⟨b,0,none⟩) (n+1) c)∧w'=w.setCells b (n) vs:=by
 have tS:Tryz.prog.underlying 71=some (.slice 179):=by kernel_rfl
 have t3:Tryz.prog.underlying 3=some (.int .i64):=by kernel_rfl
 have t4:Tryz.prog.underlying 4=some .bool:=by kernel_rfl
 have uS:=run_underlying tS;have u3:=run_underlying t3;have u4:=run_underlying t4
 have hsrc:Src Tryz.prog 1 71 (.slice (some ⟨vb,0,none⟩) 1 vc) 1 vs w:=Src.ofSlice w tS ⟨vb,0,none⟩ 1 vc vs (by omega) (fun j u hj=>by rw[Addr.add_lit,Nat.zero_add];exact hvs j u hj) h1v
 obtain ⟨i0,hi0,hz0,hzs,hzb⟩:=info_parts (show (Tryz.prog.info? 179).map (fun i=>(i.zero,i.size,i.bytes))=some (some (.agg #[.slice none 0 0]:Value),1,24) by kernel_rfl)
 have zE: ∀w,(Go.sizeOf 179).run Tryz.prog w= .ok 1 w:=fun w=>by simp[Go.sizeOf,typeInfo,hi0,hzs]
 have hrun: ∀ty,(Builtin.append_ #[71,71] ty #[.slice (some ⟨b,0,none⟩) n c,.slice (some ⟨vb,0,none⟩) 1 vc]).run Tryz.prog w=_:=fun ty=>
  run_append_room_src w 71 71 ty 179 i0 tS hi0 b 0 n c _ 1 vs (by rw[hzs];exact hsrc) hroom (by simp only[hvl,hzs,Nat.zero_add,Nat.mul_one];exact hsp) (by simp only[hvl,hzs,Nat.zero_add,Nat.mul_one];exact hfz)
 rw[hzs,Nat.zero_add] at hrun
 try rw[Nat.mul_one] at hrun
 go_enter Tryz.func247,Tryz.ntmps247
 go_wp2_with (at_builtin;refine Lib.wpList_append_run _ rfl _ _ _ _ rfl _ _ rfl rfl _ _ (hrun _) ?_)
 go_ret
 exact ⟨rfl,rfl⟩
set_option maxRecDepth 100000 in
theorem insB_Rows (base:Option Addr) (n c vb vc:Nat) (cs vs:List Value) (w:World) (hnc:n≤c) (hroom:c<n+1) (hbig:(n+1)*24≤140737488355328)
  (hcl:cs.length=n) (hvl:vs.length=1) (hnil:base=none→n=0)
  (hcs: ∀a,base=some a→ ∀j v,cs[j]? =some v→w.cell? (a.add j)=some v)
  (hvs: ∀j v,vs[j]? =some v→w.cell? ⟨vb,j,none⟩=some v) (h1v: ∀v∈vs,v.oneCell'=true):
  Calls Tryz.prog 247 #[.slice base n c,.int .i64 n,.slice (some ⟨vb,0,none⟩) 1 vc] w fun e w'=>
   e= .returned (.slice (some ⟨w.heap.size,0,none⟩) (n+1) (grownCap w (n+1) c 179))∧
   w'=w.drew.alloc (.cells ((cs++vs).toArray++Builtin.zeroCells (.agg #[.slice none 0 0]:Value).cells (grownCap w (n+1) c 179- (n+1))) 179):=by
 have tS:Tryz.prog.underlying 71=some (.slice 179):=by kernel_rfl
 have t3:Tryz.prog.underlying 3=some (.int .i64):=by kernel_rfl
 have t4:Tryz.prog.underlying 4=some .bool:=by kernel_rfl
 have uS:=run_underlying tS;have u3:=run_underlying t3;have u4:=run_underlying t4
 obtain ⟨i0,hi0,hz0,hzs,hzb⟩:=info_parts (show (Tryz.prog.info? 179).map (fun i=>(i.zero,i.size,i.bytes))=some (some (.agg #[.slice none 0 0]:Value),1,24) by kernel_rfl)
 have zE: ∀w,(Go.sizeOf 179).run Tryz.prog w= .ok 1 w:=fun w=>by simp[Go.sizeOf,typeInfo,hi0,hzs]
 have hsrc:Src Tryz.prog i0.size 71 (.slice (some ⟨vb,0,none⟩) 1 vc) 1 vs w:=by
  rw[hzs]
  exact Src.ofSlice w tS ⟨vb,0,none⟩ 1 vc vs (by omega) (fun j u hj=>by rw[Addr.add_lit,Nat.zero_add];exact hvs j u hj) h1v
 have hold:(Builtin.firstCells i0.size n (.slice base n c)).run Tryz.prog w.drew= .ok cs.toArray w.drew:=by
  rw[hzs]
  cases base with
  |none=>
   have h0:=hnil rfl
   subst h0
   try rw[Nat.zero_mul] at hcl
   rw[List.length_eq_zero_iff.1 hcl]
   exact run_firstCells_none w.drew 1 0 0 c
  |some a=>exact run_firstCells_some w.drew 1 n a n c cs (by omega) (fun j v hj=>hcs a rfl j v hj)
 have hrun: ∀ty,(Builtin.append_ #[71,71] ty #[.slice base n c,.slice (some ⟨vb,0,none⟩) 1 vc]).run Tryz.prog w=_:=fun ty=>
  run_append_grow_src w 71 71 ty 179 i0 _ tS hi0 hz0 base n c cs hold _ 1 vs hsrc hroom (by omega) (by rw[hzb];exact growslice_fits hroom hbig)
 clear hi0 hz0 hzs hzb
 go_enter Tryz.func247,Tryz.ntmps247
 cases base with
 |none=>
  have h0:=hnil rfl
  subst h0
  go_wp2_with (at_builtin;refine Lib.wpList_append_run _ rfl _ _ _ _ rfl _ _ rfl rfl _ _ (hrun _) ?_)
  go_ret
  exact ⟨rfl,rfl⟩
 |some a=>
  obtain ⟨ab,ao,asp⟩:=a
  go_wp2_with (at_builtin;refine Lib.wpList_append_run _ rfl _ _ _ _ rfl _ _ rfl rfl _ _ (hrun _) ?_)
  all_goals (go_ret;exact ⟨rfl,rfl⟩)
set_option maxRecDepth 100000 in
theorem insC_Rows (b n c i vb vc:Nat) (cs vs:List Value) (w:World) (hi:i<n) (hroom:n+1≤c) (hc63:c≤9223372036854775807) (hvb:vb≠b)
  (hcl:cs.length=n) (hvl:vs.length=1)
  (hcs: ∀j v,cs[j]? =some v→w.cell? ⟨b,j,none⟩=some v) (hsp: ∀j,j< (n+1)→(w.cell? ⟨b,j,none⟩).isSome=true) (hfz: ∀j,j< (n+1)→w.frozen? ⟨b,j,none⟩=false)
  (hvs: ∀j v,vs[j]? =some v→w.cell? ⟨vb,j,none⟩=some v) (h1c: ∀v∈cs,v.oneCell'=true) (h1v: ∀v∈vs,v.oneCell'=true)
  (tA tB:TypeId) (kA kB:Nat) (hsa:w.shape? vb=some (tA,kA)) (hsb:w.shape? b=some (tB,kB)) (hkB:kB≠0) (hfa:w.frozen? ⟨vb,0,none⟩=false) (hfe:w.frozen? ⟨vb,kA,none⟩=false):
  Calls Tryz.prog 247 #[.slice (some ⟨b,0,none⟩) n c,.int .i64 i,.slice (some ⟨vb,0,none⟩) 1 vc] w fun e w'=>
   e= .returned (.slice (some ⟨b,0,none⟩) (n+1) c)∧w'=(w.drew.setCells b ((i+1)) (cs.drop (i))).setCells b (i) vs:=by
 have tS:Tryz.prog.underlying 71=some (.slice 179):=by kernel_rfl
 have t3:Tryz.prog.underlying 3=some (.int .i64):=by kernel_rfl
 have t4:Tryz.prog.underlying 4=some .bool:=by kernel_rfl
 have uS:=run_underlying tS;have u3:=run_underlying t3;have u4:=run_underlying t4
 obtain ⟨i0,hi0,hz0,hzs,hzb⟩:=info_parts (show (Tryz.prog.info? 179).map (fun i=>(i.zero,i.size,i.bytes))=some (some (.agg #[.slice none 0 0]:Value),1,24) by kernel_rfl)
 have zE: ∀w,(Go.sizeOf 179).run Tryz.prog w= .ok 1 w:=fun w=>by simp[Go.sizeOf,typeInfo,hi0,hzs]
 have hsz:(Tryz.prog.info? 179).map (·.size)=some 1:=by rw[hi0];simp[hzs]
 have hz2: ¬((i:Int)=(n:Int)):=by omega
 have hov: ∀lb cb,(callFunc 272 #[.slice (some ⟨vb,0,none⟩) 1 vc,.slice (some ⟨b,(i+1),none⟩) lb cb]).run Tryz.prog w= .ok (.value (.bool false)) w:=fun lb cb=>by
  rw[run_callFunc_extern Tryz.func272 (by kernel_rfl) (by kernel_rfl) (by kernel_rfl) (e:=Extern.SlicesOverlaps.overlaps #[71,71] #[4]) (by kernel_rfl),
   Lib.run_overlaps_apart w 71 4 179 tS 1 zE ⟨vb,0,none⟩ ⟨b,(i+1),none⟩ 1 vc lb cb hvb tA tB kA kB hsa hsb hkB hfa hfe]
  rfl
 have hdl:(cs.drop (i)).length=(n-i):=by rw[List.length_drop,hcl];try rw[Nat.sub_mul]
 have mixed:=hm
 have hw1:IntKind.i64.wrap ((i:Int)+1)=(i:Int)+1:=by rw[IntKind.wrap_i64];omega
 have hb1:(0:Int)≤(i:Int)+1:=by omega
 have hin:i≤n:=by omega
 have htn:((i:Int)+1).toNat=i+1:=by omega
 have hb2: ¬(c=i+1):=by omega
 have hb3:(i:Int)≤(n:Int)+1:=by omega
 have hb4: ¬(c=i):=by omega
 have hcp1: ∀ty dc sc,(Builtin.copy_ #[71,71] ty #[.slice (some ⟨b,(i+1),none⟩) (n-i) dc,.slice (some ⟨b,i,none⟩) (n+1-i) sc]).run Tryz.prog w.drew= .ok (goInt ((n-i:Nat):Int)) (w.drew.setCells b ((i+1)) (cs.drop (i))):=fun ty dc sc=>
  run_copy_rows w.drew _ _ ty 179 1 b ((i+1)) (n-i) dc ⟨b,i,none⟩ (n+1-i) sc (n-i) (cs.drop (i)) tS hsz (by simp only[Nat.min_def];split<;>omega) (by omega)
   (fun j v hj=>by rw[Addr.add_lit];exact hcs (i+j) v (by rwa [List.getElem?_drop] at hj))
   (fun j hj=>hsp _ (by omega)) (fun j hj=>hfz _ (by omega)) (fun v hv=>h1c v (List.mem_of_mem_drop hv))
 obtain ⟨W1,hW1⟩: ∃W1,W1=w.drew.setCells b ((i+1)) (cs.drop (i)):=⟨_,rfl⟩
 have hsp1: ∀k,k< (n+1)→(W1.cell? ⟨b,k,none⟩).isSome=true:=fun k hk=>by
  rw[hW1]
  exact isSome_setCells b (cs.drop (i)) ((i+1)) w.drew (fun j hj=>hsp _ (by rw[hdl] at hj;omega)) k (hsp k hk)
 have hcp2: ∀ (W:World),(∀x,W.cell? x=W1.cell? x)→(∀x,W.frozen? x=W1.frozen? x)→ ∀ty dc,(Builtin.copy_ #[71,71] ty #[.slice (some ⟨b,i,none⟩) (n+1-i) dc,.slice (some ⟨vb,0,none⟩) 1 vc]).run Tryz.prog W= .ok (goInt 1) (W.setCells b (i) vs):=fun W hWc hWf ty dc=>
  run_copy_rows W _ _ ty 179 1 b (i) (n+1-i) dc ⟨vb,0,none⟩ 1 vc 1 vs tS hsz (by simp only[Nat.min_def];split<;>omega) (by rw[hvl])
   (fun j v hj=>by
    rw[Addr.add_lit,Nat.zero_add,hWc,hW1,World.cell?_setCells_out b _ _ _ _ (fun h _=>absurd h hvb)]
    exact hvs j v hj)
   (fun j hj=>by rw[hWc];exact hsp1 _ (by omega)) (fun j hj=>by rw[hWf,hW1,World.frozen?_setCells];exact hfz _ (by omega)) h1v
 rw[←hW1] at hcp1
 clear hi0 hz0 hzs hzb
 go_enter Tryz.func247,Tryz.ntmps247
 go_wp2_with (simp only[hov])
 go_region_law_o (refine step_copy_runI rfl _ _ 71 71 rfl _ _ (by simp[Act.eval,Act.put]) (by simp[Act.eval,Act.put]) (hcp1 _ _ _) ?_)
 go_wp2_with (at_builtin;refine wpList_copy_runI _ rfl _ _ 71 71 rfl _ _ rfl rfl (hcp2 _ (fun _=>rfl) (fun _=>rfl) _ _) ?_)
 go_ret
 first|exact ⟨rfl,rfl⟩|exact ⟨rfl,by rw[hW1]⟩
set_option maxRecDepth 100000 in
theorem insD_Rows (b n c i vb vc:Nat) (cs vs:List Value) (w:World) (hi:i<n) (hnc:n≤c) (hroom:c<n+1) (hbig:(n+1)*24≤140737488355328)
  (hcl:cs.length=n) (hvl:vs.length=1)
  (hcs: ∀j v,cs[j]? =some v→w.cell? ⟨b,j,none⟩=some v)
  (hvs: ∀j v,vs[j]? =some v→w.cell? ⟨vb,j,none⟩=some v) (h1c: ∀v∈cs,v.oneCell'=true) (h1v: ∀v∈vs,v.oneCell'=true):
  Calls Tryz.prog 247 #[.slice (some ⟨b,0,none⟩) n c,.int .i64 i,.slice (some ⟨vb,0,none⟩) 1 vc] w fun e w'=>
   e= .returned (.slice (some ⟨w.heap.size,0,none⟩) (n+1) (grownCap w (n+1) c 179))∧
   w'=(((w.alloc (.cells ((cs.take (i)).toArray++Builtin.zeroCells (.agg #[.slice none 0 0]:Value).cells (n+1-i)++Builtin.zeroCells (.agg #[.slice none 0 0]:Value).cells (grownCap w (n+1) c 179- (n+1))) 179)).drew.setCells w.heap.size (i) vs).drew).setCells w.heap.size ((i+1)) (cs.drop (i)):=by
 have tS:Tryz.prog.underlying 71=some (.slice 179):=by kernel_rfl
 have t3:Tryz.prog.underlying 3=some (.int .i64):=by kernel_rfl
 have t4:Tryz.prog.underlying 4=some .bool:=by kernel_rfl
 have uS:=run_underlying tS;have u3:=run_underlying t3;have u4:=run_underlying t4
 obtain ⟨i0,hi0,hz0,hzs,hzb⟩:=info_parts (show (Tryz.prog.info? 179).map (fun i=>(i.zero,i.size,i.bytes))=some (some (.agg #[.slice none 0 0]:Value),1,24) by kernel_rfl)
 have zE: ∀w,(Go.sizeOf 179).run Tryz.prog w= .ok 1 w:=fun w=>by simp[Go.sizeOf,typeInfo,hi0,hzs]
 have hsz:(Tryz.prog.info? 179).map (·.size)=some 1:=by rw[hi0];simp[hzs]
 have mixed:=hm
 have hz2: ¬((i:Int)=(n:Int)):=by omega
 have hz3:(c:Int)< (n:Int)+1:=by omega
 have hbw:b<w.heap.size:=block_lt_of_cell (hcs 0 _ (List.getElem?_eq_getElem (by omega)))
 have hvw:vb<w.heap.size:=block_lt_of_cell (hvs 0 _ (List.getElem?_eq_getElem (by omega)))
 have hkk:(n:Int)+1- (i:Int)=((n+1-i:Nat):Int):=by omega
 have hik:i+(n+1-i)=n+1:=by omega
 have hold:(Builtin.firstCells i0.size i (.slice (some ⟨b,0,none⟩) i c)).run Tryz.prog w.drew= .ok (cs.take (i)).toArray w.drew:=by
  rw[hzs]
  exact run_firstCells_some w.drew 1 i ⟨b,0,none⟩ i c (cs.take (i)) (by rw[List.length_take];omega) (fun j v hj=>by
   rw[Addr.add_lit,Nat.zero_add]
   rw[List.getElem?_take] at hj
   split at hj
   ·exact hcs j v hj
   ·cases hj)
 have hrz: ∀ty,(Builtin.append_ #[71,3] ty #[.slice (some ⟨b,0,none⟩) i c,.int .i64 ((n:Int)+1- (i:Int))]).run Tryz.prog w=
   .ok (.slice (some ⟨w.heap.size,0,none⟩) (n+1) (grownCap w (n+1) c 179)) (w.drew.alloc (.cells ((cs.take (i)).toArray++Builtin.zeroCells (.agg #[.slice none 0 0]:Value).cells (n+1-i)++Builtin.zeroCells (.agg #[.slice none 0 0]:Value).cells (grownCap w (n+1) c 179- (n+1))) 179)):=fun ty=>by
  have h:=Lib.run_append_grow_zeros w 71 3 ty 179 i0 _ .i64 .i64 tS t3 hi0 hz0 (some ⟨b,0,none⟩) i c (cs.take (i)) hold (n+1-i) (by omega) (by omega) (by omega) (by omega) (by rw[hzb];omega) (by rw[hzb,hik];exact growslice_fits hroom hbig)
  rw[hik] at h
  rw[hkk]
  exact h
 obtain ⟨G,hG⟩: ∃G,G=grownCap w (n+1) c 179:=⟨_,rfl⟩
 obtain ⟨ROW,hROW⟩: ∃ROW:Array Value,ROW=(cs.take (i)).toArray++Builtin.zeroCells (.agg #[.slice none 0 0]:Value).cells (n+1-i)++Builtin.zeroCells (.agg #[.slice none 0 0]:Value).cells (G- (n+1)):=⟨_,rfl⟩
 rw[←hG] at hrz⊢
 rw[←hROW] at hrz⊢
 have hRl:(n+1)≤ROW.size:=by
  rw[hROW]
  simp only[Array.size_append,List.size_toArray,List.length_take,hcl,size_zeroCells,(show (.agg #[.slice none 0 0]:Value).cells.size=1 by kernel_rfl)]
  omega
 obtain ⟨W1,hW1⟩: ∃W1,W1=w.drew.alloc (.cells ROW 179):=⟨_,rfl⟩
 rw[←hW1] at hrz
 have hN: ∀j,j< (n+1)→(W1.cell? ⟨w.heap.size,j,none⟩).isSome=true:=fun j hj=>by
  rw[hW1,World.cell?_alloc_at (w:=w.drew) ROW _ w.heap.size j rfl,Array.getElem?_eq_getElem (by omega)];rfl
 have hNf: ∀j,W1.frozen? ⟨w.heap.size,j,none⟩=false:=fun j=>by rw[hW1];exact World.frozen?_alloc_at (w:=w.drew) ROW _ w.heap.size j rfl
 have hOb: ∀j v,w.cell? ⟨b,j,none⟩=some v→W1.cell? ⟨b,j,none⟩=some v:=fun j v h=>by rw[hW1,World.cell?_alloc_past (w:=w.drew) _ b j hbw];exact h
 have hOv: ∀j v,w.cell? ⟨vb,j,none⟩=some v→W1.cell? ⟨vb,j,none⟩=some v:=fun j v h=>by rw[hW1,World.cell?_alloc_past (w:=w.drew) _ vb j hvw];exact h
 have hcpA: ∀ (W:World),(∀x,W.cell? x=W1.cell? x)→(∀x,W.frozen? x=W1.frozen? x)→ ∀ty dc,(Builtin.copy_ #[71,71] ty #[.slice (some ⟨w.heap.size,i,none⟩) (n+1-i) dc,.slice (some ⟨vb,0,none⟩) 1 vc]).run Tryz.prog W= .ok (goInt 1) (W.setCells w.heap.size (i) vs):=fun W hWc hWf ty dc=>
  run_copy_rows W _ _ ty 179 1 w.heap.size (i) (n+1-i) dc ⟨vb,0,none⟩ 1 vc 1 vs tS hsz (by simp only[Nat.min_def];split<;>omega) (by rw[hvl])
   (fun j v hj=>by rw[Addr.add_lit,Nat.zero_add,hWc];exact hOv _ v (hvs j v hj))
   (fun j hj=>by rw[hWc];exact hN _ (by omega)) (fun j hj=>by rw[hWf];exact hNf _) h1v
 have hGn:n+1≤G:=by rw[hG];exact grownCap_ge w _ _ _
 have hG63:G≤9223372036854775807:=by
  have:=grownCap_le_maxLen w (n+1) c 179 (by unfold maxLen;omega)
  rw[←hG] at this
  unfold maxLen at this
  omega
 have hGi: ¬(G=i):=by omega
 have hGim: ¬(G=i+1):=by omega
 have hci: ¬(c=i):=by omega
 have hbN:b≠w.heap.size:=by omega
 have hdl:(cs.drop (i)).length=(n-i):=by rw[List.length_drop,hcl];try rw[Nat.sub_mul]
 have hcpB: ∀ (W:World),(∀x,W.cell? x=(W1.setCells w.heap.size (i) vs).cell? x)→(∀x,W.frozen? x=(W1.setCells w.heap.size (i) vs).frozen? x)→ ∀ty dc sc,(Builtin.copy_ #[71,71] ty #[.slice (some ⟨w.heap.size,(i+1),none⟩) (n-i) dc,.slice (some ⟨b,i,none⟩) (n-i) sc]).run Tryz.prog W= .ok (goInt ((n-i:Nat):Int)) (W.setCells w.heap.size ((i+1)) (cs.drop (i))):=fun W hWc hWf ty dc sc=>
  run_copy_rows W _ _ ty 179 1 w.heap.size ((i+1)) (n-i) dc ⟨b,i,none⟩ (n-i) sc (n-i) (cs.drop (i)) tS hsz (by simp only[Nat.min_def];split<;>omega) (by omega)
   (fun j v hj=>by
    rw[Addr.add_lit,hWc,World.cell?_setCells_out _ _ _ _ _ (fun h _=>absurd h hbN)]
    exact hOb _ v (hcs (i+j) v (by rwa [List.getElem?_drop] at hj)))
   (fun j hj=>by rw[hWc];exact isSome_setCells w.heap.size vs (i) W1 (fun t ht=>hN _ (by omega)) _ (hN _ (by omega)))
   (fun j hj=>by rw[hWf,World.frozen?_setCells];exact hNf _) (fun v hv=>h1c v (List.mem_of_mem_drop hv))
 subst hW1
 have hE1: ∀x,((w.alloc (.cells ROW 179)).drew).cell? x=(w.drew.alloc (.cells ROW 179)).cell? x:=fun x=>rfl
 have hE2: ∀x,((w.alloc (.cells ROW 179)).drew).frozen? x=(w.drew.alloc (.cells ROW 179)).frozen? x:=fun x=>rfl
 have hF1: ∀x,(((w.alloc (.cells ROW 179)).drew.setCells w.heap.size (i) vs).drew).cell? x=((w.drew.alloc (.cells ROW 179)).setCells w.heap.size (i) vs).cell? x:=fun x=>rfl
 have hF2: ∀x,(((w.alloc (.cells ROW 179)).drew.setCells w.heap.size (i) vs).drew).frozen? x=((w.drew.alloc (.cells ROW 179)).setCells w.heap.size (i) vs).frozen? x:=fun x=>rfl
 have hw1:IntKind.i64.wrap ((i:Int)+1)=(i:Int)+1:=by rw[IntKind.wrap_i64];omega
 have hb1:(0:Int)≤(i:Int)+1:=by omega
 have hin:i≤n:=by omega
 have htn:((i:Int)+1).toNat=i+1:=by omega
 have hb3:(i:Int)≤(n:Int):=by omega
 clear hkk hik hold hROW hG hRl hi0 hz0 hzs hzb
 go_enter Tryz.func247,Tryz.ntmps247
 go_wp2_with (first
  |(at_builtin;refine Lib.wpList_append_run _ rfl _ _ _ _ rfl _ _ rfl rfl _ _ (hrz _) ?_)
  |(at_builtin;refine wpList_copy_runI _ rfl _ _ 71 71 rfl _ _ rfl rfl (hcpA _ hE1 hE2 _ _) ?_)
  |(at_builtin;refine wpList_copy_runI _ rfl _ _ 71 71 rfl _ _ rfl rfl (hcpB _ (fun _=>rfl) (fun _=>rfl) _ _ _) ?_))
 go_region_law_o (refine step_copy_runI rfl _ _ 71 71 rfl (.slice (some ⟨w.heap.size,(i+1),none⟩) (n-i) (G- (i+1))) (.slice (some ⟨b,i,none⟩) (n-i) (c-i)) (by simp[Act.eval,Act.put]) (by simp[Act.eval,Act.put]) (hcpB _ hF1 hF2 3 (G- (i+1)) (c-i)) ?_)
 go_wp2
 go_ret
 exact ⟨rfl,rfl⟩
theorem rawIns_Rows:RawIns Tryz.prog 247 179 1 24:=
 rawIns_of (.agg #[.slice none 0 0]:Value) (by decide) (by decide) (by kernel_rfl) (fun b n c vb vc vs w=>by simpa only[Nat.mul_one] using insA_Rows b n c vb vc vs w) (fun base n c vb vc cs vs w=>by simpa only[Nat.mul_one] using insB_Rows base n c vb vc cs vs w) (fun b n c i vb vc cs vs w=>by simpa only[Nat.mul_one] using insC_Rows b n c i vb vc cs vs w) (fun b n c i vb vc cs vs w=>by simpa only[Nat.mul_one] using insD_Rows b n c i vb vc cs vs w)
set_option maxRecDepth 100000 in
theorem insA_Table (b n c vb vc:Nat) (vs:List Value) (w:World) (hroom:n+1≤c) (hc63:c≤9223372036854775807)
  (hvl:vs.length=3) (hsp: ∀j,j<3→(w.cell? ⟨b,n*3+j,none⟩).isSome=true) (hfz: ∀j,j<3→w.frozen? ⟨b,n*3+j,none⟩=false)
  (hvs: ∀j v,vs[j]? =some v→w.cell? ⟨vb,j,none⟩=some v) (h1v: ∀v∈vs,v.oneCell'=true):
  Calls Tryz.prog 267 #[.slice (some ⟨b,0,none⟩) n c,.int .i64 n,.slice (some ⟨vb,0,none⟩) 1 vc] w fun e w'=>
   e= .returned (.slice (some ⟨b,0,none⟩) (n+1) c)∧w'=w.setCells b (n*3) vs:=by
 have tS:Tryz.prog.underlying 68=some (.slice 202):=by kernel_rfl
 have t3:Tryz.prog.underlying 3=some (.int .i64):=by kernel_rfl
 have t4:Tryz.prog.underlying 4=some .bool:=by kernel_rfl
 have uS:=run_underlying tS;have u3:=run_underlying t3;have u4:=run_underlying t4
 have hsrc:Src Tryz.prog 3 68 (.slice (some ⟨vb,0,none⟩) 1 vc) 1 vs w:=Src.ofSlice w tS ⟨vb,0,none⟩ 1 vc vs (by omega) (fun j u hj=>by rw[Addr.add_lit,Nat.zero_add];exact hvs j u hj) h1v
 obtain ⟨i0,hi0,hz0,hzs,hzb⟩:=info_parts (show (Tryz.prog.info? 202).map (fun i=>(i.zero,i.size,i.bytes))=some (some (.agg #[.string ⟨#[]⟩,.slice none 0 0,.slice none 0 0]:Value),3,64) by kernel_rfl)
 have zE: ∀w,(Go.sizeOf 202).run Tryz.prog w= .ok 3 w:=fun w=>by simp[Go.sizeOf,typeInfo,hi0,hzs]
 have hrun: ∀ty,(Builtin.append_ #[68,68] ty #[.slice (some ⟨b,0,none⟩) n c,.slice (some ⟨vb,0,none⟩) 1 vc]).run Tryz.prog w=_:=fun ty=>
  run_append_room_src w 68 68 ty 202 i0 tS hi0 b 0 n c _ 1 vs (by rw[hzs];exact hsrc) hroom (by simp only[hvl,hzs,Nat.zero_add,Nat.mul_one];exact hsp) (by simp only[hvl,hzs,Nat.zero_add,Nat.mul_one];exact hfz)
 rw[hzs,Nat.zero_add] at hrun
 try rw[Nat.mul_one] at hrun
 go_enter Tryz.func267,Tryz.ntmps267
 go_wp2_with (at_builtin;refine Lib.wpList_append_run _ rfl _ _ _ _ rfl _ _ rfl rfl _ _ (hrun _) ?_)
 go_ret
 exact ⟨rfl,rfl⟩
set_option maxRecDepth 100000 in
theorem insB_Table (base:Option Addr) (n c vb vc:Nat) (cs vs:List Value) (w:World) (hnc:n≤c) (hroom:c<n+1) (hbig:(n+1)*64≤140737488355328)
  (hcl:cs.length=n*3) (hvl:vs.length=3) (hnil:base=none→n=0)
  (hcs: ∀a,base=some a→ ∀j v,cs[j]? =some v→w.cell? (a.add j)=some v)
  (hvs: ∀j v,vs[j]? =some v→w.cell? ⟨vb,j,none⟩=some v) (h1v: ∀v∈vs,v.oneCell'=true):
  Calls Tryz.prog 267 #[.slice base n c,.int .i64 n,.slice (some ⟨vb,0,none⟩) 1 vc] w fun e w'=>
   e= .returned (.slice (some ⟨w.heap.size,0,none⟩) (n+1) (grownCap w (n+1) c 202))∧
   w'=w.drew.alloc (.cells ((cs++vs).toArray++Builtin.zeroCells (.agg #[.string ⟨#[]⟩,.slice none 0 0,.slice none 0 0]:Value).cells (grownCap w (n+1) c 202- (n+1))) 202):=by
 have tS:Tryz.prog.underlying 68=some (.slice 202):=by kernel_rfl
 have t3:Tryz.prog.underlying 3=some (.int .i64):=by kernel_rfl
 have t4:Tryz.prog.underlying 4=some .bool:=by kernel_rfl
 have uS:=run_underlying tS;have u3:=run_underlying t3;have u4:=run_underlying t4
 obtain ⟨i0,hi0,hz0,hzs,hzb⟩:=info_parts (show (Tryz.prog.info? 202).map (fun i=>(i.zero,i.size,i.bytes))=some (some (.agg #[.string ⟨#[]⟩,.slice none 0 0,.slice none 0 0]:Value),3,64) by kernel_rfl)
 have zE: ∀w,(Go.sizeOf 202).run Tryz.prog w= .ok 3 w:=fun w=>by simp[Go.sizeOf,typeInfo,hi0,hzs]
 have hsrc:Src Tryz.prog i0.size 68 (.slice (some ⟨vb,0,none⟩) 1 vc) 1 vs w:=by
  rw[hzs]
  exact Src.ofSlice w tS ⟨vb,0,none⟩ 1 vc vs (by omega) (fun j u hj=>by rw[Addr.add_lit,Nat.zero_add];exact hvs j u hj) h1v
 have hold:(Builtin.firstCells i0.size n (.slice base n c)).run Tryz.prog w.drew= .ok cs.toArray w.drew:=by
  rw[hzs]
  cases base with
  |none=>
   have h0:=hnil rfl
   subst h0
   try rw[Nat.zero_mul] at hcl
   rw[List.length_eq_zero_iff.1 hcl]
   exact run_firstCells_none w.drew 3 0 0 c
  |some a=>exact run_firstCells_some w.drew 3 n a n c cs (by omega) (fun j v hj=>hcs a rfl j v hj)
 have hrun: ∀ty,(Builtin.append_ #[68,68] ty #[.slice base n c,.slice (some ⟨vb,0,none⟩) 1 vc]).run Tryz.prog w=_:=fun ty=>
  run_append_grow_src w 68 68 ty 202 i0 _ tS hi0 hz0 base n c cs hold _ 1 vs hsrc hroom (by omega) (by rw[hzb];exact growslice_fits hroom hbig)
 clear hi0 hz0 hzs hzb
 go_enter Tryz.func267,Tryz.ntmps267
 cases base with
 |none=>
  have h0:=hnil rfl
  subst h0
  go_wp2_with (at_builtin;refine Lib.wpList_append_run _ rfl _ _ _ _ rfl _ _ rfl rfl _ _ (hrun _) ?_)
  go_ret
  exact ⟨rfl,rfl⟩
 |some a=>
  obtain ⟨ab,ao,asp⟩:=a
  go_wp2_with (at_builtin;refine Lib.wpList_append_run _ rfl _ _ _ _ rfl _ _ rfl rfl _ _ (hrun _) ?_)
  all_goals (go_ret;exact ⟨rfl,rfl⟩)
set_option maxRecDepth 100000 in
theorem insC_Table (b n c i vb vc:Nat) (cs vs:List Value) (w:World) (hi:i<n) (hroom:n+1≤c) (hc63:c≤9223372036854775807) (hvb:vb≠b)
  (hcl:cs.length=n*3) (hvl:vs.length=3)
  (hcs: ∀j v,cs[j]? =some v→w.cell? ⟨b,j,none⟩=some v) (hsp: ∀j,j< (n+1)*3→(w.cell? ⟨b,j,none⟩).isSome=true) (hfz: ∀j,j< (n+1)*3→w.frozen? ⟨b,j,none⟩=false)
  (hvs: ∀j v,vs[j]? =some v→w.cell? ⟨vb,j,none⟩=some v) (h1c: ∀v∈cs,v.oneCell'=true) (h1v: ∀v∈vs,v.oneCell'=true)
  (tA tB:TypeId) (kA kB:Nat) (hsa:w.shape? vb=some (tA,kA)) (hsb:w.shape? b=some (tB,kB)) (hkB:kB≠0) (hfa:w.frozen? ⟨vb,0,none⟩=false) (hfe:w.frozen? ⟨vb,kA,none⟩=false):
  Calls Tryz.prog 267 #[.slice (some ⟨b,0,none⟩) n c,.int .i64 i,.slice (some ⟨vb,0,none⟩) 1 vc] w fun e w'=>
   e= .returned (.slice (some ⟨b,0,none⟩) (n+1) c)∧w'=(w.drew.setCells b ((i+1)*3) (cs.drop (i*3))).setCells b (i*3) vs:=by
 have tS:Tryz.prog.underlying 68=some (.slice 202):=by kernel_rfl
 have t3:Tryz.prog.underlying 3=some (.int .i64):=by kernel_rfl
 have t4:Tryz.prog.underlying 4=some .bool:=by kernel_rfl
 have uS:=run_underlying tS;have u3:=run_underlying t3;have u4:=run_underlying t4
 obtain ⟨i0,hi0,hz0,hzs,hzb⟩:=info_parts (show (Tryz.prog.info? 202).map (fun i=>(i.zero,i.size,i.bytes))=some (some (.agg #[.string ⟨#[]⟩,.slice none 0 0,.slice none 0 0]:Value),3,64) by kernel_rfl)
 have zE: ∀w,(Go.sizeOf 202).run Tryz.prog w= .ok 3 w:=fun w=>by simp[Go.sizeOf,typeInfo,hi0,hzs]
 have hsz:(Tryz.prog.info? 202).map (·.size)=some 3:=by rw[hi0];simp[hzs]
 have hz2: ¬((i:Int)=(n:Int)):=by omega
 have hov: ∀lb cb,(callFunc 281 #[.slice (some ⟨vb,0,none⟩) 1 vc,.slice (some ⟨b,(i+1)*3,none⟩) lb cb]).run Tryz.prog w= .ok (.value (.bool false)) w:=fun lb cb=>by
  rw[run_callFunc_extern Tryz.func281 (by kernel_rfl) (by kernel_rfl) (by kernel_rfl) (e:=Extern.SlicesOverlaps.overlaps #[68,68] #[4]) (by kernel_rfl),
   Lib.run_overlaps_apart w 68 4 202 tS 3 zE ⟨vb,0,none⟩ ⟨b,(i+1)*3,none⟩ 1 vc lb cb hvb tA tB kA kB hsa hsb hkB hfa hfe]
  rfl
 have hdl:(cs.drop (i*3)).length=(n-i)*3:=by rw[List.length_drop,hcl];try rw[Nat.sub_mul]
 have mixed:=hm
 have hw1:IntKind.i64.wrap ((i:Int)+1)=(i:Int)+1:=by rw[IntKind.wrap_i64];omega
 have hb1:(0:Int)≤(i:Int)+1:=by omega
 have hin:i≤n:=by omega
 have htn:((i:Int)+1).toNat=i+1:=by omega
 have hb2: ¬(c=i+1):=by omega
 have hb3:(i:Int)≤(n:Int)+1:=by omega
 have hb4: ¬(c=i):=by omega
 have hcp1: ∀ty dc sc,(Builtin.copy_ #[68,68] ty #[.slice (some ⟨b,(i+1)*3,none⟩) (n-i) dc,.slice (some ⟨b,i*3,none⟩) (n+1-i) sc]).run Tryz.prog w.drew= .ok (goInt ((n-i:Nat):Int)) (w.drew.setCells b ((i+1)*3) (cs.drop (i*3))):=fun ty dc sc=>
  run_copy_rows w.drew _ _ ty 202 3 b ((i+1)*3) (n-i) dc ⟨b,i*3,none⟩ (n+1-i) sc (n-i) (cs.drop (i*3)) tS hsz (by simp only[Nat.min_def];split<;>omega) (by omega)
   (fun j v hj=>by rw[Addr.add_lit];exact hcs (i*3+j) v (by rwa [List.getElem?_drop] at hj))
   (fun j hj=>hsp _ (by omega)) (fun j hj=>hfz _ (by omega)) (fun v hv=>h1c v (List.mem_of_mem_drop hv))
 obtain ⟨W1,hW1⟩: ∃W1,W1=w.drew.setCells b ((i+1)*3) (cs.drop (i*3)):=⟨_,rfl⟩
 have hsp1: ∀k,k< (n+1)*3→(W1.cell? ⟨b,k,none⟩).isSome=true:=fun k hk=>by
  rw[hW1]
  exact isSome_setCells b (cs.drop (i*3)) ((i+1)*3) w.drew (fun j hj=>hsp _ (by rw[hdl] at hj;omega)) k (hsp k hk)
 have hcp2: ∀ (W:World),(∀x,W.cell? x=W1.cell? x)→(∀x,W.frozen? x=W1.frozen? x)→ ∀ty dc,(Builtin.copy_ #[68,68] ty #[.slice (some ⟨b,i*3,none⟩) (n+1-i) dc,.slice (some ⟨vb,0,none⟩) 1 vc]).run Tryz.prog W= .ok (goInt 1) (W.setCells b (i*3) vs):=fun W hWc hWf ty dc=>
  run_copy_rows W _ _ ty 202 3 b (i*3) (n+1-i) dc ⟨vb,0,none⟩ 1 vc 1 vs tS hsz (by simp only[Nat.min_def];split<;>omega) (by rw[hvl])
   (fun j v hj=>by
    rw[Addr.add_lit,Nat.zero_add,hWc,hW1,World.cell?_setCells_out b _ _ _ _ (fun h _=>absurd h hvb)]
    exact hvs j v hj)
   (fun j hj=>by rw[hWc];exact hsp1 _ (by omega)) (fun j hj=>by rw[hWf,hW1,World.frozen?_setCells];exact hfz _ (by omega)) h1v
 rw[←hW1] at hcp1
 clear hi0 hz0 hzs hzb
 go_enter Tryz.func267,Tryz.ntmps267
 go_wp2_with (simp only[hov])
 go_region_law_o (refine step_copy_runI rfl _ _ 68 68 rfl _ _ (by simp[Act.eval,Act.put]) (by simp[Act.eval,Act.put]) (hcp1 _ _ _) ?_)
 go_wp2_with (at_builtin;refine wpList_copy_runI _ rfl _ _ 68 68 rfl _ _ rfl rfl (hcp2 _ (fun _=>rfl) (fun _=>rfl) _ _) ?_)
 go_ret
 first|exact ⟨rfl,rfl⟩|exact ⟨rfl,by rw[hW1]⟩
set_option maxRecDepth 100000 in
theorem insD_Table (b n c i vb vc:Nat) (cs vs:List Value) (w:World) (hi:i<n) (hnc:n≤c) (hroom:c<n+1) (hbig:(n+1)*64≤140737488355328)
  (hcl:cs.length=n*3) (hvl:vs.length=3)
  (hcs: ∀j v,cs[j]? =some v→w.cell? ⟨b,j,none⟩=some v)
  (hvs: ∀j v,vs[j]? =some v→w.cell? ⟨vb,j,none⟩=some v) (h1c: ∀v∈cs,v.oneCell'=true) (h1v: ∀v∈vs,v.oneCell'=true):
  Calls Tryz.prog 267 #[.slice (some ⟨b,0,none⟩) n c,.int .i64 i,.slice (some ⟨vb,0,none⟩) 1 vc] w fun e w'=>
   e= .returned (.slice (some ⟨w.heap.size,0,none⟩) (n+1) (grownCap w (n+1) c 202))∧
   w'=(((w.alloc (.cells ((cs.take (i*3)).toArray++Builtin.zeroCells (.agg #[.string ⟨#[]⟩,.slice none 0 0,.slice none 0 0]:Value).cells (n+1-i)++Builtin.zeroCells (.agg #[.string ⟨#[]⟩,.slice none 0 0,.slice none 0 0]:Value).cells (grownCap w (n+1) c 202- (n+1))) 202)).drew.setCells w.heap.size (i*3) vs).drew).setCells w.heap.size ((i+1)*3) (cs.drop (i*3)):=by
 have tS:Tryz.prog.underlying 68=some (.slice 202):=by kernel_rfl
 have t3:Tryz.prog.underlying 3=some (.int .i64):=by kernel_rfl
 have t4:Tryz.prog.underlying 4=some .bool:=by kernel_rfl
 have uS:=run_underlying tS;have u3:=run_underlying t3;have u4:=run_underlying t4
 obtain ⟨i0,hi0,hz0,hzs,hzb⟩:=info_parts (show (Tryz.prog.info? 202).map (fun i=>(i.zero,i.size,i.bytes))=some (some (.agg #[.string ⟨#[]⟩,.slice none 0 0,.slice none 0 0]:Value),3,64) by kernel_rfl)
 have zE: ∀w,(Go.sizeOf 202).run Tryz.prog w= .ok 3 w:=fun w=>by simp[Go.sizeOf,typeInfo,hi0,hzs]
 have hsz:(Tryz.prog.info? 202).map (·.size)=some 3:=by rw[hi0];simp[hzs]
 have mixed:=hm
 have hz2: ¬((i:Int)=(n:Int)):=by omega
 have hz3:(c:Int)< (n:Int)+1:=by omega
 have hbw:b<w.heap.size:=block_lt_of_cell (hcs 0 _ (List.getElem?_eq_getElem (by omega)))
 have hvw:vb<w.heap.size:=block_lt_of_cell (hvs 0 _ (List.getElem?_eq_getElem (by omega)))
 have hkk:(n:Int)+1- (i:Int)=((n+1-i:Nat):Int):=by omega
 have hik:i+(n+1-i)=n+1:=by omega
 have hold:(Builtin.firstCells i0.size i (.slice (some ⟨b,0,none⟩) i c)).run Tryz.prog w.drew= .ok (cs.take (i*3)).toArray w.drew:=by
  rw[hzs]
  exact run_firstCells_some w.drew 3 i ⟨b,0,none⟩ i c (cs.take (i*3)) (by rw[List.length_take];omega) (fun j v hj=>by
   rw[Addr.add_lit,Nat.zero_add]
   rw[List.getElem?_take] at hj
   split at hj
   ·exact hcs j v hj
   ·cases hj)
 have hrz: ∀ty,(Builtin.append_ #[68,3] ty #[.slice (some ⟨b,0,none⟩) i c,.int .i64 ((n:Int)+1- (i:Int))]).run Tryz.prog w=
   .ok (.slice (some ⟨w.heap.size,0,none⟩) (n+1) (grownCap w (n+1) c 202)) (w.drew.alloc (.cells ((cs.take (i*3)).toArray++Builtin.zeroCells (.agg #[.string ⟨#[]⟩,.slice none 0 0,.slice none 0 0]:Value).cells (n+1-i)++Builtin.zeroCells (.agg #[.string ⟨#[]⟩,.slice none 0 0,.slice none 0 0]:Value).cells (grownCap w (n+1) c 202- (n+1))) 202)):=fun ty=>by
  have h:=Lib.run_append_grow_zeros w 68 3 ty 202 i0 _ .i64 .i64 tS t3 hi0 hz0 (some ⟨b,0,none⟩) i c (cs.take (i*3)) hold (n+1-i) (by omega) (by omega) (by omega) (by omega) (by rw[hzb];omega) (by rw[hzb,hik];exact growslice_fits hroom hbig)
  rw[hik] at h
  rw[hkk]
  exact h
 obtain ⟨G,hG⟩: ∃G,G=grownCap w (n+1) c 202:=⟨_,rfl⟩
 obtain ⟨ROW,hROW⟩: ∃ROW:Array Value,ROW=(cs.take (i*3)).toArray++Builtin.zeroCells (.agg #[.string ⟨#[]⟩,.slice none 0 0,.slice none 0 0]:Value).cells (n+1-i)++Builtin.zeroCells (.agg #[.string ⟨#[]⟩,.slice none 0 0,.slice none 0 0]:Value).cells (G- (n+1)):=⟨_,rfl⟩
 rw[←hG] at hrz⊢
 rw[←hROW] at hrz⊢
 have hRl:(n+1)*3≤ROW.size:=by
  rw[hROW]
  simp only[Array.size_append,List.size_toArray,List.length_take,hcl,size_zeroCells,(show (.agg #[.string ⟨#[]⟩,.slice none 0 0,.slice none 0 0]:Value).cells.size=3 by kernel_rfl)]
  omega
 obtain ⟨W1,hW1⟩: ∃W1,W1=w.drew.alloc (.cells ROW 202):=⟨_,rfl⟩
 rw[←hW1] at hrz
 have hN: ∀j,j< (n+1)*3→(W1.cell? ⟨w.heap.size,j,none⟩).isSome=true:=fun j hj=>by
  rw[hW1,World.cell?_alloc_at (w:=w.drew) ROW _ w.heap.size j rfl,Array.getElem?_eq_getElem (by omega)];rfl
 have hNf: ∀j,W1.frozen? ⟨w.heap.size,j,none⟩=false:=fun j=>by rw[hW1];exact World.frozen?_alloc_at (w:=w.drew) ROW _ w.heap.size j rfl
 have hOb: ∀j v,w.cell? ⟨b,j,none⟩=some v→W1.cell? ⟨b,j,none⟩=some v:=fun j v h=>by rw[hW1,World.cell?_alloc_past (w:=w.drew) _ b j hbw];exact h
 have hOv: ∀j v,w.cell? ⟨vb,j,none⟩=some v→W1.cell? ⟨vb,j,none⟩=some v:=fun j v h=>by rw[hW1,World.cell?_alloc_past (w:=w.drew) _ vb j hvw];exact h
 have hcpA: ∀ (W:World),(∀x,W.cell? x=W1.cell? x)→(∀x,W.frozen? x=W1.frozen? x)→ ∀ty dc,(Builtin.copy_ #[68,68] ty #[.slice (some ⟨w.heap.size,i*3,none⟩) (n+1-i) dc,.slice (some ⟨vb,0,none⟩) 1 vc]).run Tryz.prog W= .ok (goInt 1) (W.setCells w.heap.size (i*3) vs):=fun W hWc hWf ty dc=>
  run_copy_rows W _ _ ty 202 3 w.heap.size (i*3) (n+1-i) dc ⟨vb,0,none⟩ 1 vc 1 vs tS hsz (by simp only[Nat.min_def];split<;>omega) (by rw[hvl])
   (fun j v hj=>by rw[Addr.add_lit,Nat.zero_add,hWc];exact hOv _ v (hvs j v hj))
   (fun j hj=>by rw[hWc];exact hN _ (by omega)) (fun j hj=>by rw[hWf];exact hNf _) h1v
 have hGn:n+1≤G:=by rw[hG];exact grownCap_ge w _ _ _
 have hG63:G≤9223372036854775807:=by
  have:=grownCap_le_maxLen w (n+1) c 202 (by unfold maxLen;omega)
  rw[←hG] at this
  unfold maxLen at this
  omega
 have hGi: ¬(G=i):=by omega
 have hGim: ¬(G=i+1):=by omega
 have hci: ¬(c=i):=by omega
 have hbN:b≠w.heap.size:=by omega
 have hdl:(cs.drop (i*3)).length=(n-i)*3:=by rw[List.length_drop,hcl];try rw[Nat.sub_mul]
 have hcpB: ∀ (W:World),(∀x,W.cell? x=(W1.setCells w.heap.size (i*3) vs).cell? x)→(∀x,W.frozen? x=(W1.setCells w.heap.size (i*3) vs).frozen? x)→ ∀ty dc sc,(Builtin.copy_ #[68,68] ty #[.slice (some ⟨w.heap.size,(i+1)*3,none⟩) (n-i) dc,.slice (some ⟨b,i*3,none⟩) (n-i) sc]).run Tryz.prog W= .ok (goInt ((n-i:Nat):Int)) (W.setCells w.heap.size ((i+1)*3) (cs.drop (i*3))):=fun W hWc hWf ty dc sc=>
  run_copy_rows W _ _ ty 202 3 w.heap.size ((i+1)*3) (n-i) dc ⟨b,i*3,none⟩ (n-i) sc (n-i) (cs.drop (i*3)) tS hsz (by simp only[Nat.min_def];split<;>omega) (by omega)
   (fun j v hj=>by
    rw[Addr.add_lit,hWc,World.cell?_setCells_out _ _ _ _ _ (fun h _=>absurd h hbN)]
    exact hOb _ v (hcs (i*3+j) v (by rwa [List.getElem?_drop] at hj)))
   (fun j hj=>by rw[hWc];exact isSome_setCells w.heap.size vs (i*3) W1 (fun t ht=>hN _ (by omega)) _ (hN _ (by omega)))
   (fun j hj=>by rw[hWf,World.frozen?_setCells];exact hNf _) (fun v hv=>h1c v (List.mem_of_mem_drop hv))
 subst hW1
 have hE1: ∀x,((w.alloc (.cells ROW 202)).drew).cell? x=(w.drew.alloc (.cells ROW 202)).cell? x:=fun x=>rfl
 have hE2: ∀x,((w.alloc (.cells ROW 202)).drew).frozen? x=(w.drew.alloc (.cells ROW 202)).frozen? x:=fun x=>rfl
 have hF1: ∀x,(((w.alloc (.cells ROW 202)).drew.setCells w.heap.size (i*3) vs).drew).cell? x=((w.drew.alloc (.cells ROW 202)).setCells w.heap.size (i*3) vs).cell? x:=fun x=>rfl
 have hF2: ∀x,(((w.alloc (.cells ROW 202)).drew.setCells w.heap.size (i*3) vs).drew).frozen? x=((w.drew.alloc (.cells ROW 202)).setCells w.heap.size (i*3) vs).frozen? x:=fun x=>rfl
 have hw1:IntKind.i64.wrap ((i:Int)+1)=(i:Int)+1:=by rw[IntKind.wrap_i64];omega
 have hb1:(0:Int)≤(i:Int)+1:=by omega
 have hin:i≤n:=by omega
 have htn:((i:Int)+1).toNat=i+1:=by omega
 have hb3:(i:Int)≤(n:Int):=by omega
 clear hkk hik hold hROW hG hRl hi0 hz0 hzs hzb
 go_enter Tryz.func267,Tryz.ntmps267
 go_wp2_with (first
  |(at_builtin;refine Lib.wpList_append_run _ rfl _ _ _ _ rfl _ _ rfl rfl _ _ (hrz _) ?_)
  |(at_builtin;refine wpList_copy_runI _ rfl _ _ 68 68 rfl _ _ rfl rfl (hcpA _ hE1 hE2 _ _) ?_)
  |(at_builtin;refine wpList_copy_runI _ rfl _ _ 68 68 rfl _ _ rfl rfl (hcpB _ (fun _=>rfl) (fun _=>rfl) _ _ _) ?_))
 go_region_law_o (refine step_copy_runI rfl _ _ 68 68 rfl (.slice (some ⟨w.heap.size,(i+1)*3,none⟩) (n-i) (G- (i+1))) (.slice (some ⟨b,i*3,none⟩) (n-i) (c-i)) (by simp[Act.eval,Act.put]) (by simp[Act.eval,Act.put]) (hcpB _ hF1 hF2 3 (G- (i+1)) (c-i)) ?_)
 go_wp2
 go_ret
 exact ⟨rfl,rfl⟩
theorem rawIns_Table:RawIns Tryz.prog 267 202 3 64:=
 rawIns_of (.agg #[.string ⟨#[]⟩,.slice none 0 0,.slice none 0 0]:Value) (by decide) (by decide) (by kernel_rfl) (fun b n c vb vc vs w=>insA_Table b n c vb vc vs w) (fun base n c vb vc cs vs w=>insB_Table base n c vb vc cs vs w) (fun b n c i vb vc cs vs w=>insC_Table b n c i vb vc cs vs w) (fun b n c i vb vc cs vs w=>insD_Table b n c i vb vc cs vs w)
set_option maxRecDepth 100000 in
theorem insA_Row (b n c vb vc:Nat) (vs:List Value) (w:World) (hroom:n+1≤c) (hc63:c≤9223372036854775807)
  (hvl:vs.length=1) (hsp: ∀j,j<1→(w.cell? ⟨b,n+j,none⟩).isSome=true) (hfz: ∀j,j<1→w.frozen? ⟨b,n+j,none⟩=false)
  (hvs: ∀j v,vs[j]? =some v→w.cell? ⟨vb,j,none⟩=some v) (h1v: ∀v∈vs,v.oneCell'=true):
  Calls Tryz.prog 277 #[.slice (some ⟨b,0,none⟩) n c,.int .i64 n,.slice (some ⟨vb,0,none⟩) 1 vc] w fun e w'=>
   e= .returned (.slice (some ⟨b,0,none⟩) (n+1) c)∧w'=w.setCells b (n) vs:=by
 have tS:Tryz.prog.underlying 177=some (.slice 58):=by kernel_rfl
 have t3:Tryz.prog.underlying 3=some (.int .i64):=by kernel_rfl
 have t4:Tryz.prog.underlying 4=some .bool:=by kernel_rfl
 have uS:=run_underlying tS;have u3:=run_underlying t3;have u4:=run_underlying t4
 have hsrc:Src Tryz.prog 1 177 (.slice (some ⟨vb,0,none⟩) 1 vc) 1 vs w:=Src.ofSlice w tS ⟨vb,0,none⟩ 1 vc vs (by omega) (fun j u hj=>by rw[Addr.add_lit,Nat.zero_add];exact hvs j u hj) h1v
 obtain ⟨i0,hi0,hz0,hzs,hzb⟩:=info_parts (show (Tryz.prog.info? 58).map (fun i=>(i.zero,i.size,i.bytes))=some (some (.agg #[.slice none 0 0]:Value),1,24) by kernel_rfl)
 have zE: ∀w,(Go.sizeOf 58).run Tryz.prog w= .ok 1 w:=fun w=>by simp[Go.sizeOf,typeInfo,hi0,hzs]
 have hrun: ∀ty,(Builtin.append_ #[177,177] ty #[.slice (some ⟨b,0,none⟩) n c,.slice (some ⟨vb,0,none⟩) 1 vc]).run Tryz.prog w=_:=fun ty=>
  run_append_room_src w 177 177 ty 58 i0 tS hi0 b 0 n c _ 1 vs (by rw[hzs];exact hsrc) hroom (by simp only[hvl,hzs,Nat.zero_add,Nat.mul_one];exact hsp) (by simp only[hvl,hzs,Nat.zero_add,Nat.mul_one];exact hfz)
 rw[hzs,Nat.zero_add] at hrun
 try rw[Nat.mul_one] at hrun
 go_enter Tryz.func277,Tryz.ntmps277
 go_wp2_with (at_builtin;refine Lib.wpList_append_run _ rfl _ _ _ _ rfl _ _ rfl rfl _ _ (hrun _) ?_)
 go_ret
 exact ⟨rfl,rfl⟩
set_option maxRecDepth 100000 in
theorem insB_Row (base:Option Addr) (n c vb vc:Nat) (cs vs:List Value) (w:World) (hnc:n≤c) (hroom:c<n+1) (hbig:(n+1)*24≤140737488355328)
  (hcl:cs.length=n) (hvl:vs.length=1) (hnil:base=none→n=0)
  (hcs: ∀a,base=some a→ ∀j v,cs[j]? =some v→w.cell? (a.add j)=some v)
  (hvs: ∀j v,vs[j]? =some v→w.cell? ⟨vb,j,none⟩=some v) (h1v: ∀v∈vs,v.oneCell'=true):
  Calls Tryz.prog 277 #[.slice base n c,.int .i64 n,.slice (some ⟨vb,0,none⟩) 1 vc] w fun e w'=>
   e= .returned (.slice (some ⟨w.heap.size,0,none⟩) (n+1) (grownCap w (n+1) c 58))∧
   w'=w.drew.alloc (.cells ((cs++vs).toArray++Builtin.zeroCells (.agg #[.slice none 0 0]:Value).cells (grownCap w (n+1) c 58- (n+1))) 58):=by
 have tS:Tryz.prog.underlying 177=some (.slice 58):=by kernel_rfl
 have t3:Tryz.prog.underlying 3=some (.int .i64):=by kernel_rfl
 have t4:Tryz.prog.underlying 4=some .bool:=by kernel_rfl
 have uS:=run_underlying tS;have u3:=run_underlying t3;have u4:=run_underlying t4
 obtain ⟨i0,hi0,hz0,hzs,hzb⟩:=info_parts (show (Tryz.prog.info? 58).map (fun i=>(i.zero,i.size,i.bytes))=some (some (.agg #[.slice none 0 0]:Value),1,24) by kernel_rfl)
 have zE: ∀w,(Go.sizeOf 58).run Tryz.prog w= .ok 1 w:=fun w=>by simp[Go.sizeOf,typeInfo,hi0,hzs]
 have hsrc:Src Tryz.prog i0.size 177 (.slice (some ⟨vb,0,none⟩) 1 vc) 1 vs w:=by
  rw[hzs]
  exact Src.ofSlice w tS ⟨vb,0,none⟩ 1 vc vs (by omega) (fun j u hj=>by rw[Addr.add_lit,Nat.zero_add];exact hvs j u hj) h1v
 have hold:(Builtin.firstCells i0.size n (.slice base n c)).run Tryz.prog w.drew= .ok cs.toArray w.drew:=by
  rw[hzs]
  cases base with
  |none=>
   have h0:=hnil rfl
   subst h0
   try rw[Nat.zero_mul] at hcl
   rw[List.length_eq_zero_iff.1 hcl]
   exact run_firstCells_none w.drew 1 0 0 c
  |some a=>exact run_firstCells_some w.drew 1 n a n c cs (by omega) (fun j v hj=>hcs a rfl j v hj)
 have hrun: ∀ty,(Builtin.append_ #[177,177] ty #[.slice base n c,.slice (some ⟨vb,0,none⟩) 1 vc]).run Tryz.prog w=_:=fun ty=>
  run_append_grow_src w 177 177 ty 58 i0 _ tS hi0 hz0 base n c cs hold _ 1 vs hsrc hroom (by omega) (by rw[hzb];exact growslice_fits hroom hbig)
 clear hi0 hz0 hzs hzb
 go_enter Tryz.func277,Tryz.ntmps277
 cases base with
 |none=>
  have h0:=hnil rfl
  subst h0
  go_wp2_with (at_builtin;refine Lib.wpList_append_run _ rfl _ _ _ _ rfl _ _ rfl rfl _ _ (hrun _) ?_)
  go_ret
  exact ⟨rfl,rfl⟩
 |some a=>
  obtain ⟨ab,ao,asp⟩:=a
  go_wp2_with (at_builtin;refine Lib.wpList_append_run _ rfl _ _ _ _ rfl _ _ rfl rfl _ _ (hrun _) ?_)
  all_goals (go_ret;exact ⟨rfl,rfl⟩)
set_option maxRecDepth 100000 in
theorem insC_Row (b n c i vb vc:Nat) (cs vs:List Value) (w:World) (hi:i<n) (hroom:n+1≤c) (hc63:c≤9223372036854775807) (hvb:vb≠b)
  (hcl:cs.length=n) (hvl:vs.length=1)
  (hcs: ∀j v,cs[j]? =some v→w.cell? ⟨b,j,none⟩=some v) (hsp: ∀j,j< (n+1)→(w.cell? ⟨b,j,none⟩).isSome=true) (hfz: ∀j,j< (n+1)→w.frozen? ⟨b,j,none⟩=false)
  (hvs: ∀j v,vs[j]? =some v→w.cell? ⟨vb,j,none⟩=some v) (h1c: ∀v∈cs,v.oneCell'=true) (h1v: ∀v∈vs,v.oneCell'=true)
  (tA tB:TypeId) (kA kB:Nat) (hsa:w.shape? vb=some (tA,kA)) (hsb:w.shape? b=some (tB,kB)) (hkB:kB≠0) (hfa:w.frozen? ⟨vb,0,none⟩=false) (hfe:w.frozen? ⟨vb,kA,none⟩=false):
  Calls Tryz.prog 277 #[.slice (some ⟨b,0,none⟩) n c,.int .i64 i,.slice (some ⟨vb,0,none⟩) 1 vc] w fun e w'=>
   e= .returned (.slice (some ⟨b,0,none⟩) (n+1) c)∧w'=(w.drew.setCells b ((i+1)) (cs.drop (i))).setCells b (i) vs:=by
 have tS:Tryz.prog.underlying 177=some (.slice 58):=by kernel_rfl
 have t3:Tryz.prog.underlying 3=some (.int .i64):=by kernel_rfl
 have t4:Tryz.prog.underlying 4=some .bool:=by kernel_rfl
 have uS:=run_underlying tS;have u3:=run_underlying t3;have u4:=run_underlying t4
 obtain ⟨i0,hi0,hz0,hzs,hzb⟩:=info_parts (show (Tryz.prog.info? 58).map (fun i=>(i.zero,i.size,i.bytes))=some (some (.agg #[.slice none 0 0]:Value),1,24) by kernel_rfl)
 have zE: ∀w,(Go.sizeOf 58).run Tryz.prog w= .ok 1 w:=fun w=>by simp[Go.sizeOf,typeInfo,hi0,hzs]
 have hsz:(Tryz.prog.info? 58).map (·.size)=some 1:=by rw[hi0];simp[hzs]
 have hz2: ¬((i:Int)=(n:Int)):=by omega
 have hov: ∀lb cb,(callFunc 284 #[.slice (some ⟨vb,0,none⟩) 1 vc,.slice (some ⟨b,(i+1),none⟩) lb cb]).run Tryz.prog w= .ok (.value (.bool false)) w:=fun lb cb=>by
  rw[run_callFunc_extern Tryz.func284 (by kernel_rfl) (by kernel_rfl) (by kernel_rfl) (e:=Extern.SlicesOverlaps.overlaps #[177,177] #[4]) (by kernel_rfl),
   Lib.run_overlaps_apart w 177 4 58 tS 1 zE ⟨vb,0,none⟩ ⟨b,(i+1),none⟩ 1 vc lb cb hvb tA tB kA kB hsa hsb hkB hfa hfe]
  rfl
 have hdl:(cs.drop (i)).length=(n-i):=by rw[List.length_drop,hcl];try rw[Nat.sub_mul]
 have mixed:=hm
 have hw1:IntKind.i64.wrap ((i:Int)+1)=(i:Int)+1:=by rw[IntKind.wrap_i64];omega
 have hb1:(0:Int)≤(i:Int)+1:=by omega
 have hin:i≤n:=by omega
 have htn:((i:Int)+1).toNat=i+1:=by omega
 have hb2: ¬(c=i+1):=by omega
 have hb3:(i:Int)≤(n:Int)+1:=by omega
 have hb4: ¬(c=i):=by omega
 have hcp1: ∀ty dc sc,(Builtin.copy_ #[177,177] ty #[.slice (some ⟨b,(i+1),none⟩) (n-i) dc,.slice (some ⟨b,i,none⟩) (n+1-i) sc]).run Tryz.prog w.drew= .ok (goInt ((n-i:Nat):Int)) (w.drew.setCells b ((i+1)) (cs.drop (i))):=fun ty dc sc=>
  run_copy_rows w.drew _ _ ty 58 1 b ((i+1)) (n-i) dc ⟨b,i,none⟩ (n+1-i) sc (n-i) (cs.drop (i)) tS hsz (by simp only[Nat.min_def];split<;>omega) (by omega)
   (fun j v hj=>by rw[Addr.add_lit];exact hcs (i+j) v (by rwa [List.getElem?_drop] at hj))
   (fun j hj=>hsp _ (by omega)) (fun j hj=>hfz _ (by omega)) (fun v hv=>h1c v (List.mem_of_mem_drop hv))
 obtain ⟨W1,hW1⟩: ∃W1,W1=w.drew.setCells b ((i+1)) (cs.drop (i)):=⟨_,rfl⟩
 have hsp1: ∀k,k< (n+1)→(W1.cell? ⟨b,k,none⟩).isSome=true:=fun k hk=>by
  rw[hW1]
  exact isSome_setCells b (cs.drop (i)) ((i+1)) w.drew (fun j hj=>hsp _ (by rw[hdl] at hj;omega)) k (hsp k hk)
 have hcp2: ∀ (W:World),(∀x,W.cell? x=W1.cell? x)→(∀x,W.frozen? x=W1.frozen? x)→ ∀ty dc,(Builtin.copy_ #[177,177] ty #[.slice (some ⟨b,i,none⟩) (n+1-i) dc,.slice (some ⟨vb,0,none⟩) 1 vc]).run Tryz.prog W= .ok (goInt 1) (W.setCells b (i) vs):=fun W hWc hWf ty dc=>
  run_copy_rows W _ _ ty 58 1 b (i) (n+1-i) dc ⟨vb,0,none⟩ 1 vc 1 vs tS hsz (by simp only[Nat.min_def];split<;>omega) (by rw[hvl])
   (fun j v hj=>by
    rw[Addr.add_lit,Nat.zero_add,hWc,hW1,World.cell?_setCells_out b _ _ _ _ (fun h _=>absurd h hvb)]
    exact hvs j v hj)
   (fun j hj=>by rw[hWc];exact hsp1 _ (by omega)) (fun j hj=>by rw[hWf,hW1,World.frozen?_setCells];exact hfz _ (by omega)) h1v
 rw[←hW1] at hcp1
 clear hi0 hz0 hzs hzb
 go_enter Tryz.func277,Tryz.ntmps277
 go_wp2_with (simp only[hov])
 go_region_law_o (refine step_copy_runI rfl _ _ 177 177 rfl _ _ (by simp[Act.eval,Act.put]) (by simp[Act.eval,Act.put]) (hcp1 _ _ _) ?_)
 go_wp2_with (at_builtin;refine wpList_copy_runI _ rfl _ _ 177 177 rfl _ _ rfl rfl (hcp2 _ (fun _=>rfl) (fun _=>rfl) _ _) ?_)
 go_ret
 first|exact ⟨rfl,rfl⟩|exact ⟨rfl,by rw[hW1]⟩
set_option maxRecDepth 100000 in
theorem insD_Row (b n c i vb vc:Nat) (cs vs:List Value) (w:World) (hi:i<n) (hnc:n≤c) (hroom:c<n+1) (hbig:(n+1)*24≤140737488355328)
  (hcl:cs.length=n) (hvl:vs.length=1)
  (hcs: ∀j v,cs[j]? =some v→w.cell? ⟨b,j,none⟩=some v)
  (hvs: ∀j v,vs[j]? =some v→w.cell? ⟨vb,j,none⟩=some v) (h1c: ∀v∈cs,v.oneCell'=true) (h1v: ∀v∈vs,v.oneCell'=true):
  Calls Tryz.prog 277 #[.slice (some ⟨b,0,none⟩) n c,.int .i64 i,.slice (some ⟨vb,0,none⟩) 1 vc] w fun e w'=>
   e= .returned (.slice (some ⟨w.heap.size,0,none⟩) (n+1) (grownCap w (n+1) c 58))∧
   w'=(((w.alloc (.cells ((cs.take (i)).toArray++Builtin.zeroCells (.agg #[.slice none 0 0]:Value).cells (n+1-i)++Builtin.zeroCells (.agg #[.slice none 0 0]:Value).cells (grownCap w (n+1) c 58- (n+1))) 58)).drew.setCells w.heap.size (i) vs).drew).setCells w.heap.size ((i+1)) (cs.drop (i)):=by
 have tS:Tryz.prog.underlying 177=some (.slice 58):=by kernel_rfl
 have t3:Tryz.prog.underlying 3=some (.int .i64):=by kernel_rfl
 have t4:Tryz.prog.underlying 4=some .bool:=by kernel_rfl
 have uS:=run_underlying tS;have u3:=run_underlying t3;have u4:=run_underlying t4
 obtain ⟨i0,hi0,hz0,hzs,hzb⟩:=info_parts (show (Tryz.prog.info? 58).map (fun i=>(i.zero,i.size,i.bytes))=some (some (.agg #[.slice none 0 0]:Value),1,24) by kernel_rfl)
 have zE: ∀w,(Go.sizeOf 58).run Tryz.prog w= .ok 1 w:=fun w=>by simp[Go.sizeOf,typeInfo,hi0,hzs]
 have hsz:(Tryz.prog.info? 58).map (·.size)=some 1:=by rw[hi0];simp[hzs]
 have mixed:=hm
 have hz2: ¬((i:Int)=(n:Int)):=by omega
 have hz3:(c:Int)< (n:Int)+1:=by omega
 have hbw:b<w.heap.size:=block_lt_of_cell (hcs 0 _ (List.getElem?_eq_getElem (by omega)))
 have hvw:vb<w.heap.size:=block_lt_of_cell (hvs 0 _ (List.getElem?_eq_getElem (by omega)))
 have hkk:(n:Int)+1- (i:Int)=((n+1-i:Nat):Int):=by omega
 have hik:i+(n+1-i)=n+1:=by omega
 have hold:(Builtin.firstCells i0.size i (.slice (some ⟨b,0,none⟩) i c)).run Tryz.prog w.drew= .ok (cs.take (i)).toArray w.drew:=by
  rw[hzs]
  exact run_firstCells_some w.drew 1 i ⟨b,0,none⟩ i c (cs.take (i)) (by rw[List.length_take];omega) (fun j v hj=>by
   rw[Addr.add_lit,Nat.zero_add]
   rw[List.getElem?_take] at hj
   split at hj
   ·exact hcs j v hj
   ·cases hj)
 have hrz: ∀ty,(Builtin.append_ #[177,3] ty #[.slice (some ⟨b,0,none⟩) i c,.int .i64 ((n:Int)+1- (i:Int))]).run Tryz.prog w=
   .ok (.slice (some ⟨w.heap.size,0,none⟩) (n+1) (grownCap w (n+1) c 58)) (w.drew.alloc (.cells ((cs.take (i)).toArray++Builtin.zeroCells (.agg #[.slice none 0 0]:Value).cells (n+1-i)++Builtin.zeroCells (.agg #[.slice none 0 0]:Value).cells (grownCap w (n+1) c 58- (n+1))) 58)):=fun ty=>by
  have h:=Lib.run_append_grow_zeros w 177 3 ty 58 i0 _ .i64 .i64 tS t3 hi0 hz0 (some ⟨b,0,none⟩) i c (cs.take (i)) hold (n+1-i) (by omega) (by omega) (by omega) (by omega) (by rw[hzb];omega) (by rw[hzb,hik];exact growslice_fits hroom hbig)
  rw[hik] at h
  rw[hkk]
  exact h
 obtain ⟨G,hG⟩: ∃G,G=grownCap w (n+1) c 58:=⟨_,rfl⟩
 obtain ⟨ROW,hROW⟩: ∃ROW:Array Value,ROW=(cs.take (i)).toArray++Builtin.zeroCells (.agg #[.slice none 0 0]:Value).cells (n+1-i)++Builtin.zeroCells (.agg #[.slice none 0 0]:Value).cells (G- (n+1)):=⟨_,rfl⟩
 rw[←hG] at hrz⊢
 rw[←hROW] at hrz⊢
 have hRl:(n+1)≤ROW.size:=by
  rw[hROW]
  simp only[Array.size_append,List.size_toArray,List.length_take,hcl,size_zeroCells,(show (.agg #[.slice none 0 0]:Value).cells.size=1 by kernel_rfl)]
  omega
 obtain ⟨W1,hW1⟩: ∃W1,W1=w.drew.alloc (.cells ROW 58):=⟨_,rfl⟩
 rw[←hW1] at hrz
 have hN: ∀j,j< (n+1)→(W1.cell? ⟨w.heap.size,j,none⟩).isSome=true:=fun j hj=>by
  rw[hW1,World.cell?_alloc_at (w:=w.drew) ROW _ w.heap.size j rfl,Array.getElem?_eq_getElem (by omega)];rfl
 have hNf: ∀j,W1.frozen? ⟨w.heap.size,j,none⟩=false:=fun j=>by rw[hW1];exact World.frozen?_alloc_at (w:=w.drew) ROW _ w.heap.size j rfl
 have hOb: ∀j v,w.cell? ⟨b,j,none⟩=some v→W1.cell? ⟨b,j,none⟩=some v:=fun j v h=>by rw[hW1,World.cell?_alloc_past (w:=w.drew) _ b j hbw];exact h
 have hOv: ∀j v,w.cell? ⟨vb,j,none⟩=some v→W1.cell? ⟨vb,j,none⟩=some v:=fun j v h=>by rw[hW1,World.cell?_alloc_past (w:=w.drew) _ vb j hvw];exact h
 have hcpA: ∀ (W:World),(∀x,W.cell? x=W1.cell? x)→(∀x,W.frozen? x=W1.frozen? x)→ ∀ty dc,(Builtin.copy_ #[177,177] ty #[.slice (some ⟨w.heap.size,i,none⟩) (n+1-i) dc,.slice (some ⟨vb,0,none⟩) 1 vc]).run Tryz.prog W= .ok (goInt 1) (W.setCells w.heap.size (i) vs):=fun W hWc hWf ty dc=>
  run_copy_rows W _ _ ty 58 1 w.heap.size (i) (n+1-i) dc ⟨vb,0,none⟩ 1 vc 1 vs tS hsz (by simp only[Nat.min_def];split<;>omega) (by rw[hvl])
   (fun j v hj=>by rw[Addr.add_lit,Nat.zero_add,hWc];exact hOv _ v (hvs j v hj))
   (fun j hj=>by rw[hWc];exact hN _ (by omega)) (fun j hj=>by rw[hWf];exact hNf _) h1v
 have hGn:n+1≤G:=by rw[hG];exact grownCap_ge w _ _ _
 have hG63:G≤9223372036854775807:=by
  have:=grownCap_le_maxLen w (n+1) c 58 (by unfold maxLen;omega)
  rw[←hG] at this
  unfold maxLen at this
  omega
 have hGi: ¬(G=i):=by omega
 have hGim: ¬(G=i+1):=by omega
 have hci: ¬(c=i):=by omega
 have hbN:b≠w.heap.size:=by omega
 have hdl:(cs.drop (i)).length=(n-i):=by rw[List.length_drop,hcl];try rw[Nat.sub_mul]
 have hcpB: ∀ (W:World),(∀x,W.cell? x=(W1.setCells w.heap.size (i) vs).cell? x)→(∀x,W.frozen? x=(W1.setCells w.heap.size (i) vs).frozen? x)→ ∀ty dc sc,(Builtin.copy_ #[177,177] ty #[.slice (some ⟨w.heap.size,(i+1),none⟩) (n-i) dc,.slice (some ⟨b,i,none⟩) (n-i) sc]).run Tryz.prog W= .ok (goInt ((n-i:Nat):Int)) (W.setCells w.heap.size ((i+1)) (cs.drop (i))):=fun W hWc hWf ty dc sc=>
  run_copy_rows W _ _ ty 58 1 w.heap.size ((i+1)) (n-i) dc ⟨b,i,none⟩ (n-i) sc (n-i) (cs.drop (i)) tS hsz (by simp only[Nat.min_def];split<;>omega) (by omega)
   (fun j v hj=>by
    rw[Addr.add_lit,hWc,World.cell?_setCells_out _ _ _ _ _ (fun h _=>absurd h hbN)]
    exact hOb _ v (hcs (i+j) v (by rwa [List.getElem?_drop] at hj)))
   (fun j hj=>by rw[hWc];exact isSome_setCells w.heap.size vs (i) W1 (fun t ht=>hN _ (by omega)) _ (hN _ (by omega)))
   (fun j hj=>by rw[hWf,World.frozen?_setCells];exact hNf _) (fun v hv=>h1c v (List.mem_of_mem_drop hv))
 subst hW1
 have hE1: ∀x,((w.alloc (.cells ROW 58)).drew).cell? x=(w.drew.alloc (.cells ROW 58)).cell? x:=fun x=>rfl
 have hE2: ∀x,((w.alloc (.cells ROW 58)).drew).frozen? x=(w.drew.alloc (.cells ROW 58)).frozen? x:=fun x=>rfl
 have hF1: ∀x,(((w.alloc (.cells ROW 58)).drew.setCells w.heap.size (i) vs).drew).cell? x=((w.drew.alloc (.cells ROW 58)).setCells w.heap.size (i) vs).cell? x:=fun x=>rfl
 have hF2: ∀x,(((w.alloc (.cells ROW 58)).drew.setCells w.heap.size (i) vs).drew).frozen? x=((w.drew.alloc (.cells ROW 58)).setCells w.heap.size (i) vs).frozen? x:=fun x=>rfl
 have hw1:IntKind.i64.wrap ((i:Int)+1)=(i:Int)+1:=by rw[IntKind.wrap_i64];omega
 have hb1:(0:Int)≤(i:Int)+1:=by omega
 have hin:i≤n:=by omega
 have htn:((i:Int)+1).toNat=i+1:=by omega
 have hb3:(i:Int)≤(n:Int):=by omega
 clear hkk hik hold hROW hG hRl hi0 hz0 hzs hzb
 go_enter Tryz.func277,Tryz.ntmps277
 go_wp2_with (first
  |(at_builtin;refine Lib.wpList_append_run _ rfl _ _ _ _ rfl _ _ rfl rfl _ _ (hrz _) ?_)
  |(at_builtin;refine wpList_copy_runI _ rfl _ _ 177 177 rfl _ _ rfl rfl (hcpA _ hE1 hE2 _ _) ?_)
  |(at_builtin;refine wpList_copy_runI _ rfl _ _ 177 177 rfl _ _ rfl rfl (hcpB _ (fun _=>rfl) (fun _=>rfl) _ _ _) ?_))
 go_region_law_o (refine step_copy_runI rfl _ _ 177 177 rfl (.slice (some ⟨w.heap.size,(i+1),none⟩) (n-i) (G- (i+1))) (.slice (some ⟨b,i,none⟩) (n-i) (c-i)) (by simp[Act.eval,Act.put]) (by simp[Act.eval,Act.put]) (hcpB _ hF1 hF2 3 (G- (i+1)) (c-i)) ?_)
 go_wp2
 go_ret
 exact ⟨rfl,rfl⟩
theorem rawIns_Row:RawIns Tryz.prog 277 58 1 24:=
 rawIns_of (.agg #[.slice none 0 0]:Value) (by decide) (by decide) (by kernel_rfl) (fun b n c vb vc vs w=>by simpa only[Nat.mul_one] using insA_Row b n c vb vc vs w) (fun base n c vb vc cs vs w=>by simpa only[Nat.mul_one] using insB_Row base n c vb vc cs vs w) (fun b n c i vb vc cs vs w=>by simpa only[Nat.mul_one] using insC_Row b n c i vb vc cs vs w) (fun b n c i vb vc cs vs w=>by simpa only[Nat.mul_one] using insD_Row b n c i vb vc cs vs w)
end Go.Proofs.YtanlbohhmoifcaaGreat
namespace Go.Proofs.YtanlbohhmoifcaaGreat
open Go Go.Proofs Go.Sm Go.RowKit Go.Lib
set_option linter.unusedVariables false
set_option linter.unusedSimpArgs false
set_option maxRecDepth 100000 in
theorem delA_Rows (b n c i:Nat) (news:List Value) (w:World) (hin:i<n) (hnc:n≤c) (hc63:c≤9223372036854775807) (hlen:news.length=(n- (i+1))*1)
  (hcs0: ∀j v,news[j]? =some v→w.cell? ⟨b,(i+1)*1+j,none⟩=some v) (h1c: ∀v∈news,v.oneCell'=true) (hsp: ∀j,j<n*1→(w.cell? ⟨b,j,none⟩).isSome=true) (hfz: ∀j,w.frozen? ⟨b,j,none⟩=false):
  Calls Tryz.prog 248 #[.slice (some ⟨b,0,none⟩) n c,.int .i64 i,.int .i64 ((i+1:Nat):Int)] w fun e w'=>e= .returned (.slice (some ⟨b,0,none⟩) (n-1) c)∧w'=(w.drew.setCells b (i*1) news).setCells b ((n-1)*1) (.agg #[.slice none 0 0]:Value).cells.toList:=by
 have tS:Tryz.prog.underlying 71=some (.slice 179):=by kernel_rfl
 have t3:Tryz.prog.underlying 3=some (.int .i64):=by kernel_rfl
 have t4:Tryz.prog.underlying 4=some .bool:=by kernel_rfl
 have uS:=run_underlying tS;have u3:=run_underlying t3;have u4:=run_underlying t4
 obtain ⟨i0,hi0,hz0,hzs,hzb⟩:=info_parts (show (Tryz.prog.info? 179).map (fun i=>(i.zero,i.size,i.bytes))=some (some (.agg #[.slice none 0 0]:Value),1,24) by kernel_rfl)
 have zE: ∀w,(Go.sizeOf 179).run Tryz.prog w= .ok 1 w:=fun w=>by simp[Go.sizeOf,typeInfo,hi0,hzs]
 have zV: ∀w,(zeroValue 179).run Tryz.prog w= .ok (.agg #[.slice none 0 0]:Value) w:=fun w=>by simp[zeroValue,typeInfo,hi0,hz0]
 have mixed:=hm
 have hcs: ∀j v,news[j]? =some v→w.cell? ⟨b,i+1+j,none⟩=some v:=fun j v h=>by have:=hcs0 j v h;rwa [show (i+1)*1=i+1 by omega] at this
 have hzc:(.agg #[.slice none 0 0]:Value).cells.size=1:=by kernel_rfl
 have hb0:(0:Int)≤(i:Int)+1:=by omega
 have hb1:(i:Int)+1≤(n:Int):=by omega
 have htn:((i:Int)+1).toNat=i+1:=by omega
 have hne: ¬((i:Int)=(i:Int)+1):=by omega
 obtain ⟨A,hA,hsrc⟩: ∃A:Addr,(if c=i+1 then (some ⟨b,0,none⟩:Option Addr) else some ⟨b,i+1,none⟩)=some A∧Hid (∀t u,news[t]? =some u→w.drew.cell? (A.add t)=some u):=by
  by_cases h:c=i+1
  ·refine ⟨⟨b,0,none⟩,by simp[h],fun t u hu=> ?_⟩
   have h0:news.length=0:=by rw[hlen,show n- (i+1)=0 by omega,Nat.zero_mul]
   rw[List.length_eq_zero_iff.1 h0] at hu
   simp at hu
  ·refine ⟨⟨b,i+1,none⟩,by simp[h],fun t u hu=> ?_⟩
   rw[Addr.add_lit]
   exact hcs t u (by simpa using hu)
 have s1:Hid (news.length=(n- (i+1))*1):=hlen
 have s2:Hid (∀u∈news,u.oneCell'=true):=h1c
 have hnl:news.length+i*1+1=n*1:=by rw[hlen,Nat.sub_mul,Nat.add_mul];have:(i+1)*1≤n*1:=Nat.mul_le_mul_right _ hin;omega
 have s3:Hid (∀t,t<news.length→(w.drew.cell? ⟨b,0+i*1+t,none⟩).isSome=true∧w.drew.frozen? ⟨b,0+i*1+t,none⟩=false):=by
  intro t ht
  rw[Nat.zero_add]
  exact ⟨hsp _ (by omega),hfz _⟩
 obtain ⟨W1,hW1⟩: ∃W1,W1=w.drew.setCells b (0+i*1) news:=⟨_,rfl⟩
 have hn1:n-1=i+(n- (i+1)):=by omega
 have hcl: ∀ty,(Builtin.clear_ #[71] ty #[.slice (some ⟨b,i+(n- (i+1)),none⟩) (n- (i+(n- (i+1)))) (c- (i+(n- (i+1))))]).run Tryz.prog W1= .ok (.tuple #[]) (W1.setCells b (i+(n- (i+1))) (.agg #[.slice none 0 0]:Value).cells.toList):=fun ty=>by
  rw[show n- (i+(n- (i+1)))=1 by omega]
  exact run_clear1 tS zV b (i+(n- (i+1))) _ W1 (fun j hj=>by
   rw[hzc] at hj
   rw[hW1]
   exact isSome_setCells b news (0+i*1) w.drew (fun t ht=>(s3.out t ht).1) _ (hsp _ (by have:=mulLt (show n-1<n by omega) hj;omega))) (fun j hj=>by rw[hW1,World.frozen?_setCells];exact hfz _) (by decide) ty
 have hW:Hid (W1=w.drew.setCells b (0+i*1) news):=hW1
 have hic:i≤c:=by omega
 have hjc:i+1≤c:=by omega
 have hzero:(0:Nat)+i*1=i*1:=Nat.zero_add _
 rw[hn1,show (i+(n- (i+1)))*1=i+(n- (i+1)) by omega]
 clear hW1 hzc hnl hsp hfz hcs hcs0 hlen h1c hz0 hzb
 go_enter Tryz.func248,Tryz.ntmps248
 go_wp2_with fail
 go_region_law_o (refine step_append_room rfl (.tmp 22) (.tmp 25) 71 rfl 179 i0 1 tS hi0 hzs b 0 i c (by simp[Act.eval,Act.put]) A (n- (i+1)) (c- (i+1)) news (by simp[Act.eval,Act.put]) s1.out hsrc.out s2.out (by omega) s3.out ?_;rw[←hW.out])
 go_wp2
 go_ret
 refine ⟨rfl, ?_⟩
 rw[hW.out,hzero]
 rfl
theorem rawDel_Rows:RawDel Tryz.prog 248 179 1:=rawDel_of (.agg #[.slice none 0 0]:Value) (by decide) (by kernel_rfl) (fun b n c i news w=>delA_Rows b n c i news w)
set_option maxRecDepth 100000 in
theorem delA_Row (b n c i:Nat) (news:List Value) (w:World) (hin:i<n) (hnc:n≤c) (hc63:c≤9223372036854775807) (hlen:news.length=(n- (i+1))*1)
  (hcs0: ∀j v,news[j]? =some v→w.cell? ⟨b,(i+1)*1+j,none⟩=some v) (h1c: ∀v∈news,v.oneCell'=true) (hsp: ∀j,j<n*1→(w.cell? ⟨b,j,none⟩).isSome=true) (hfz: ∀j,w.frozen? ⟨b,j,none⟩=false):
  Calls Tryz.prog 254 #[.slice (some ⟨b,0,none⟩) n c,.int .i64 i,.int .i64 ((i+1:Nat):Int)] w fun e w'=>e= .returned (.slice (some ⟨b,0,none⟩) (n-1) c)∧w'=(w.drew.setCells b (i*1) news).setCells b ((n-1)*1) (.agg #[.slice none 0 0]:Value).cells.toList:=by
 have tS:Tryz.prog.underlying 177=some (.slice 58):=by kernel_rfl
 have t3:Tryz.prog.underlying 3=some (.int .i64):=by kernel_rfl
 have t4:Tryz.prog.underlying 4=some .bool:=by kernel_rfl
 have uS:=run_underlying tS;have u3:=run_underlying t3;have u4:=run_underlying t4
 obtain ⟨i0,hi0,hz0,hzs,hzb⟩:=info_parts (show (Tryz.prog.info? 58).map (fun i=>(i.zero,i.size,i.bytes))=some (some (.agg #[.slice none 0 0]:Value),1,24) by kernel_rfl)
 have zE: ∀w,(Go.sizeOf 58).run Tryz.prog w= .ok 1 w:=fun w=>by simp[Go.sizeOf,typeInfo,hi0,hzs]
 have zV: ∀w,(zeroValue 58).run Tryz.prog w= .ok (.agg #[.slice none 0 0]:Value) w:=fun w=>by simp[zeroValue,typeInfo,hi0,hz0]
 have mixed:=hm
 have hcs: ∀j v,news[j]? =some v→w.cell? ⟨b,i+1+j,none⟩=some v:=fun j v h=>by have:=hcs0 j v h;rwa [show (i+1)*1=i+1 by omega] at this
 have hzc:(.agg #[.slice none 0 0]:Value).cells.size=1:=by kernel_rfl
 have hb0:(0:Int)≤(i:Int)+1:=by omega
 have hb1:(i:Int)+1≤(n:Int):=by omega
 have htn:((i:Int)+1).toNat=i+1:=by omega
 have hne: ¬((i:Int)=(i:Int)+1):=by omega
 obtain ⟨A,hA,hsrc⟩: ∃A:Addr,(if c=i+1 then (some ⟨b,0,none⟩:Option Addr) else some ⟨b,i+1,none⟩)=some A∧Hid (∀t u,news[t]? =some u→w.drew.cell? (A.add t)=some u):=by
  by_cases h:c=i+1
  ·refine ⟨⟨b,0,none⟩,by simp[h],fun t u hu=> ?_⟩
   have h0:news.length=0:=by rw[hlen,show n- (i+1)=0 by omega,Nat.zero_mul]
   rw[List.length_eq_zero_iff.1 h0] at hu
   simp at hu
  ·refine ⟨⟨b,i+1,none⟩,by simp[h],fun t u hu=> ?_⟩
   rw[Addr.add_lit]
   exact hcs t u (by simpa using hu)
 have s1:Hid (news.length=(n- (i+1))*1):=hlen
 have s2:Hid (∀u∈news,u.oneCell'=true):=h1c
 have hnl:news.length+i*1+1=n*1:=by rw[hlen,Nat.sub_mul,Nat.add_mul];have:(i+1)*1≤n*1:=Nat.mul_le_mul_right _ hin;omega
 have s3:Hid (∀t,t<news.length→(w.drew.cell? ⟨b,0+i*1+t,none⟩).isSome=true∧w.drew.frozen? ⟨b,0+i*1+t,none⟩=false):=by
  intro t ht
  rw[Nat.zero_add]
  exact ⟨hsp _ (by omega),hfz _⟩
 obtain ⟨W1,hW1⟩: ∃W1,W1=w.drew.setCells b (0+i*1) news:=⟨_,rfl⟩
 have hn1:n-1=i+(n- (i+1)):=by omega
 have hcl: ∀ty,(Builtin.clear_ #[177] ty #[.slice (some ⟨b,i+(n- (i+1)),none⟩) (n- (i+(n- (i+1)))) (c- (i+(n- (i+1))))]).run Tryz.prog W1= .ok (.tuple #[]) (W1.setCells b (i+(n- (i+1))) (.agg #[.slice none 0 0]:Value).cells.toList):=fun ty=>by
  rw[show n- (i+(n- (i+1)))=1 by omega]
  exact run_clear1 tS zV b (i+(n- (i+1))) _ W1 (fun j hj=>by
   rw[hzc] at hj
   rw[hW1]
   exact isSome_setCells b news (0+i*1) w.drew (fun t ht=>(s3.out t ht).1) _ (hsp _ (by have:=mulLt (show n-1<n by omega) hj;omega))) (fun j hj=>by rw[hW1,World.frozen?_setCells];exact hfz _) (by decide) ty
 have hW:Hid (W1=w.drew.setCells b (0+i*1) news):=hW1
 have hic:i≤c:=by omega
 have hjc:i+1≤c:=by omega
 have hzero:(0:Nat)+i*1=i*1:=Nat.zero_add _
 rw[hn1,show (i+(n- (i+1)))*1=i+(n- (i+1)) by omega]
 clear hW1 hzc hnl hsp hfz hcs hcs0 hlen h1c hz0 hzb
 go_enter Tryz.func254,Tryz.ntmps254
 go_wp2_with fail
 go_region_law_o (refine step_append_room rfl (.tmp 22) (.tmp 25) 177 rfl 58 i0 1 tS hi0 hzs b 0 i c (by simp[Act.eval,Act.put]) A (n- (i+1)) (c- (i+1)) news (by simp[Act.eval,Act.put]) s1.out hsrc.out s2.out (by omega) s3.out ?_;rw[←hW.out])
 go_wp2
 go_ret
 refine ⟨rfl, ?_⟩
 rw[hW.out,hzero]
 rfl
theorem rawDel_Row:RawDel Tryz.prog 254 58 1:=rawDel_of (.agg #[.slice none 0 0]:Value) (by decide) (by kernel_rfl) (fun b n c i news w=>delA_Row b n c i news w)
set_option maxRecDepth 100000 in
theorem delA_Table (b n c i:Nat) (news:List Value) (w:World) (hin:i<n) (hnc:n≤c) (hc63:c≤9223372036854775807) (hlen:news.length=(n- (i+1))*3)
  (hcs0: ∀j v,news[j]? =some v→w.cell? ⟨b,(i+1)*3+j,none⟩=some v) (h1c: ∀v∈news,v.oneCell'=true) (hsp: ∀j,j<n*3→(w.cell? ⟨b,j,none⟩).isSome=true) (hfz: ∀j,w.frozen? ⟨b,j,none⟩=false):
  Calls Tryz.prog 268 #[.slice (some ⟨b,0,none⟩) n c,.int .i64 i,.int .i64 ((i+1:Nat):Int)] w fun e w'=>e= .returned (.slice (some ⟨b,0,none⟩) (n-1) c)∧w'=(w.drew.setCells b (i*3) news).setCells b ((n-1)*3) (.agg #[.string ⟨#[]⟩,.slice none 0 0,.slice none 0 0]:Value).cells.toList:=by
 have tS:Tryz.prog.underlying 68=some (.slice 202):=by kernel_rfl
 have t3:Tryz.prog.underlying 3=some (.int .i64):=by kernel_rfl
 have t4:Tryz.prog.underlying 4=some .bool:=by kernel_rfl
 have uS:=run_underlying tS;have u3:=run_underlying t3;have u4:=run_underlying t4
 obtain ⟨i0,hi0,hz0,hzs,hzb⟩:=info_parts (show (Tryz.prog.info? 202).map (fun i=>(i.zero,i.size,i.bytes))=some (some (.agg #[.string ⟨#[]⟩,.slice none 0 0,.slice none 0 0]:Value),3,64) by kernel_rfl)
 have zE: ∀w,(Go.sizeOf 202).run Tryz.prog w= .ok 3 w:=fun w=>by simp[Go.sizeOf,typeInfo,hi0,hzs]
 have zV: ∀w,(zeroValue 202).run Tryz.prog w= .ok (.agg #[.string ⟨#[]⟩,.slice none 0 0,.slice none 0 0]:Value) w:=fun w=>by simp[zeroValue,typeInfo,hi0,hz0]
 have mixed:=hm
 have hcs: ∀j v,news[j]? =some v→w.cell? ⟨b,(i+1)*3+j,none⟩=some v:=fun j v h=>by have:=hcs0 j v h;rwa [show (i+1)*3=(i+1)*3 by omega] at this
 have hzc:(.agg #[.string ⟨#[]⟩,.slice none 0 0,.slice none 0 0]:Value).cells.size=3:=by kernel_rfl
 have hb0:(0:Int)≤(i:Int)+1:=by omega
 have hb1:(i:Int)+1≤(n:Int):=by omega
 have htn:((i:Int)+1).toNat=i+1:=by omega
 have hne: ¬((i:Int)=(i:Int)+1):=by omega
 obtain ⟨A,hA,hsrc⟩: ∃A:Addr,(if c=i+1 then (some ⟨b,0,none⟩:Option Addr) else some ⟨b,(i+1)*3,none⟩)=some A∧Hid (∀t u,news[t]? =some u→w.drew.cell? (A.add t)=some u):=by
  by_cases h:c=i+1
  ·refine ⟨⟨b,0,none⟩,by simp[h],fun t u hu=> ?_⟩
   have h0:news.length=0:=by rw[hlen,show n- (i+1)=0 by omega,Nat.zero_mul]
   rw[List.length_eq_zero_iff.1 h0] at hu
   simp at hu
  ·refine ⟨⟨b,(i+1)*3,none⟩,by simp[h],fun t u hu=> ?_⟩
   rw[Addr.add_lit]
   exact hcs t u (by simpa using hu)
 have s1:Hid (news.length=(n- (i+1))*3):=hlen
 have s2:Hid (∀u∈news,u.oneCell'=true):=h1c
 have hnl:news.length+i*3+3=n*3:=by rw[hlen,Nat.sub_mul,Nat.add_mul];have:(i+1)*3≤n*3:=Nat.mul_le_mul_right _ hin;omega
 have s3:Hid (∀t,t<news.length→(w.drew.cell? ⟨b,0+i*3+t,none⟩).isSome=true∧w.drew.frozen? ⟨b,0+i*3+t,none⟩=false):=by
  intro t ht
  rw[Nat.zero_add]
  exact ⟨hsp _ (by omega),hfz _⟩
 obtain ⟨W1,hW1⟩: ∃W1,W1=w.drew.setCells b (0+i*3) news:=⟨_,rfl⟩
 have hn1:n-1=i+(n- (i+1)):=by omega
 have hcl: ∀ty,(Builtin.clear_ #[68] ty #[.slice (some ⟨b,(i+(n- (i+1)))*3,none⟩) (n- (i+(n- (i+1)))) (c- (i+(n- (i+1))))]).run Tryz.prog W1= .ok (.tuple #[]) (W1.setCells b ((i+(n- (i+1)))*3) (.agg #[.string ⟨#[]⟩,.slice none 0 0,.slice none 0 0]:Value).cells.toList):=fun ty=>by
  rw[show n- (i+(n- (i+1)))=1 by omega]
  exact run_clear1 tS zV b ((i+(n- (i+1)))*3) _ W1 (fun j hj=>by
   rw[hzc] at hj
   rw[hW1]
   exact isSome_setCells b news (0+i*3) w.drew (fun t ht=>(s3.out t ht).1) _ (hsp _ (by have:=mulLt (show n-1<n by omega) hj;omega))) (fun j hj=>by rw[hW1,World.frozen?_setCells];exact hfz _) (by decide) ty
 have hW:Hid (W1=w.drew.setCells b (0+i*3) news):=hW1
 have hic:i≤c:=by omega
 have hjc:i+1≤c:=by omega
 have hzero:(0:Nat)+i*3=i*3:=Nat.zero_add _
 rw[hn1,show (i+(n- (i+1)))*3=(i+(n- (i+1)))*3 by omega]
 clear hW1 hzc hnl hsp hfz hcs hcs0 hlen h1c hz0 hzb
 go_enter Tryz.func268,Tryz.ntmps268
 go_wp2_with fail
 go_region_law_o (refine step_append_room rfl (.tmp 22) (.tmp 25) 68 rfl 202 i0 3 tS hi0 hzs b 0 i c (by simp[Act.eval,Act.put]) A (n- (i+1)) (c- (i+1)) news (by simp[Act.eval,Act.put]) s1.out hsrc.out s2.out (by omega) s3.out ?_;rw[←hW.out])
 go_wp2
 go_ret
 refine ⟨rfl, ?_⟩
 rw[hW.out,hzero]
 rfl
theorem rawDel_Table:RawDel Tryz.prog 268 202 3:=rawDel_of (.agg #[.string ⟨#[]⟩,.slice none 0 0,.slice none 0 0]:Value) (by decide) (by kernel_rfl) (fun b n c i news w=>delA_Table b n c i news w)
set_option maxRecDepth 100000 in
theorem delA_Val (b n c i:Nat) (news:List Value) (w:World) (hin:i<n) (hnc:n≤c) (hc63:c≤9223372036854775807) (hlen:news.length=(n- (i+1))*3)
  (hcs0: ∀j v,news[j]? =some v→w.cell? ⟨b,(i+1)*3+j,none⟩=some v) (h1c: ∀v∈news,v.oneCell'=true) (hsp: ∀j,j<n*3→(w.cell? ⟨b,j,none⟩).isSome=true) (hfz: ∀j,w.frozen? ⟨b,j,none⟩=false):
  Calls Tryz.prog 274 #[.slice (some ⟨b,0,none⟩) n c,.int .i64 i,.int .i64 ((i+1:Nat):Int)] w fun e w'=>e= .returned (.slice (some ⟨b,0,none⟩) (n-1) c)∧w'=(w.drew.setCells b (i*3) news).setCells b ((n-1)*3) (.agg #[.int .i64 0,.int .i64 0,.string ⟨#[]⟩]:Value).cells.toList:=by
 have tS:Tryz.prog.underlying 56=some (.slice 152):=by kernel_rfl
 have t3:Tryz.prog.underlying 3=some (.int .i64):=by kernel_rfl
 have t4:Tryz.prog.underlying 4=some .bool:=by kernel_rfl
 have uS:=run_underlying tS;have u3:=run_underlying t3;have u4:=run_underlying t4
 obtain ⟨i0,hi0,hz0,hzs,hzb⟩:=info_parts (show (Tryz.prog.info? 152).map (fun i=>(i.zero,i.size,i.bytes))=some (some (.agg #[.int .i64 0,.int .i64 0,.string ⟨#[]⟩]:Value),3,32) by kernel_rfl)
 have zE: ∀w,(Go.sizeOf 152).run Tryz.prog w= .ok 3 w:=fun w=>by simp[Go.sizeOf,typeInfo,hi0,hzs]
 have zV: ∀w,(zeroValue 152).run Tryz.prog w= .ok (.agg #[.int .i64 0,.int .i64 0,.string ⟨#[]⟩]:Value) w:=fun w=>by simp[zeroValue,typeInfo,hi0,hz0]
 have mixed:=hm
 have hcs: ∀j v,news[j]? =some v→w.cell? ⟨b,(i+1)*3+j,none⟩=some v:=fun j v h=>by have:=hcs0 j v h;rwa [show (i+1)*3=(i+1)*3 by omega] at this
 have hzc:(.agg #[.int .i64 0,.int .i64 0,.string ⟨#[]⟩]:Value).cells.size=3:=by kernel_rfl
 have hb0:(0:Int)≤(i:Int)+1:=by omega
 have hb1:(i:Int)+1≤(n:Int):=by omega
 have htn:((i:Int)+1).toNat=i+1:=by omega
 have hne: ¬((i:Int)=(i:Int)+1):=by omega
 obtain ⟨A,hA,hsrc⟩: ∃A:Addr,(if c=i+1 then (some ⟨b,0,none⟩:Option Addr) else some ⟨b,(i+1)*3,none⟩)=some A∧Hid (∀t u,news[t]? =some u→w.drew.cell? (A.add t)=some u):=by
  by_cases h:c=i+1
  ·refine ⟨⟨b,0,none⟩,by simp[h],fun t u hu=> ?_⟩
   have h0:news.length=0:=by rw[hlen,show n- (i+1)=0 by omega,Nat.zero_mul]
   rw[List.length_eq_zero_iff.1 h0] at hu
   simp at hu
  ·refine ⟨⟨b,(i+1)*3,none⟩,by simp[h],fun t u hu=> ?_⟩
   rw[Addr.add_lit]
   exact hcs t u (by simpa using hu)
 have s1:Hid (news.length=(n- (i+1))*3):=hlen
 have s2:Hid (∀u∈news,u.oneCell'=true):=h1c
 have hnl:news.length+i*3+3=n*3:=by rw[hlen,Nat.sub_mul,Nat.add_mul];have:(i+1)*3≤n*3:=Nat.mul_le_mul_right _ hin;omega
 have s3:Hid (∀t,t<news.length→(w.drew.cell? ⟨b,0+i*3+t,none⟩).isSome=true∧w.drew.frozen? ⟨b,0+i*3+t,none⟩=false):=by
  intro t ht
  rw[Nat.zero_add]
  exact ⟨hsp _ (by omega),hfz _⟩
 obtain ⟨W1,hW1⟩: ∃W1,W1=w.drew.setCells b (0+i*3) news:=⟨_,rfl⟩
 have hn1:n-1=i+(n- (i+1)):=by omega
 have hcl: ∀ty,(Builtin.clear_ #[56] ty #[.slice (some ⟨b,(i+(n- (i+1)))*3,none⟩) (n- (i+(n- (i+1)))) (c- (i+(n- (i+1))))]).run Tryz.prog W1= .ok (.tuple #[]) (W1.setCells b ((i+(n- (i+1)))*3) (.agg #[.int .i64 0,.int .i64 0,.string ⟨#[]⟩]:Value).cells.toList):=fun ty=>by
  rw[show n- (i+(n- (i+1)))=1 by omega]
  exact run_clear1 tS zV b ((i+(n- (i+1)))*3) _ W1 (fun j hj=>by
   rw[hzc] at hj
   rw[hW1]
   exact isSome_setCells b news (0+i*3) w.drew (fun t ht=>(s3.out t ht).1) _ (hsp _ (by have:=mulLt (show n-1<n by omega) hj;omega))) (fun j hj=>by rw[hW1,World.frozen?_setCells];exact hfz _) (by decide) ty
 have hW:Hid (W1=w.drew.setCells b (0+i*3) news):=hW1
 have hic:i≤c:=by omega
 have hjc:i+1≤c:=by omega
 have hzero:(0:Nat)+i*3=i*3:=Nat.zero_add _
 rw[hn1,show (i+(n- (i+1)))*3=(i+(n- (i+1)))*3 by omega]
 clear hW1 hzc hnl hsp hfz hcs hcs0 hlen h1c hz0 hzb
 go_enter Tryz.func274,Tryz.ntmps274
 go_wp2_with fail
 go_region_law_o (refine step_append_room rfl (.tmp 22) (.tmp 25) 56 rfl 152 i0 3 tS hi0 hzs b 0 i c (by simp[Act.eval,Act.put]) A (n- (i+1)) (c- (i+1)) news (by simp[Act.eval,Act.put]) s1.out hsrc.out s2.out (by omega) s3.out ?_;rw[←hW.out])
 go_wp2
 go_ret
 refine ⟨rfl, ?_⟩
 rw[hW.out,hzero]
 rfl
theorem rawDel_Val:RawDel Tryz.prog 274 152 3:=rawDel_of (.agg #[.int .i64 0,.int .i64 0,.string ⟨#[]⟩]:Value) (by decide) (by kernel_rfl) (fun b n c i news w=>delA_Val b n c i news w)
end Go.Proofs.YtanlbohhmoifcaaGreat
namespace Go.Proofs.YtanlbohhmoifcaaGreat
open Go Go.Proofs Go.Sm
attribute [local simp] ti eStr eInt eByte eVal vVal eCol vCol vColS vStrS eTable cTable vTable vTableS cCat vCat eValS vValS eRow cRow vRow vRowS eRows vRowsS cDb vDb eDdl cDdl vDdl eStmt cStmt vStmt eRec vRec eSlot vSlot eRecS vRecS eSlotS vSlotS vStmtS
set_option linter.unusedVariables false
set_option linter.unusedSimpArgs false
theorem equalVal_ok (a b:List GVal) (ha:okM a.length):VC Tryz.prog 253 [vValS a,vValS b] [(false,[(.s,.sc (.bool (eqRows veq dVal a b)))])]:=by
 unfold okM at ha
 refine vc_of_ew good hm [0,1,4,10,12,13,14,5,24] Tryz.func253 rfl (by kernel_rfl) (by kernel_rfl) rfl ?_
 simp[Tryz.f253]
 refine ⟨fun h=>by simp[eqRows,h],fun hl=> ?_⟩
 refine ew_loop (fun E=> ∃i:Nat,i≤a.length∧eqTo veq dVal a b i=true∧E= {nt:=26,sl:= [(0,vValS a),(1,vValS b),(12,int .i64 a.length),(13,int .i64 i)],bx:= [],rt:= []}) (fun E=>a.length- (E.num 13).toNat) _ (Gh.kb _ [0,1,12,13] [] []) ⟨0,by omega,by simp[eqTo],by simp⟩ ?_
 rintro E1 ⟨i,hi,hall,rfl⟩
 simp
 have hat:veq (a[i]?.getD dVal) (b[i]?.getD dVal)=((a[i]?.getD dVal).fTy==(b[i]?.getD dVal).fTy&& ((a[i]?.getD dVal).fN==(b[i]?.getD dVal).fN&& (a[i]?.getD dVal).fS.toList==(b[i]?.getD dVal).fS.toList)):=rfl
 refine ⟨fun h=>⟨h,by omega, ?_⟩,fun h=> ?_⟩
 ·refine ⟨fun hb=> ?_,fun h1 h2 h3=> .of _ (Gh.kb _ [0,1,12,13] [] []) ⟨i+1,by omega,by rw[eqTo_succ,hall,hat];simp[h1,h2,h3], ?_⟩ ?_⟩
  ·have:=eqTo_no (eq:=veq) (d:=dVal) (a:=a) (b:=b) h (by rw[hat];grind)
   simp[eqRows,this]
  ·simp[wrapS (show i<9223372036854775807 by omega)]
  ·simp[wrapS (show i<9223372036854775807 by omega)];omega
 ·have:i=a.length:=by omega
  subst this
  simp[eqRows,hall,hl]
theorem rowAt1_ok (t:GTable) (key:List GVal) (r:GRow) (ht:okTable t) (hk:t.fKeys.length≤1048576) (hin:keysIn t r):VC Tryz.prog 276 [vRow r,.p (.ps (eTable t)),.p (.ps (eValS key))] [(false,[(.s,.sc (.bool (eqRows veq dVal (keyOf t r) key)))])]:=by
 refine vc_of_ew good hm [0,1,2,3,4] Tryz.func276 rfl (by kernel_rfl) (by kernel_rfl) rfl ?_
 simp[Tryz.f276,eValS]
 refine .of (keyI_ok t r ht hk hin) ?_
 simp[mValS]
 refine .of (equalVal_ok (keyOf t r) key (by rw[keyOf_len];unfold okM;omega)) ?_
 simp
theorem rowAt_ok (t:GTable) (l:List GRow) (key:List GVal) (ht:okTable t) (hk:t.fKeys.length≤1048576) (hl:okM l.length) (hin: ∀r∈l,keysIn t r):VC Tryz.prog 250 [vTable t,vRowS l,vValS key] [(false,[(.s,.sc (.int .i64 (keyAt t l key)))])]:=by
 refine vc_of_ew good hm [0,1,2,3,5,6] Tryz.func250 rfl (by kernel_rfl) (by kernel_rfl) rfl ?_
 simp[Tryz.f250]
 refine .of (idxRow2_ok l _ _ _ (fun r=>eqRows veq dVal (keyOf t r) key) hl (fun x hx=>rowAt1_ok t key x ht hk (hin x hx))) ?_
 simp[keyAt]
theorem take_row {α:Type} {l:List α} {i:Nat} (d:α) (h:i<l.length):l.take (i+1)=l.take i++ [l[i]?.getD d]:=by
 rw[List.take_succ_eq_append_getElem h,List.getElem?_eq_getElem h]
 rfl
theorem take_rowM {α β:Type} {f:α→β} {l:List α} {i:Nat} (d:α) (h:i<l.length):(l.map f).take (i+1)=(l.map f).take i++ [f (l[i]?.getD d)]:=by
 rw[←List.map_take,take_row d h,List.map_append,List.map_take]
 rfl
theorem copyRows_ok (l:List GRow) (hl:l.length≤1048576) (hb: ∀r∈l,r.fVals.length≤1048576):VC Tryz.prog 144 [vRowS l] [(false,mRowS l)]:=by
 refine vc_of_ew good hm [0,2,3,6,7,8,9,5] Tryz.func144 rfl (by kernel_rfl) (by kernel_rfl) rfl ?_
 simp[Tryz.f144,mRowS]
 refine ew_loop (fun E=> ∃i:Nat,i≤l.length∧E= {nt:=21,sl:= [(3,.v false [.r [990]]),(6,vRowS l),(7,int .i64 l.length),(8,int .i64 i)],bx:= [],rt:=(mRowS (l.take i)).map fun y=>(990,y)}) (fun E=>l.length- (E.num 8).toNat) _ ((Gh.nlS _ 3 0 990 58 (fun _=> [.o 152 (fun _=> [.s,.s,.s])]) [.ls [.sc (.int .i64 0),.sc (.int .i64 0),.sc (.string ⟨#[]⟩)] []]).trans (Gh.kb _ [3,6,7,8] [] [990])) ⟨0,by omega,by simp[mRowS]⟩ ?_
 rintro E1 ⟨i,hi,rfl⟩
 simp[mRowS]
 refine ⟨fun h=>⟨h,.of (copyVals_ok _ (hb _ (getD_mem dRow h))) ?_⟩,fun h=> ?_⟩
 ·simp[mValS]
  refine ⟨by omega,.of _ ((Gh.kb _ [3,6,7,8] [] [18]).trans (Gh.rn _ 18 990)) ⟨i+1,by omega, ?_⟩ ?_⟩
  ·rw[take_rowM dRow h]
   simp[wrapS (show i<9223372036854775807 by omega),mRowS]
  ·simp[wrapS (show i<9223372036854775807 by omega)];omega
 ·have:i=l.length:=by omega
  subst this
  rw[←List.map_take,List.take_length]
theorem colsI_const (i:Nat) (c:List Md):colsI i (fun _=>c) (fun _=>c)=fun _=>c:=by
 funext k
 simp[colsI]
theorem colsD_const (i:Nat) (c:List Md):colsD i (fun _=>c)=fun _=>c:=by
 funext k
 simp[colsD]
theorem rowFit_len {t:GTable} {r:GRow} (h:rowFit t r=true):r.fVals.length=t.fCols.length:=((rowFit_iff t r).1 h).1
theorem tableOk_len {t:GTable} (h:tableOk t=true):t.fCols.length≤8∧t.fKeys.length≤8:=by
 rw[tableOk_iff] at h
 have:=h.2.2.2.2.2.2.1.length_le
 simp only[cnm,List.length_map] at this
 omega
theorem rowsOk_inv {t:GTable} {l:List GRow} (h:rowsOk t l=true):tableOk t=true∧l.length≤60∧(∀x∈l,rowFit t x=true)∧(∀x∈l,keysIn t x)∧(∀x∈l,x.fVals.length≤1048576):=by
 have h0:=h
 rw[rowsOk_iff] at h
 exact ⟨h.1,h.2.1,h.2.2.1,fun x hx=>tableOk_keys h.1 (h.2.2.1 x hx),fun x hx=>by have:=(rowsOk_ok h0).2.2 x hx;omega⟩
theorem placed_ok (t:GTable) (l:List GRow) (r:GRow) (ht:okTable t) (hto:tableOk t=true) (hl:l.length≤60) (hf: ∀x∈l,rowFit t x=true) (hr:rowFit t r=true):VC Tryz.prog 251 [vTable t,vRowS l,vRow r] [(false,mRowS (insW (fun x=>rowLt t x r) r l))]:=by
 have htl:=tableOk_len hto
 have hk:t.fKeys.length≤1048576:=by omega
 have hrl:=rowFit_len hr
 refine vc_of_ew good hm [0,1,2,3,5,6,7,23] Tryz.func251 rfl (by kernel_rfl) (by kernel_rfl) rfl ?_
 simp[Tryz.f251,mRowS]
 refine ew_loop (fun E=> ∃i:Nat,i≤(l.takeWhile (fun x=>rowLt t x r)).length∧E= {nt:=35,sl:= [(1,vRowS l),(3,.p (.bx 3 0)),(5,.p (.bx 5 0)),(7,int .i64 i)],bx:= [(3,cTable t),(5,cRow r)],rt:= []}) (fun E=>l.length- (E.num 7).toNat) _ (Gh.kb _ [1,3,5,7] [3,5] []) ⟨0,by omega,by simp⟩ ?_
 rintro E1 ⟨i,hi,rfl⟩
 have htw:=takeW_len (fun x=>rowLt t x r) l
 have hat:=takeW_at (fun x=>rowLt t x r) dRow hi
 simp
 have hd8:t.fKeys.length=(keyOf t r).length:=(keyOf_len t r).symm
 have hb8: ∀x,okM (keyOf t x).length:=fun x=>by rw[keyOf_len];unfold okM;omega
 refine .of (fun g=>⟨g,keyI_ok t _ ht hk (tableOk_keys hto (hf _ (getD_mem dRow g)))⟩) ?_
 simp[mValS]
 refine .of (fun g=>⟨g,keyI_ok t r ht hk (tableOk_keys hto hr)⟩) ?_
 simp[mValS]
 refine .of (fun g=>⟨by grind,keyLessI_ok (keyOf t _) (keyOf t r) (hb8 _) (hb8 _)⟩) ?_
 simp
 refine ⟨fun h1 h2=> .of _ (Gh.kb _ [1,3,5,7] [3,5] []) ⟨i+1,hat.2 ⟨h1,h2⟩, ?_⟩ ?_,fun h2=> ?_⟩
 ·simp[wrapS (show i<9223372036854775807 by omega)]
 ·simp[wrapS (show i<9223372036854775807 by omega)];omega
 ·have hiq:i=(l.takeWhile (fun x=>rowLt t x r)).length:=by
   rcases Nat.lt_or_ge i (l.takeWhile (fun x=>rowLt t x r)).length with hlt|hge
   ·obtain ⟨g1,g2⟩:=hat.1 hlt
    have:=h2 g1
    rw[show keyLess (keyOf t (l[i]?.getD dRow)) (keyOf t r)=true from g2] at this
    cases this
   ·omega
  refine .of (copyRows_ok l (by omega) (fun x hx=>by have:=rowFit_len (hf x hx);omega)) ?_
  simp[mRowS]
  refine .of (copyVals_ok _ (by omega)) ?_
  simp[mValS]
  refine ⟨of_eq_true (full_RowS [r]),.use (vx_ins (i:=i) (rows:=l.map eRow) (row:=eRow r) (z:= [.ls [.sc (.int .i64 0),.sc (.int .i64 0),.sc (.string ⟨#[]⟩)] []]) (cols:=fun _=> [.o 152 (fun _=> [.s,.s,.s])]) (cols':=fun _=> [.o 152 (fun _=> [.s,.s,.s])]) ⟨_,_,Tryz.func277,rfl,by kernel_rfl⟩ rawIns_Row (by decide) (by decide) rfl (by simp;omega) (by simp;omega)) ?_⟩
  simp[colsI_const]
  rw[insW_at,←hiq]
  simp
theorem rowPutI_ok (t:GTable) (l:List GRow) (r:GRow) (ht:okTable t) (hk:t.fKeys.length≤1048576) (hl:okRowS l) (hr:okRow r):VC Tryz.prog 220 [vTable t,vRowS l,vRow r] [(false,mRowS (rowPut t l r).1),(false,[(.s,.sc (.int .i64 (rowPut t l r).2))])]:=by
 refine vc_of_ew good hm [0,1,2,3,5,6,7,8,13,18,26] Tryz.func220 rfl (by kernel_rfl) (by kernel_rfl) rfl ?_
 simp[Tryz.f220,mRowS]
 refine .of (rowsOkI_ok t l ht hl hk) ?_
 simp
 refine ⟨fun h=>by simp[rowPut,h],fun h1=> .of (rowOkI_ok t r ht hr.1.1) ?_⟩
 obtain ⟨h2,h3,h4,h5,h6⟩:=rowsOk_inv h1
 simp
 refine ⟨fun h=>by simp[rowPut,h1,h],fun h7=> .of (keyI_ok t r ht hk (tableOk_keys h2 h7)) ?_⟩
 simp[mValS]
 refine .of (rowAt_ok t l (keyOf t r) ht hk (by unfold okM;omega) h5) ?_
 simp
 have hat:rowPut t l r=if 0≤keyAt t l (keyOf t r) then ([],3) else if l.length=60 then ([],4) else (insW (fun x=>rowLt t x r) r l,0):=by simp[rowPut,h1,h7]
 refine ⟨fun h=>by simp[hat,h],fun h8=>⟨fun h=>by rw[hat,if_neg (by omega),if_pos (by omega)];simp,fun h=> .of (placed_ok t l r ht h2 h3 h4 h7) ?_⟩⟩
 rw[hat,if_neg (by omega),if_neg (by omega)]
 simp[mRowS]
theorem rowSetI_ok (t:GTable) (l:List GRow) (key:List GVal) (r:GRow) (ht:okTable t) (hk:t.fKeys.length≤1048576) (hl:okRowS l) (hkey:okM key.length) (hr:okRow r):VC Tryz.prog 221 [vTable t,vRowS l,vValS key,vRow r] [(false,mRowS (rowSet t l key r).1),(false,[(.s,.sc (.int .i64 (rowSet t l key r).2))])]:=by
 refine vc_of_ew good hm [0,1,2,3,4,7,8,9,12,17,22,10,47,11] Tryz.func221 rfl (by kernel_rfl) (by kernel_rfl) rfl ?_
 simp[Tryz.f221,mRowS]
 refine .of (rowsOkI_ok t l ht hl hk) ?_
 simp
 refine ⟨fun h=>by simp[rowSet,h],fun h1=> .of (rowOkI_ok t r ht hr.1.1) ?_⟩
 obtain ⟨h2,h3,h4,h5,h6⟩:=rowsOk_inv h1
 have hM:okM l.length:=by unfold okM;omega
 simp
 refine ⟨fun h=>by simp[rowSet,h1,h],fun h7=> .of (keyOkI_ok t key ht hkey) ?_⟩
 simp
 refine .of (fun g=>⟨g,rowAt_ok t l key ht hk hM h5⟩) ?_
 simp
 refine ⟨fun h=> ?_,fun g1 g2=> .of (keyI_ok t r ht hk (tableOk_keys h2 h7)) ?_⟩
 ·have:rowSet t l key r=([],5):=by
   unfold rowSet
   rw[if_neg (by simp[h1]),if_neg (by simp[h7]),if_pos h]
  simp[this]
 obtain ⟨k,hk'⟩: ∃k:Nat,keyAt t l key=k:=⟨_,(Int.toNat_of_nonneg g2).symm⟩
 have hb:=keyAt_bd t l key
 have hset:rowSet t l key r=if eqRows veq dVal (keyOf t r) key=false∧0≤keyAt t l (keyOf t r) then ([],3) else (insW (fun x=>rowLt t x r) r (l.eraseIdx (keyAt t l key).toNat),0):=by
  unfold rowSet
  rw[if_neg (by simp[h1]),if_neg (by simp[h7]),if_neg (by simp[g1];omega)]
 simp[mValS]
 refine .of (equalVal_ok (keyOf t r) key (by rw[keyOf_len];unfold okM;omega)) ?_
 simp
 refine .of (fun g=>⟨g,rowAt_ok t l (keyOf t r) ht hk hM h5⟩) ?_
 simp
 refine ⟨fun q1 q2=>by rw[hset,if_pos ⟨q1,q2⟩];simp,fun q=> ?_⟩
 have hat:=rowAt_ok t l key ht hk hM h5
 rw[hk'] at hat
 refine .of hat ?_
 simp
 refine .of (copyRows_ok l (by omega) h6) ?_
 simp[mRowS,wrapS (show k<9223372036854775807 by omega)]
 refine .use (vx_del (i:=k) (rows:=l.map eRow) (z:= [.ls [.sc (.int .i64 0),.sc (.int .i64 0),.sc (.string ⟨#[]⟩)] []]) (cols:=fun _=> [.o 152 (fun _=> [.s,.s,.s])]) ⟨_,_,Tryz.func254,rfl,by kernel_rfl⟩ rawDel_Row (by decide) rfl (by simp;omega)) ?_
 simp[colsD_const]
 have hrest:rowsOk t (l.eraseIdx k)=true:=rowsOk_erase h1 k
 obtain ⟨e2,e3,e4,e5,e6⟩:=rowsOk_inv hrest
 have he:l.take k++l.drop (k+1)=l.eraseIdx k:=(List.eraseIdx_eq_take_drop_succ l k).symm
 have hpl:=placed_ok t (l.eraseIdx k) r ht h2 e3 e4 h7
 have hme:(l.map eRow).take k++(l.map eRow).drop (k+1)=(l.eraseIdx k).map eRow:=by rw[←he,List.map_append,List.map_take,List.map_drop]
 rw[hme]
 refine ⟨of_eq_true (full_RowS _),.of hpl ?_⟩
 simp[mRowS]
 rw[hset,if_neg (fun h=>by have:=q h.1;omega),hk']
 simp
theorem rowOutI_ok (t:GTable) (l:List GRow) (key:List GVal) (ht:okTable t) (hk:t.fKeys.length≤1048576) (hl:okRowS l) (hkey:okM key.length):VC Tryz.prog 222 [vTable t,vRowS l,vValS key] [(false,mRowS (rowOut t l key).1),(false,[(.s,.sc (.int .i64 (rowOut t l key).2))])]:=by
 refine vc_of_ew good hm [0,1,2,3,6,7,9,14,8] Tryz.func222 rfl (by kernel_rfl) (by kernel_rfl) rfl ?_
 simp[Tryz.f222,mRowS]
 refine .of (rowsOkI_ok t l ht hl hk) ?_
 simp
 refine ⟨fun h=>by simp[rowOut,h],fun h1=> .of (keyOkI_ok t key ht hkey) ?_⟩
 obtain ⟨h2,h3,h4,h5,h6⟩:=rowsOk_inv h1
 have hM:okM l.length:=by unfold okM;omega
 simp
 refine .of (fun g=>⟨g,rowAt_ok t l key ht hk hM h5⟩) ?_
 simp
 refine ⟨fun h=> ?_,fun g1 g2=> ?_⟩
 ·have:rowOut t l key=([],5):=by
   unfold rowOut
   rw[if_neg (by simp[h1]),if_pos h]
  simp[this]
 ·obtain ⟨k,hk'⟩: ∃k:Nat,keyAt t l key=k:=⟨_,(Int.toNat_of_nonneg g2).symm⟩
  have hb:=keyAt_bd t l key
  have hat:=rowAt_ok t l key ht hk hM h5
  rw[hk'] at hat
  have hout:rowOut t l key=(l.eraseIdx k,0):=by
   unfold rowOut
   rw[if_neg (by simp[h1]),if_neg (by simp[g1];omega),hk']
   rfl
  refine .of hat ?_
  simp
  refine .of (copyRows_ok l (by omega) h6) ?_
  simp[mRowS,wrapS (show k<9223372036854775807 by omega)]
  refine .use (vx_del (i:=k) (rows:=l.map eRow) (z:= [.ls [.sc (.int .i64 0),.sc (.int .i64 0),.sc (.string ⟨#[]⟩)] []]) (cols:=fun _=> [.o 152 (fun _=> [.s,.s,.s])]) ⟨_,_,Tryz.func254,rfl,by kernel_rfl⟩ rawDel_Row (by decide) rfl (by simp;omega)) ?_
  simp[colsD_const]
  rw[hout,List.eraseIdx_eq_take_drop_succ]
  simp
end Go.Proofs.YtanlbohhmoifcaaGreat
namespace Go.Proofs.YtanlbohhmoifcaaGreat
open Go Go.Proofs Go.Sm
attribute [local simp] ti eStr eInt eByte eVal vVal eCol vCol vColS vStrS eTable cTable vTable vTableS cCat vCat eValS vValS eRow cRow vRow vRowS eRows vRowsS cDb vDb eDdl cDdl vDdl eStmt cStmt vStmt eRec vRec eSlot vSlot eRecS vRecS eSlotS vSlotS vStmtS
set_option linter.unusedVariables false
set_option linter.unusedSimpArgs false
theorem sameVals_ok (a b:List GVal) (ha:okM a.length):VC Tryz.prog 279 [vValS a,vValS b] [(false,[(.s,.sc (.bool (eqRows veq dVal a b)))])]:=by
 unfold okM at ha
 refine vc_of_ew good hm [0,1,4,10,12,13,14,5,24] Tryz.func279 rfl (by kernel_rfl) (by kernel_rfl) rfl ?_
 simp[Tryz.f279]
 refine ⟨fun h=>by simp[eqRows,h],fun hl=> ?_⟩
 refine ew_loop (fun E=> ∃i:Nat,i≤a.length∧eqTo veq dVal a b i=true∧E= {nt:=26,sl:= [(0,vValS a),(1,vValS b),(12,int .i64 a.length),(13,int .i64 i)],bx:= [],rt:= []}) (fun E=>a.length- (E.num 13).toNat) _ (Gh.kb _ [0,1,12,13] [] []) ⟨0,by omega,by simp[eqTo],by simp⟩ ?_
 rintro E1 ⟨i,hi,hall,rfl⟩
 simp
 have hat:veq (a[i]?.getD dVal) (b[i]?.getD dVal)=((a[i]?.getD dVal).fTy==(b[i]?.getD dVal).fTy&& ((a[i]?.getD dVal).fN==(b[i]?.getD dVal).fN&& (a[i]?.getD dVal).fS.toList==(b[i]?.getD dVal).fS.toList)):=rfl
 refine ⟨fun h=>⟨h,by omega, ?_⟩,fun h=> ?_⟩
 ·refine ⟨fun hb=> ?_,fun h1 h2 h3=> .of _ (Gh.kb _ [0,1,12,13] [] []) ⟨i+1,by omega,by rw[eqTo_succ,hall,hat];simp[h1,h2,h3], ?_⟩ ?_⟩
  ·have:=eqTo_no (eq:=veq) (d:=dVal) (a:=a) (b:=b) h (by rw[hat];grind)
   simp[eqRows,this]
  ·simp[wrapS (show i<9223372036854775807 by omega)]
  ·simp[wrapS (show i<9223372036854775807 by omega)];omega
 ·have:i=a.length:=by omega
  subst this
  simp[eqRows,hall,hl]
theorem l03Copy_ok (l:List GRow) (hl:l.length≤1048576) (hb: ∀r∈l,r.fVals.length≤1048576):VC Tryz.prog 184 [vRowS l] [(false,mRowS l)]:=by
 refine vc_of_ew good hm [0,2,3,7,8,9,10,5] Tryz.func184 rfl (by kernel_rfl) (by kernel_rfl) rfl ?_
 simp[Tryz.f184,mRowS]
 refine ew_loop (fun E=> ∃i:Nat,i≤l.length∧E= {nt:=20,sl:= [(3,.v false [.r [6]]),(7,vRowS l),(8,int .i64 l.length),(9,int .i64 i)],bx:= [],rt:=(mRowS (l.take i)).map fun y=>(6,y)}) (fun E=>l.length- (E.num 9).toNat) _ (Gh.kb _ [3,7,8,9] [] [6]) ⟨0,by omega,by simp[mRowS]⟩ ?_
 rintro E1 ⟨i,hi,rfl⟩
 simp[mRowS]
 refine ⟨fun h=>⟨h,.of (l03Row_ok _ (hb _ (getD_mem dRow h))) ?_⟩,fun h=> ?_⟩
 ·simp[mRow]
  refine ⟨by omega,.of _ ((Gh.kb _ [3,7,8,9] [] [17]).trans (Gh.rn _ 17 6)) ⟨i+1,by omega, ?_⟩ ?_⟩
  ·rw[take_rowM dRow h]
   simp[wrapS (show i<9223372036854775807 by omega),mRowS]
  ·simp[wrapS (show i<9223372036854775807 by omega)];omega
 ·have:i=l.length:=by omega
  subst this
  rw[←List.map_take,List.take_length]
theorem l03Lay_ok (t:GTable) (l:List GRow) (r:GRow) (ht:okTable t) (hk:t.fKeys.length≤1048576) (hl:l.length≤1048576) (hb: ∀x∈l,x.fVals.length≤1048576) (hbr:r.fVals.length≤1048576) (hin: ∀x∈l,keysIn t x) (hir:keysIn t r):VC Tryz.prog 260 [vTable t,vRowS l,vRow r] [(false,mRowS (insW (fun y=> !rowLt t r y) r l))]:=by
 refine vc_of_ew good hm [0,1,2,3,5,6,7,8,12,13,14,15,10,28,41] Tryz.func260 rfl (by kernel_rfl) (by kernel_rfl) rfl ?_
 simp[Tryz.f260,mRowS]
 refine ew_loop (fun E=> ∃i:Nat,i≤l.length∧E= {nt:=48,sl:= [(3,.p (.bx 3 0)),(5,.p (.bx 5 0)),(7,.v false [.r [11]]),(8,bool (anyT (fun y=>rowLt t r y) l i)),(12,vRowS l),(13,int .i64 l.length),(14,int .i64 i)],bx:= [(3,cTable t),(5,cRow r)],rt:=(mRowS (layTo (fun y=>rowLt t r y) r l i)).map fun y=>(11,y)}) (fun E=>l.length- (E.num 14).toNat) _ (Gh.kb _ [3,5,7,8,12,13,14] [3,5] [11]) ⟨0,by omega,by simp[mRowS,layTo_zero,anyT_zero]⟩ ?_
 rintro E1 ⟨i,hi,rfl⟩
 have hL:=layTo_len (fun y=>rowLt t r y) r l i
 simp[mRowS]
 have hb8: ∀x,okM (keyOf t x).length:=fun x=>by rw[keyOf_len];unfold okM;omega
 refine ⟨fun h=>⟨h,.of (fun g=>⟨g,keyS_ok t r ht hk hir⟩) ?_⟩,fun h=> ?_⟩
 ·simp[mValS]
  refine .of (fun g=>⟨g,keyS_ok t (l[i]?.getD dRow) ht hk (hin _ (getD_mem dRow h))⟩) ?_
  simp[mValS]
  refine .of (fun g=>⟨g,keyLessS_ok (keyOf t r) (keyOf t (l[i]?.getD dRow)) (hb8 _) (hb8 _)⟩) ?_
  simp
  have hs:=layTo_succ (fun y=>rowLt t r y) r dRow h
  have ha:=anyT_succ (fun y=>rowLt t r y) dRow h
  refine ⟨fun q1 q2=> .of (l03Row_ok r hbr) ?_,fun q=> .of (l03Row_ok (l[i]?.getD dRow) (hb _ (getD_mem dRow h))) ?_⟩
  ·rw[if_pos ⟨q1,q2⟩] at hs
   rw[q1,show rowLt t r (l[i]?.getD dRow)=true from q2] at ha
   simp[mRow]
   refine ⟨by omega,.of (l03Row_ok (l[i]?.getD dRow) (hb _ (getD_mem dRow h))) ?_⟩
   simp[mRow]
   refine ⟨by omega,.of _ ((Gh.kb _ [3,5,7,8,12,13,14] [3,5] [38]).trans (Gh.rn _ 38 11)) ⟨i+1,by omega, ?_⟩ ?_⟩
   ·rw[hs,ha]
    simp[wrapS (show i<9223372036854775807 by omega),mRowS]
   ·simp[wrapS (show i<9223372036854775807 by omega)];omega
  ·have hq: ¬((l.take i).any (fun y=>rowLt t r y)=false∧rowLt t r (l[i]?.getD dRow)=true):=fun ⟨q1,q2⟩=>by
    have:=q q1
    rw[show keyLess (keyOf t r) (keyOf t (l[i]?.getD dRow))=true from q2] at this
    cases this
   rw[if_neg hq] at hs
   have ha2:anyT (fun y=>rowLt t r y) l (i+1)=anyT (fun y=>rowLt t r y) l i:=by
    rw[ha]
    cases hx:anyT (fun y=>rowLt t r y) l i with
    |true=>rfl
    |false=>
     rw[Bool.false_or]
     exact q hx
   simp[mRow]
   refine ⟨by omega,.of _ ((Gh.kb _ [3,5,7,8,12,13,14] [3,5] [38]).trans (Gh.rn _ 38 11)) ⟨i+1,by omega, ?_⟩ ?_⟩
   ·rw[hs,ha2]
    simp[wrapS (show i<9223372036854775807 by omega),mRowS]
   ·simp[wrapS (show i<9223372036854775807 by omega)];omega
 ·have:i=l.length:=by omega
  subst this
  have he:=layTo_end (fun y=>rowLt t r y) r l
  refine ⟨fun q=> .of (l03Row_ok r hbr) ?_,fun q=> ?_⟩
  ·rw[anyT_all] at q
   rw[q] at he
   simp[mRow]
   refine ⟨by omega, ?_⟩
   rw[he]
   simp
  ·rw[anyT_all] at q
   rw[q,if_pos rfl] at he
   rw[he]
theorem rowAtS_ok (t:GTable) (l:List GRow) (key:List GVal) (ht:okTable t) (hk:t.fKeys.length≤1048576) (hl:okRowS l):VC Tryz.prog 259 [vTable t,vRowS l,vValS key] [(false,[(.s,.sc (.int .i64 (if rowsOk t l=true then keyAt t l key else-1)))])]:=by
 refine vc_of_ew good hm [0,1,2,3,6,12,13,14,15,16,8,7,24] Tryz.func259 rfl (by kernel_rfl) (by kernel_rfl) rfl ?_
 simp[Tryz.f259]
 refine .of (rowsOkS_ok t l ht hl hk) ?_
 simp
 refine ⟨fun h=>by simp[h],fun h1=> ?_⟩
 obtain ⟨h2,h3,h4,h5,h6⟩:=rowsOk_inv h1
 rw[if_pos h1]
 refine ew_loop (fun E=> ∃i:Nat,i≤l.length∧anyT (fun r=>eqRows veq dVal (keyOf t r) key) l i=false∧E= {nt:=27,sl:= [(2,vValS key),(3,.p (.bx 3 0)),(13,vRowS l),(14,int .i64 l.length),(15,int .i64 i)],bx:= [(3,cTable t)],rt:= []}) (fun E=>l.length- (E.num 15).toNat) _ (Gh.kb _ [2,3,13,14,15] [3] []) ⟨0,by omega,anyT_zero _ _,by simp⟩ ?_
 rintro E1 ⟨i,hi,hall,rfl⟩
 simp
 refine ⟨fun h=>⟨h,.of (keyS_ok t (l[i]?.getD dRow) ht hk (h5 _ (getD_mem dRow h))) ?_⟩,fun h=> ?_⟩
 ·simp[mValS]
  refine .of (sameVals_ok (keyOf t (l[i]?.getD dRow)) key (by rw[keyOf_len];unfold okM;omega)) ?_
  simp
  refine ⟨fun hp=>(idxF_at _ dRow h hall hp).symm,fun hp=> .of _ (Gh.kb _ [2,3,13,14,15] [3] []) ⟨i+1,by omega,by rw[anyT_succ _ dRow h,hall,hp];rfl, ?_⟩ ?_⟩
  ·simp[wrapS (show i<9223372036854775807 by omega)]
  ·simp[wrapS (show i<9223372036854775807 by omega)];omega
 ·have:i=l.length:=by omega
  subst this
  rw[anyT_all] at hall
  exact (idxF_no _ hall).symm
theorem rowPutS_ok (t:GTable) (l:List GRow) (r:GRow) (ht:okTable t) (hk:t.fKeys.length≤1048576) (hl:okRowS l) (hr:okRow r):VC Tryz.prog 227 [vTable t,vRowS l,vRow r] [(false,mRowS (rowPut t l r).1),(false,[(.s,.sc (.int .i64 (rowPut t l r).2))])]:=by
 refine vc_of_ew good hm [0,1,2,3,5,6,7,11,15,22,25] Tryz.func227 rfl (by kernel_rfl) (by kernel_rfl) rfl ?_
 simp[Tryz.f227,mRowS]
 refine .of (rowsOkS_ok t l ht hl hk) ?_
 simp
 refine ⟨fun h=>by simp[rowPut,h],fun h1=> .of (rowOkS_ok t r ht hr.1.1) ?_⟩
 obtain ⟨h2,h3,h4,h5,h6⟩:=rowsOk_inv h1
 rw[h2,Bool.true_and]
 simp
 refine ⟨fun h=>by simp[rowPut,h1,h],fun h7=> .of (keyS_ok t r ht hk (tableOk_keys h2 h7)) ?_⟩
 simp[mValS]
 refine .of (rowAtS_ok t l (keyOf t r) ht hk hl) ?_
 rw[if_pos h1]
 simp
 have hat:rowPut t l r=if 0≤keyAt t l (keyOf t r) then ([],3) else if l.length=60 then ([],4) else (insW (fun x=>rowLt t x r) r l,0):=by simp[rowPut,h1,h7]
 have hrb:=(rowFit_ok h2 h7).2
 refine ⟨fun h=>by simp[hat,h],fun h8=>⟨fun h=>by rw[hat,if_neg (by omega),if_pos (by omega)];simp,fun h=> .of (l03Lay_ok t l r ht hk (by omega) h6 (by omega) h5 (tableOk_keys h2 h7)) ?_⟩⟩
 rw[hat,if_neg (by omega),if_neg (by omega),lay_ins h4 h7 (fun x hx e=>by have:=(keyAt_nn t l (keyOf t r)).2 ⟨x,hx,e⟩;omega)]
 simp[mRowS]
end Go.Proofs.YtanlbohhmoifcaaGreat
namespace Go.Proofs.YtanlbohhmoifcaaGreat
open Go Go.Proofs Go.Sm
attribute [local simp] ti eStr eInt eByte eVal vVal eCol vCol vColS vStrS eTable cTable vTable vTableS cCat vCat eValS vValS eRow cRow vRow vRowS eRows vRowsS cDb vDb eDdl cDdl vDdl eStmt cStmt vStmt eRec vRec eSlot vSlot eRecS vRecS eSlotS vSlotS vStmtS
set_option linter.unusedVariables false
set_option linter.unusedSimpArgs false
theorem erTo {α:Type} (d:α) {l:List α} {i k:Nat} (h:i<l.length):(l.take (i+1)).eraseIdx k=if (i:Int)=k then (l.take i).eraseIdx k else (l.take i).eraseIdx k++ [l[i]?.getD d]:=by
 rw[take_row d h]
 split
 ·rename_i e
  have:i=k:=by omega
  subst this
  have h1:(l.take i).length=i:=by simp;omega
  rw[List.eraseIdx_append_of_length_le (by omega),List.eraseIdx_of_length_le (l:=l.take i) (by omega),h1]
  simp
 ·rename_i e
  rcases Nat.lt_or_ge i k with h1|h1
  ·rw[List.eraseIdx_of_length_le (by simp;omega),List.eraseIdx_of_length_le (by simp;omega)]
  ·rw[List.eraseIdx_append_of_lt_length (by simp;omega)]
theorem l03Without_ok (l:List GRow) (k:Nat) (hl:l.length≤1048576) (hb: ∀r∈l,r.fVals.length≤1048576):VC Tryz.prog 262 [vRowS l,int .i64 k] [(false,mRowS (l.eraseIdx k))]:=by
 refine vc_of_ew good hm [0,1,4,5,9,10,11,12,7,6,18] Tryz.func262 rfl (by kernel_rfl) (by kernel_rfl) rfl ?_
 simp[Tryz.f262,mRowS]
 refine ew_loop (fun E=> ∃i:Nat,i≤l.length∧E= {nt:=26,sl:= [(1,int .i64 k),(5,.v false [.r [8]]),(9,vRowS l),(10,int .i64 l.length),(11,int .i64 i)],bx:= [],rt:=(mRowS ((l.take i).eraseIdx k)).map fun y=>(8,y)}) (fun E=>l.length- (E.num 11).toNat) _ (Gh.kb _ [1,5,9,10,11] [] [8]) ⟨0,by omega,by simp[mRowS]⟩ ?_
 rintro E1 ⟨i,hi,rfl⟩
 simp[mRowS]
 have hle:((l.take i).eraseIdx k).length≤i:=Nat.le_trans (List.eraseIdx_sublist ..).length_le (by simp;omega)
 refine ⟨fun h=>⟨h, ?_⟩,fun h=> ?_⟩
 ·refine ⟨fun hq=> .of (l03Row_ok _ (hb _ (getD_mem dRow h))) ?_,fun hq=> .of _ (Gh.kb _ [1,5,9,10,11] [] [8]) ⟨i+1,by omega, ?_⟩ ?_⟩
  ·simp[mRow]
   refine ⟨by omega,.of _ ((Gh.kb _ [1,5,9,10,11] [] [23]).trans (Gh.rn _ 23 8)) ⟨i+1,by omega, ?_⟩ ?_⟩
   ·rw[erTo dRow h,if_neg (by omega)]
    simp[wrapS (show i<9223372036854775807 by omega),mRowS]
   ·simp[wrapS (show i<9223372036854775807 by omega)];omega
  ·rw[erTo dRow h,if_pos (by omega)]
   simp[wrapS (show i<9223372036854775807 by omega),mRowS]
  ·simp[wrapS (show i<9223372036854775807 by omega)];omega
 ·have:i=l.length:=by omega
  subst this
  rw[List.take_length]
theorem rowSetS_ok (t:GTable) (l:List GRow) (key:List GVal) (r:GRow) (ht:okTable t) (hk:t.fKeys.length≤1048576) (hl:okRowS l) (hkey:okM key.length) (hr:okRow r):VC Tryz.prog 228 [vTable t,vRowS l,vValS key,vRow r] [(false,mRowS (rowSet t l key r).1),(false,[(.s,.sc (.int .i64 (rowSet t l key r).2))])]:=by
 refine vc_of_ew good hm [0,1,2,3,4,7,8,9,15,19,10,31,11,41] Tryz.func228 rfl (by kernel_rfl) (by kernel_rfl) rfl ?_
 simp[Tryz.f228,mRowS]
 refine .of (rowsOkS_ok t l ht hl hk) ?_
 simp
 refine ⟨fun h=>by simp[rowSet,h],fun h1=> .of (rowOkS_ok t r ht hr.1.1) ?_⟩
 obtain ⟨h2,h3,h4,h5,h6⟩:=rowsOk_inv h1
 rw[h2,Bool.true_and]
 simp
 refine ⟨fun h=>by simp[rowSet,h1,h],fun h7=> .of (rowAtS_ok t l key ht hk hl) ?_⟩
 rw[if_pos h1]
 simp
 refine .of (keyOkS_ok t key ht hkey) ?_
 simp
 refine ⟨fun h=> ?_,fun g1 g2=> ?_⟩
 ·have:rowSet t l key r=([],5):=by
   unfold rowSet
   rw[if_neg (by simp[h1]),if_neg (by simp[h7]),if_pos (by grind)]
  simp[this]
 obtain ⟨k,hk'⟩: ∃k:Nat,keyAt t l key=k:=⟨_,(Int.toNat_of_nonneg (by grind)).symm⟩
 have hb:=keyAt_bd t l key
 have hset:rowSet t l key r=if eqRows veq dVal (keyOf t r) key=false∧0≤keyAt t l (keyOf t r) then ([],3) else (insW (fun x=>rowLt t x r) r (l.eraseIdx (keyAt t l key).toNat),0):=by
  unfold rowSet
  rw[if_neg (by simp[h1]),if_neg (by simp[h7]),if_neg (by simp[g1];omega)]
 rw[hk']
 refine .of (l03Without_ok l k (by omega) h6) ?_
 simp[mRowS]
 have hrest:rowsOk t (l.eraseIdx k)=true:=rowsOk_erase h1 k
 obtain ⟨e2,e3,e4,e5,e6⟩:=rowsOk_inv hrest
 refine .of (keyS_ok t r ht hk (tableOk_keys h2 h7)) ?_
 simp[mValS]
 refine .of (rowAtS_ok t (l.eraseIdx k) (keyOf t r) ht hk (rowsOk_ok hrest).1) ?_
 rw[if_pos hrest]
 simp
 have hkr:=key_rest (key2:=keyOf t r) h1 (key:=key) (by omega)
 rw[←keyAt_nn,←keyAt_nn,hk',Int.toNat_natCast] at hkr
 have hne:eqRows veq dVal (keyOf t r) key=false↔keyOf t r≠key:=by
  rw[Bool.eq_false_iff,Ne,eqVs_iff]
 refine ⟨fun q=>by rw[hset,if_pos ⟨hne.2 (hkr.1 q).1,(hkr.1 q).2⟩];simp,fun q=> .of (l03Lay_ok t (l.eraseIdx k) r ht hk (by omega) e6 (by have:=(rowFit_ok h2 h7).2;omega) e5 (tableOk_keys h2 h7)) ?_⟩
 rw[hset,if_neg (fun g=>by have:=hkr.2 ⟨hne.1 g.1,g.2⟩;omega),lay_ins e4 h7 (fun x hx e=>by have:=(keyAt_nn t (l.eraseIdx k) (keyOf t r)).2 ⟨x,hx,e⟩;omega),hk']
 simp[mRowS]
theorem rowOutS_ok (t:GTable) (l:List GRow) (key:List GVal) (ht:okTable t) (hk:t.fKeys.length≤1048576) (hl:okRowS l) (hkey:okM key.length):VC Tryz.prog 229 [vTable t,vRowS l,vValS key] [(false,mRowS (rowOut t l key).1),(false,[(.s,.sc (.int .i64 (rowOut t l key).2))])]:=by
 refine vc_of_ew good hm [0,1,2,3,6,7,12,8,24] Tryz.func229 rfl (by kernel_rfl) (by kernel_rfl) rfl ?_
 simp[Tryz.f229,mRowS]
 refine .of (rowsOkS_ok t l ht hl hk) ?_
 simp
 refine ⟨fun h=>by simp[rowOut,h],fun h1=> .of (rowAtS_ok t l key ht hk hl) ?_⟩
 obtain ⟨h2,h3,h4,h5,h6⟩:=rowsOk_inv h1
 rw[if_pos h1]
 simp
 refine .of (keyOkS_ok t key ht hkey) ?_
 simp
 refine ⟨fun h=> ?_,fun g1 g2=> ?_⟩
 ·have:rowOut t l key=([],5):=by
   unfold rowOut
   rw[if_neg (by simp[h1]),if_pos (by grind)]
  simp[this]
 ·obtain ⟨k,hk'⟩: ∃k:Nat,keyAt t l key=k:=⟨_,(Int.toNat_of_nonneg (by grind)).symm⟩
  have hout:rowOut t l key=(l.eraseIdx k,0):=by
   unfold rowOut
   rw[if_neg (by simp[h1]),if_neg (by simp[g1];omega),hk']
   rfl
  rw[hk']
  refine .of (l03Without_ok l k (by omega) h6) ?_
  rw[hout]
  simp[mRowS]
end Go.Proofs.YtanlbohhmoifcaaGreat
