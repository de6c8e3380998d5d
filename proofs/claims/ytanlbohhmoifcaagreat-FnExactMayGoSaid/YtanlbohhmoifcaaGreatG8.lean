import Derived.Test.YtanlbohhmoifcaaGreatG7
import Derived.Test.YtanlbohhmoifcaaGreatG6
import Derived.Test.YtanlbohhmoifcaaGreatG5
set_option maxHeartbeats 8000000
set_option maxRecDepth 8000
namespace Go.Proofs.YtanlbohhmoifcaaGreat
open Go Go.Proofs Go.Sm
attribute [local simp] ti eStr eInt eByte eVal vVal eCol vCol vColS vStrS eTable cTable vTable vTableS cCat vCat eValS vValS eRow cRow vRow vRowS eRows vRowsS cDb vDb eDdl cDdl vDdl eStmt cStmt vStmt eRec vRec eSlot vSlot eRecS vRecS eSlotS vSlotS vStmtS
set_option linter.unusedVariables false
set_option linter.unusedSimpArgs false
@[simp] theorem ow_Ints (l:List Int):Ow (Md.o 3 (fun _=> [Md.s])) (.ls [Lf.sc (Value.int IntKind.i64 0)] (l.map eInt))=True:=eq_true (Ow_rows (fun x j hj=>match j,hj with|0,_=> .sc|n+1,hj=>absurd hj (by simp)) l)
@[simp] theorem full_Ints (l:List Int):Full (Md.o 3 (fun _=> [Md.s])) (.ls [Lf.sc (Value.int IntKind.i64 0)] (l.map eInt))=True:=eq_true (Full_rows (fun x j hj=>match j,hj with|0,_=> .s|n+1,hj=>absurd hj (by simp)) l)
def hasI (l:List Int) (x:Int):Bool:=l.any (fun y=>x==y)
def usedR (x:Int) (r:GRec):Bool:=decide (r.fKind=1)&&decide (r.fXid=x)
def usedX (l:List GRec) (x:Int):Bool:=l.any (usedR x)
def openStep (o:List Int) (r:GRec):List Int:=
 if r.fKind=1 then (if hasI o r.fXid=true then o else o++ [r.fXid]) else if r.fKind=3∨r.fKind=4 then o.filter (fun y=> !(y==r.fXid)) else o
def openL (l:List GRec):List Int:=l.foldl openStep []
theorem openL_succ {l:List GRec} {i:Nat} (h:i<l.length):openL (l.take (i+1))=openStep (openL (l.take i)) (l[i]?.getD dRec):=by
 unfold openL
 rw[take_row dRec h,List.foldl_append]
 rfl
theorem openL_len (l:List GRec):(openL l).length≤l.length:=by
 have: ∀ (l:List GRec) (o:List Int),(l.foldl openStep o).length≤o.length+l.length:=by
  intro l
  induction l with
  |nil=>intro o;simp
  |cons r l ih=>
   intro o
   have h1:(openStep o r).length≤o.length+1:=by
    unfold openStep
    have:=List.length_filter_le (fun y=> !(y==r.fXid)) o
    split
    ·split<;>simp
    split
    ·omega
    ·omega
   have:=ih (openStep o r)
   simp only[List.foldl_cons,List.length_cons]
   omega
 have:=this l []
 simpa [openL] using this
theorem l07Has_ok (l:List Int) (x:Int) (hl:okM l.length):VC Tryz.prog 111 [vInts l,int .i64 x] [(false,[(.s,.sc (.bool (hasI l x)))])]:=by
 unfold okM at hl
 refine vc_of_ew good hm [0,1,4,7,8,9,10,6,15] Tryz.func111 rfl (by kernel_rfl) (by kernel_rfl) rfl ?_
 simp[Tryz.f111,vInts]
 refine ew_loop (fun E=> ∃i:Nat,i≤l.length∧anyT (fun y=>x==y) l i=false∧E= {nt:=17,sl:= [(1,int .i64 x),(7,vInts l),(8,int .i64 l.length),(9,int .i64 i)],bx:= [],rt:= []}) (fun E=>l.length- (E.num 9).toNat) _ (Gh.kb _ [1,7,8,9] [] []) ⟨0,by omega,anyT_zero _ _,by simp[vInts]⟩ ?_
 rintro E1 ⟨i,hi,hall,rfl⟩
 simp[vInts]
 refine ⟨fun h=> ?_,fun h=> ?_⟩
 ·have ha:=anyT_succ (fun y=>x==y) (0:Int) h
  have hg:l[i]?.getD 0=l[i]:=by simp[h]
  rw[hg,hall,Bool.false_or] at ha
  simp[h]
  refine ⟨fun hp=> ?_,fun hp=> .of _ (Gh.kb _ [1,7,8,9] [] []) ⟨i+1,by omega,by rw[ha];simpa using fun e=>hp e.symm, ?_⟩ ?_⟩
  ·exact List.any_eq_true.2 ⟨l[i],List.getElem_mem h,by simp[hp]⟩
  ·simp[wrapS (show i<9223372036854775807 by omega),vInts]
  ·simp[wrapS (show i<9223372036854775807 by omega)];omega
 ·have:i=l.length:=by omega
  subst this
  rw[anyT_all] at hall
  exact hall
theorem used_ok (l:List GRec) (x:Int) (hl:okM l.length):VC Tryz.prog 130 [vRecS l,int .i64 x] [(false,[(.s,.sc (.bool (usedX l x)))])]:=by
 unfold okM at hl
 refine vc_of_ew good hm [0,1,4,7,8,9,10,6,21] Tryz.func130 rfl (by kernel_rfl) (by kernel_rfl) rfl ?_
 simp[Tryz.f130]
 refine ew_loop (fun E=> ∃i:Nat,i≤l.length∧anyT (usedR x) l i=false∧E= {nt:=23,sl:= [(1,int .i64 x),(7,vRecS l),(8,int .i64 l.length),(9,int .i64 i)],bx:= [],rt:= []}) (fun E=>l.length- (E.num 9).toNat) _ (Gh.kb _ [1,7,8,9] [] []) ⟨0,by omega,anyT_zero _ _,by simp⟩ ?_
 rintro E1 ⟨i,hi,hall,rfl⟩
 simp
 refine ⟨fun h=> ?_,fun h=> ?_⟩
 ·have ha:=anyT_succ (usedR x) dRec h
  rw[hall,Bool.false_or] at ha
  refine ⟨h,fun h1 h2=> ?_,fun hp=> .of _ (Gh.kb _ [1,7,8,9] [] []) ⟨i+1,by omega,by rw[ha];simpa [usedR] using hp, ?_⟩ ?_⟩
  ·exact List.any_eq_true.2 ⟨_,getD_mem dRec h,by simp[usedR,h1,h2]⟩
  ·simp[wrapS (show i<9223372036854775807 by omega)]
  ·simp[wrapS (show i<9223372036854775807 by omega)];omega
 ·have:i=l.length:=by omega
  subst this
  rw[anyT_all] at hall
  exact hall
theorem l07But_ok (l:List Int) (x:Int) (hl:l.length≤1048576):VC Tryz.prog 122 [vInts l,int .i64 x] [(false,mInts (l.filter (fun y=> !(y==x))))]:=by
 refine vc_of_ew good hm [0,1,4,5,9,10,11,12,7,17] Tryz.func122 rfl (by kernel_rfl) (by kernel_rfl) rfl ?_
 simp[Tryz.f122,vInts,mInts]
 refine ew_loop (fun E=> ∃i:Nat,i≤l.length∧E= {nt:=24,sl:= [(1,int .i64 x),(5,.v false [.r [8]]),(9,vInts l),(10,int .i64 l.length),(11,int .i64 i)],bx:= [],rt:=(mInts ((l.take i).filter (fun y=> !(y==x)))).map fun y=>(8,y)}) (fun E=>l.length- (E.num 11).toNat) _ (Gh.kb _ [1,5,9,10,11] [] [8]) ⟨0,by omega,by simp[vInts,mInts]⟩ ?_
 rintro E1 ⟨i,hi,rfl⟩
 have hfl:=List.length_filter_le (fun y=> !(y==x)) (l.take i)
 rw[List.length_take] at hfl
 simp[vInts,mInts]
 refine ⟨fun h=> ?_,fun h=> ?_⟩
 ·have ht:(l.take (i+1)).filter (fun y=> !(y==x))=(l.take i).filter (fun y=> !(y==x))++(if l[i]=x then [] else [l[i]]):=by
   rw[List.take_succ_eq_append_getElem h,List.filter_append]
   congr 1
   by_cases e:l[i]=x<;>simp[e]
  simp[h]
  refine ⟨fun e=>⟨by omega,.of _ ((Gh.kb _ [1,5,9,10,11] [] [21]).trans (Gh.rn _ 21 8)) ⟨i+1,by omega, ?_⟩ ?_⟩,fun e=> .of _ (Gh.kb _ [1,5,9,10,11] [] [8]) ⟨i+1,by omega, ?_⟩ ?_⟩
  ·rw[ht,if_neg e]
   simp[wrapS (show i<9223372036854775807 by omega),vInts,mInts]
  ·simp[wrapS (show i<9223372036854775807 by omega)];omega
  ·rw[ht,if_pos e]
   simp[wrapS (show i<9223372036854775807 by omega),vInts,mInts]
  ·simp[wrapS (show i<9223372036854775807 by omega)];omega
 ·have:i=l.length:=by omega
  subst this
  simp
theorem open_ok (l:List GRec) (hl:l.length≤1048576):VC Tryz.prog 77 [vRecS l] [(false,mInts (openL l))]:=by
 refine vc_of_ew good hm [0,2,3,7,8,9,10,5,22,35] Tryz.func77 rfl (by kernel_rfl) (by kernel_rfl) rfl ?_
 simp[Tryz.f77,mInts]
 refine ew_loop (fun E=> ∃i:Nat,i≤l.length∧E= {nt:=42,sl:= [(3,.v false [.r [6]]),(7,vRecS l),(8,int .i64 l.length),(9,int .i64 i)],bx:= [],rt:=(mInts (openL (l.take i))).map fun y=>(6,y)}) (fun E=>l.length- (E.num 9).toNat) _ (Gh.kb _ [3,7,8,9] [] [6]) ⟨0,by omega,by simp[mInts,openL]⟩ ?_
 rintro E1 ⟨i,hi,rfl⟩
 have hol:=openL_len (l.take i)
 rw[List.length_take] at hol
 have hos:=fun h=>openL_succ (l:=l) (i:=i) h
 generalize ho:openL (l.take i)=o at hol hos
 simp[mInts]
 refine ⟨fun h=> ?_,fun h=> ?_⟩
 ·replace hos:=hos h
  generalize hr:l[i]?.getD dRec=r at hos
  have hhas:=l07Has_ok o r.fXid (by unfold okM;omega)
  refine ⟨h,.of (fun g=>⟨g,hhas⟩) ?_⟩
  by_cases k1:r.fKind=1
  ·have k34: ¬(r.fKind=3∨r.fKind=4):=by omega
   simp[k1]
   refine ⟨fun hh=>⟨by omega,.of _ ((Gh.kb _ [3,7,8,9] [] [27]).trans (Gh.rn _ 27 6)) ⟨i+1,by omega, ?_⟩ ?_⟩,fun hh=> .of _ (Gh.kb _ [3,7,8,9] [] [6]) ⟨i+1,by omega, ?_⟩ ?_⟩
   ·rw[hos]
    simp[wrapS (show i<9223372036854775807 by omega),mInts,openStep,k1,hh]
   ·simp[wrapS (show i<9223372036854775807 by omega)];omega
   ·rw[hos]
    simp[wrapS (show i<9223372036854775807 by omega),mInts,openStep,k1,hh]
   ·simp[wrapS (show i<9223372036854775807 by omega)];omega
  ·simp[k1]
   refine ⟨fun k34=> .of (l07But_ok o r.fXid (by omega)) ?_,fun k3 k4=> .of _ (Gh.kb _ [3,7,8,9] [] [6]) ⟨i+1,by omega, ?_⟩ ?_⟩
   ·simp[mInts]
    refine .of _ ((Gh.kb _ [3,7,8,9] [] [39]).trans (Gh.rn _ 39 6)) ⟨i+1,by omega, ?_⟩ ?_
    ·rw[hos]
     simp[wrapS (show i<9223372036854775807 by omega),mInts,openStep,k1,k34]
    ·simp[wrapS (show i<9223372036854775807 by omega)];omega
   ·rw[hos]
    simp[wrapS (show i<9223372036854775807 by omega),mInts,openStep,k1,k3,k4]
   ·simp[wrapS (show i<9223372036854775807 by omega)];omega
 ·have:i=l.length:=by omega
  subst this
  rw[List.take_length] at ho
  rw[ho]
def recBad (l:List GRec) (r:GRec):Bool:= !recOk r||((decide (r.fKind=1)&&usedX l r.fXid)||(!decide (r.fKind=1)&& !hasI (openL l) r.fXid))
def playStep (l:List GRec) (db:GDb) (r:GRec):Option GDb:=
 if recBad l r=true then none else if r.fKind=3 then (if (execAll db (stmtsOf l r.fXid)).2.1≠0 then none else some (execAll db (stmtsOf l r.fXid)).1) else some db
def playTo (db:GDb) (l:List GRec):Nat→Option GDb
 |0=>some db
 |i+1=>(playTo db l i).bind fun D=>playStep (l.take i) D (l[i]?.getD dRec)
theorem playTo_none {db:GDb} {l:List GRec} {i:Nat} (h:playTo db l i=none): ∀j,i≤j→playTo db l j=none
 |j,hj=>by
  induction j with
  |zero=>cases Nat.le_zero.1 hj;exact h
  |succ j ih=>
   rcases Nat.lt_or_ge j i with hlt|hge
   ·have:i=j+1:=by omega
    rw[←this];exact h
   ·rw[playTo,ih hge];rfl
def play (db:GDb) (l:List GRec):Option GDb:=playTo db l l.length
theorem play_step {db D:GDb} {l:List GRec} {i:Nat} (h:playTo db l i=some D):playTo db l (i+1)=playStep (l.take i) D (l[i]?.getD dRec):=by
 rw[playTo,h]
 rfl
theorem play_no {db D:GDb} {l:List GRec} {i:Nat} (hi:i<l.length) (h:playTo db l i=some D) (hn:playStep (l.take i) D (l[i]?.getD dRec)=none):play db l=none:=playTo_none (i:=i+1) ((play_step h).trans hn) _ hi
theorem playStep_ok {l:List GRec} {db D:GDb} {r:GRec} (hd:dbOk db=true) (h:playStep l db r=some D):dbOk D=true:=by
 unfold playStep at h
 split at h
 ·cases h
 split at h
 ·split at h
  ·cases h
  ·rename_i h0
   cases h
   have h0:(execAll db (stmtsOf l r.fXid)).2.1=0:=by omega
   unfold execAll at h0⊢
   rw[if_neg (by simp[hd])] at h0⊢
   exact execL_ok hd h0
 ·cases h
  exact hd
theorem dbOk_nil:dbOk ⟨⟨[]⟩,[]⟩=true:=by decide
end Go.Proofs.YtanlbohhmoifcaaGreat
namespace Go.Proofs.YtanlbohhmoifcaaGreat
open Go Go.Proofs Go.Sm
attribute [local simp] ti eStr eInt eByte eVal vVal eCol vCol vColS vStrS eTable cTable vTable vTableS cCat vCat eValS vValS eRow cRow vRow vRowS eRows vRowsS cDb vDb eDdl cDdl vDdl eStmt cStmt vStmt eRec vRec eSlot vSlot eRecS vRecS eSlotS vSlotS vStmtS
set_option linter.unusedVariables false
set_option linter.unusedSimpArgs false
theorem stmtsOf_okS {l:List GRec} (h: ∀r∈l,okRec r) (x:Int): ∀s∈stmtsOf l x,okStmt s:=fun s hs=>by
 obtain ⟨r,hr,rfl⟩:=List.mem_map.1 hs
 exact (h r (List.mem_filter.1 hr).1).2.2.1
theorem l07Play_ok (l:List GRec) (hl:l.length≤1048576) (ho: ∀r∈l,okRec r) (hb: ∀r∈l,bdRec r):VC Tryz.prog 101 [vRecS l] [(true,fDb ((play dDb l).getD dDb)),(false,[(.s,.sc (.bool ((play dDb l).isSome&&decide (l.length≤400))))])]:=by
 refine vc_of_ewF good hm [0,2,3,4,11,12,13,14,6,5,48,52,7,8,66] Tryz.func101 rfl (by kernel_rfl) (by kernel_rfl) rfl ?_
 simp[Tryz.f101,fDb]
 refine ew_loop (fun E=> ∃ (i:Nat) (D:GDb),i≤l.length∧dbOk D=true∧playTo dDb l i=some D∧E= {nt:=74,sl:= [(0,vRecS l),(2,.p (.bx 2 0)),(4,.p (.bx 4 0)),(11,vRecS l),(12,int .i64 l.length),(13,int .i64 i)],bx:= [(2,[.n [Lf.sc (Value.string ⟨#[]⟩),Lf.ls [Lf.sc (Value.string ⟨#[]⟩),Lf.sc (Value.int IntKind.i64 0),Lf.sc (Value.bool false),Lf.sc (Value.bool false),Lf.sc (Value.int IntKind.i64 0),Lf.sc (Value.int IntKind.i64 0),Lf.sc (Value.string ⟨#[]⟩)] [],Lf.ls [Lf.sc (Value.string ⟨#[]⟩)] []],.n [Lf.ls [Lf.ls [Lf.sc (Value.int IntKind.i64 0),Lf.sc (Value.int IntKind.i64 0),Lf.sc (Value.string ⟨#[]⟩)] []] []]]),(4,[.s (.ls [Lf.sc (Value.string ⟨#[]⟩),Lf.ls [Lf.sc (Value.string ⟨#[]⟩),Lf.sc (Value.int IntKind.i64 0),Lf.sc (Value.bool false),Lf.sc (Value.bool false),Lf.sc (Value.int IntKind.i64 0),Lf.sc (Value.int IntKind.i64 0),Lf.sc (Value.string ⟨#[]⟩)] [],Lf.ls [Lf.sc (Value.string ⟨#[]⟩)] []] (D.fCat.fTables.map eTable)),.s (.ls [Lf.ls [Lf.ls [Lf.sc (Value.int IntKind.i64 0),Lf.sc (Value.int IntKind.i64 0),Lf.sc (Value.string ⟨#[]⟩)] []] []] (D.fData.map eRows))])],rt:= []}) (fun E=>l.length- (E.num 13).toNat) _ ((Gh.nilB _ 4).trans (Gh.kb _ [0,2,4,11,12,13] [2,4] [])) ⟨0,dDb,by omega,dbOk_nil,rfl,by simp[dDb,dCat]⟩ ?_
 rintro E1 ⟨i,D,hi,hD,hx,rfl⟩
 simp
 have hst:=play_step hx
 have hno:=fun (h:i<l.length)=>play_no h hx
 generalize hr:l[i]?.getD dRec=r at hst hno
 have htl:(l.take i).length≤1048576:=by simp;omega
 refine ⟨fun hil=> ?_,fun hil=> ?_⟩
 ·have hrm:r∈l:=by rw[←hr];exact getD_mem dRec hil
  have hor:=ho r hrm
  have hbr:=hb r hrm
  refine ⟨hil,.of (recOkS_ok r hor) ?_⟩
  simp
  have hm:(l.take i).map eRec=(l.map eRec).take i:=List.map_take ..
  have hu:=used_ok (l.take i) r.fXid (by unfold okM;omega)
  have hop:=open_ok (l.take i) htl
  have hso:=stmtsOfS_ok (l.take i) r.fXid htl (fun r hr=>hb r (List.mem_of_mem_take hr))
  unfold vRecS at hu hop hso
  rw[hm] at hu hop hso
  have hol:=openL_len (l.take i)
  have hha:=l07Has_ok (openL (l.take i)) r.fXid (by rw[List.length_take] at hol;unfold okM;omega)
  refine ⟨fun _ q=>⟨⟨‹_›,q⟩,by omega⟩,.of (fun g=>⟨g,hu⟩) ?_⟩
  simp
  refine ⟨fun a=>⟨a,fun b=>⟨a,b⟩⟩,fun a b c=>⟨⟨⟨a,b⟩,c⟩,by omega⟩,.of (fun g=>⟨g,hop⟩) ?_⟩
  simp[mInts,FullRs,FullML]
  refine .of (fun g=>⟨g,hha⟩) ?_
  simp
  clear hu hop
  have hps:playStep (l.take i) D r=if recBad (l.take i) r=true then none else if r.fKind=3 then (if (execAll D (stmtsOf (l.take i) r.fXid)).2.1≠0 then none else some (execAll D (stmtsOf (l.take i) r.fXid)).1) else some D:=rfl
  refine ⟨fun a b=>⟨⟨a,b⟩,fun c=>⟨⟨a,b⟩,c⟩⟩,fun a b=>⟨a,by grind⟩,fun hbad=> ?_,fun a b c=> ?_⟩
  ·have hbd:recBad (l.take i) r=true:=by
    unfold recBad
    rcases hbad with (h|h)|h
    ·simp[h]
    ·simp[h.1,h.2]
    ·simp[h.1,h.2]
   have hpl:=hno hil (by rw[hps,if_pos hbd])
   rw[hpl]
   simp[dDb,dCat]
  ·have hbd: ¬recBad (l.take i) r=true:=by
    unfold recBad
    simp only[a,Bool.not_true,Bool.false_or,Bool.or_eq_true,Bool.and_eq_true,decide_eq_true_eq,Bool.not_eq_true',decide_eq_false_iff_not]
    grind
   rw[if_neg hbd] at hps
   refine ⟨fun k3=>⟨by omega,.of (hso.frz (by simp[FullRs,FullML,mStmtS])) ?_⟩,fun k3=> ?_⟩
   ·rw[if_pos k3] at hps
    have hex:=execAllS_ok D (stmtsOf (l.take i) r.fXid) (dbOk_ok hD) (dbOk_key hD) (stmtsOf_okS (fun r hr=>ho r (List.mem_of_mem_take hr)) _) (by have:=stmtsOf_len (l.take i) r.fXid;unfold okM;omega)
    simp[mStmtS]
    refine .of hex ?_
    simp[fDb]
    refine ⟨fun h=> ?_,fun h=> ?_⟩
    ·have hpl:=hno hil (by rw[hps,if_pos h])
     rw[hpl]
     simp[dDb,dCat]
    ·rw[if_neg (by simp[h])] at hps
     rw[hps] at hst
     refine .of _ (Gh.kb _ [0,2,4,11,12,13] [2,4] []) ⟨i+1,by omega,_,playStep_ok hD hps,hst, ?_⟩ ?_
     ·simp[wrapS (show i<9223372036854775807 by omega),md,lf,List.range']
     ·simp[wrapS (show i<9223372036854775807 by omega)];omega
   ·rw[if_neg k3] at hps
    rw[hps] at hst
    refine .of _ (Gh.kb _ [0,2,4,11,12,13] [2,4] []) ⟨i+1,by omega,D,hD,hst, ?_⟩ ?_
    ·simp[wrapS (show i<9223372036854775807 by omega)]
    ·simp[wrapS (show i<9223372036854775807 by omega)];omega
 ·have:i=l.length:=by omega
  subst this
  have hp:play dDb l=some D:=hx
  simp[hp,hil]
  omega
theorem logOkS_ok (l:List GRec) (hl:l.length≤1048576) (ho: ∀r∈l,okRec r) (hb: ∀r∈l,bdRec r):VC Tryz.prog 68 [vRecS l] [(false,[(.s,.sc (.bool (decide (l.length≤400)&& (play dDb l).isSome)))])]:=by
 refine vc_of_ew good hm [0,2,7,4] Tryz.func68 rfl (by kernel_rfl) (by kernel_rfl) rfl ?_
 simp[Tryz.f68]
 refine ⟨fun h=> ?_,fun h=> .of (l07Play_ok l hl ho hb) ?_⟩
 ·intro h2
  omega
 ·simp[fDb]
  rw[Bool.and_comm]
end Go.Proofs.YtanlbohhmoifcaaGreat
namespace Go.Proofs.YtanlbohhmoifcaaGreat
open Go Go.Proofs Go.Sm
attribute [local simp] ti eStr eInt eByte eVal vVal eCol vCol vColS vStrS eTable cTable vTable vTableS cCat vCat eValS vValS eRow cRow vRow vRowS eRows vRowsS cDb vDb eDdl cDdl vDdl eStmt cStmt vStmt eRec vRec eSlot vSlot eRecS vRecS eSlotS vSlotS vStmtS
set_option linter.unusedVariables false
set_option linter.unusedSimpArgs false
theorem openL_sub: ∀ {l:List GRec} {y:Int},y∈openL l→usedX l y=true:=by
 have key: ∀ (l:List GRec) (o:List Int) (y:Int),y∈l.foldl openStep o→y∈o∨usedX l y=true:=by
  intro l
  induction l with
  |nil=>exact fun o y h=> .inl h
  |cons r l ih=>
   intro o y h
   rcases ih _ _ h with h|h
   ·unfold openStep at h
    split at h
    ·rename_i k1
     split at h
     ·exact .inl h
     ·rcases List.mem_append.1 h with h|h
      ·exact .inl h
      ·right
       simp[usedX,usedR,k1,List.mem_singleton.1 h]
    split at h
    ·exact .inl (List.mem_filter.1 h).1
    ·exact .inl h
   ·right
    simp only[usedX,List.any_cons] at h⊢
    rw[h,Bool.or_true]
 intro l y h
 exact (key l [] y h).resolve_left (by simp)
def begs (l:List GRec):List Int:=(l.filter (fun r=>decide (r.fKind=1))).map (·.fXid)
theorem begs_has (l:List GRec) (x:Int):hasI (begs l) x=usedX l x:=by
 unfold hasI begs usedX usedR
 induction l with
 |nil=>rfl
 |cons r l ih=>
  by_cases k:r.fKind=1
  ·simp only[List.filter_cons,k,decide_true,if_true,List.map_cons,List.any_cons,ih,Bool.true_and]
   congr 1
   by_cases e:r.fXid=x
   ·rw[e];simp
   ·rw[decide_eq_false e,beq_false_of_ne (Ne.symm e)]
  ·simp only[List.filter_cons,k,decide_false,List.any_cons,ih,Bool.false_and,Bool.false_or]
   simpa using ih
theorem begs_succ {l:List GRec} {i:Nat} (h:i<l.length):begs (l.take (i+1))=if (l[i]?.getD dRec).fKind=1 then begs (l.take i)++ [(l[i]?.getD dRec).fXid] else begs (l.take i):=by
 unfold begs
 rw[take_row dRec h,List.filter_append,List.map_append]
 by_cases k:(l[i]?.getD dRec).fKind=1<;>simp[k]
theorem begs_len (l:List GRec):(begs l).length≤l.length:=by
 unfold begs
 rw[List.length_map]
 exact List.length_filter_le _ _
theorem walk1_ok (r:GRec) (y:Int):VC Tryz.prog 163 [int .i64 y,.p (.ps (eRec r))] [(false,[(.s,.sc (.bool (y==r.fXid)))])]:=by
 refine vc_of_ew good hm [0,1,3] Tryz.func163 rfl (by kernel_rfl) (by kernel_rfl) rfl ?_
 simp[Tryz.f163,eRec]
theorem walk_ok (d:GDb) (l:List GRec) (f:Nat) (hf: ∀n D,VC Tryz.prog f [int .i64 n,vDb D] []) (hd:dbOk d=true) (hl:l.length≤1048576) (ho: ∀r∈l,okRec r) (hb: ∀r∈l,bdRec r):VC Tryz.prog 117 [vDb d,vRecS l,.fn f []] [(true,fDb ((play d l).getD dDb)),(false,[(.s,.sc (.bool (play d l).isSome))])]:=by
 refine vc_of_ewF good hm [0,1,2,3,6,7,8,9,17,18,19,20,11,10,26,30,34,50,54,12,13,68,78] Tryz.func117 rfl (by kernel_rfl) (by kernel_rfl) rfl ?_
 simp[Tryz.f117,fDb]
 refine ew_loop (fun E=> ∃ (i:Nat) (D:GDb),i≤l.length∧dbOk D=true∧playTo d l i=some D∧E= {nt:=84,sl:= [(1,vRecS l),(2,.fn f []),(3,.p (.bx 3 0)),(6,.p (.bx 6 0)),(8,.v false [.r [15]]),(9,.v false [.r [16]]),(17,vRecS l),(18,int .i64 l.length),(19,int .i64 i)],bx:= [(3,[.s (.ls [Lf.sc (Value.string ⟨#[]⟩),Lf.ls [Lf.sc (Value.string ⟨#[]⟩),Lf.sc (Value.int IntKind.i64 0),Lf.sc (Value.bool false),Lf.sc (Value.bool false),Lf.sc (Value.int IntKind.i64 0),Lf.sc (Value.int IntKind.i64 0),Lf.sc (Value.string ⟨#[]⟩)] [],Lf.ls [Lf.sc (Value.string ⟨#[]⟩)] []] (D.fCat.fTables.map eTable)),.s (.ls [Lf.ls [Lf.ls [Lf.sc (Value.int IntKind.i64 0),Lf.sc (Value.int IntKind.i64 0),Lf.sc (Value.string ⟨#[]⟩)] []] []] (D.fData.map eRows))]),(6,[.n [Lf.sc (Value.string ⟨#[]⟩),Lf.ls [Lf.sc (Value.string ⟨#[]⟩),Lf.sc (Value.int IntKind.i64 0),Lf.sc (Value.bool false),Lf.sc (Value.bool false),Lf.sc (Value.int IntKind.i64 0),Lf.sc (Value.int IntKind.i64 0),Lf.sc (Value.string ⟨#[]⟩)] [],Lf.ls [Lf.sc (Value.string ⟨#[]⟩)] []],.n [Lf.ls [Lf.ls [Lf.sc (Value.int IntKind.i64 0),Lf.sc (Value.int IntKind.i64 0),Lf.sc (Value.string ⟨#[]⟩)] []] []]])],rt:= [(15,.o 3 (fun _=> [Md.s]),.ls [Lf.sc (Value.int IntKind.i64 0)] ((openL (l.take i)).map eInt)),(16,.o 3 (fun _=> [Md.s]),.ls [Lf.sc (Value.int IntKind.i64 0)] ((begs (l.take i)).map eInt))]}) (fun E=>l.length- (E.num 19).toNat) _ (Gh.kb _ [1,2,3,6,8,9,17,18,19] [3,6] [15,16]) ⟨0,d,by omega,hd,rfl,by simp[openL,begs]⟩ ?_
 rintro E1 ⟨i,D,hi,hD,hx,rfl⟩
 simp
 have hst:=play_step hx
 have hno:=fun (h:i<l.length)=>play_no h hx
 have hos:=fun (h:i<l.length)=>openL_succ h
 have hbs:=fun (h:i<l.length)=>begs_succ h
 generalize hr:l[i]?.getD dRec=r at hst hno hos hbs
 have htl:(l.take i).length≤1048576:=by simp;omega
 have hol:=openL_len (l.take i)
 have hbl:=begs_len (l.take i)
 refine ⟨fun hil=> ?_,fun hil=> ?_⟩
 ·have hrm:r∈l:=by rw[←hr];exact getD_mem dRec hil
  have hor:=ho r hrm
  have hbr:=hb r hrm
  refine ⟨hil,.of (recOkI_ok r hor hbr.2.2.1 hbr.2.2.2) ?_⟩
  simp
  have hps:playStep (l.take i) D r=if recBad (l.take i) r=true then none else if r.fKind=3 then (if (execAll D (stmtsOf (l.take i) r.fXid)).2.1≠0 then none else some (execAll D (stmtsOf (l.take i) r.fXid)).1) else some D:=rfl
  rw[List.length_take] at hol hbl
  have hbc:VC Tryz.prog 124 [vInts (begs (l.take i)),int .i64 r.fXid] [(false,[(.s,.sc (.bool (hasI (begs (l.take i)) r.fXid)))])]:=containsInt_ok (begs (l.take i)) r.fXid (by unfold okM;omega)
  have hoc:VC Tryz.prog 124 [vInts (openL (l.take i)),int .i64 r.fXid] [(false,[(.s,.sc (.bool (hasI (openL (l.take i)) r.fXid)))])]:=containsInt_ok (openL (l.take i)) r.fXid (by unfold okM;omega)
  rw[begs_has] at hbc
  have hfail:recBad (l.take i) r=true→play d l=none:=fun hbd=>hno hil (by rw[hps,if_pos hbd])
  refine ⟨fun a=> ?_,fun a=>⟨fun k1=> .of hbc ?_,fun k1=> .of hoc ?_⟩⟩
  ·have hpl:=hfail (by simp[recBad,a])
   rw[hpl]
   simp[dDb,dCat]
  ·simp
   refine ⟨fun hu=> ?_,fun hu=>⟨by omega,by omega,.of _ ((Gh.kb _ [1,2,3,6,8,9,17,18,19] [3,6] [45,40]).trans ((Gh.rn _ 45 15).trans (Gh.rn _ 40 16))) ⟨i+1,by omega,D,hD, ?_, ?_⟩ ?_⟩⟩
   ·rw[hfail (by simp[recBad,k1,hu])]
    simp[dDb,dCat]
   ·rw[hst,hps,if_neg (by simp[recBad,a,k1,hu]),if_neg (by omega)]
   ·have hno2:hasI (openL (l.take i)) r.fXid=false:=by
     cases hq:hasI (openL (l.take i)) r.fXid with
     |false=>rfl
     |true=>
      obtain ⟨y,hy,e⟩:=List.any_eq_true.1 hq
      rw[beq_iff_eq] at e
      rw[e,openL_sub hy] at hu
      cases hu
    rw[hos hil,hbs hil,if_pos k1]
    simp[wrapS (show i<9223372036854775807 by omega),openStep,k1,hno2]
   ·simp[wrapS (show i<9223372036854775807 by omega)];omega
  ·simp
   have hm:(l.take i).map eRec=(l.map eRec).take i:=List.map_take ..
   have hso:=stmtsOfI_ok (l.take i) r.fXid htl (fun r hr=>hb r (List.mem_of_mem_take hr))
   unfold vRecS at hso
   rw[hm] at hso
   refine ⟨fun hu=> ?_,fun hu=>⟨fun k3=>⟨by omega,.of (hso.frz (by simp[FullRs,FullML,mStmtS])) ?_⟩,fun k3=> ?_⟩⟩
   ·rw[hfail (by simp[recBad,k1,hu])]
    simp[dDb,dCat]
   ·have hex:=execAllI_ok D (stmtsOf (l.take i) r.fXid) (dbOk_ok hD) (dbOk_key hD) (fun s hs=>⟨stmtsOf_okS (fun r hr=>ho r (List.mem_of_mem_take hr)) _ s hs,by
     obtain ⟨r',hr',rfl⟩:=List.mem_map.1 hs
     exact hb r' (List.mem_of_mem_take (List.mem_filter.1 hr').1)⟩) (by have:=stmtsOf_len (l.take i) r.fXid;unfold okM;omega)
    simp[mStmtS]
    refine .of hex ?_
    simp[fDb]
    rw[if_neg (by simp[recBad,a,k1,hu]),if_pos k3] at hps
    refine ⟨fun h=> ?_,fun h=> ?_⟩
    ·rw[hno hil (by rw[hps,if_pos h])]
     simp[dDb,dCat]
    ·rw[if_neg (by simp[h])] at hps
     rw[hps] at hst
     refine .of (hf _ D) ?_
     simp[k3,md,lf,List.range']
     refine .use (delFuncInt_ok (openL (l.take i)) _ (eRec r) (fun y=>y==r.fXid) (by omega) (fun x _=>walk1_ok r x)) ?_
     simp[mInts]
     refine ⟨k3,.of _ ((Gh.kb _ [1,2,3,6,8,9,17,18,19] [3,6] [81,16]).trans (Gh.rn _ 81 15)) ⟨i+1,by omega,_,playStep_ok hD hps,hst, ?_⟩ ?_⟩
     ·rw[hos hil,hbs hil,if_neg k1]
      simp[wrapS (show i<9223372036854775807 by omega),openStep,k1,k3,md,lf,List.range']
     ·simp[wrapS (show i<9223372036854775807 by omega)];omega
   ·rw[if_neg (by simp[recBad,a,k1,hu]),if_neg k3] at hps
    rw[hps] at hst
    refine ⟨fun k2=> ?_,fun k2=> ?_⟩
    ·have k4:r.fKind=4:=by
      have:within r.fKind 1 4=true:=by
       have:=a
       simp only[recOk,Bool.and_eq_true] at this
       exact this.1
      simp only[within,Bool.and_eq_true,decide_eq_true_eq] at this
      omega
     refine .use (delFuncInt_ok (openL (l.take i)) _ (eRec r) (fun y=>y==r.fXid) (by omega) (fun x _=>walk1_ok r x)) ?_
     simp[mInts]
     refine .of _ ((Gh.kb _ [1,2,3,6,8,9,17,18,19] [3,6] [81,16]).trans (Gh.rn _ 81 15)) ⟨i+1,by omega,D,hD,hst, ?_⟩ ?_
     ·rw[hos hil,hbs hil,if_neg k1]
      simp[wrapS (show i<9223372036854775807 by omega),openStep,k1,k4]
     ·simp[wrapS (show i<9223372036854775807 by omega)];omega
    ·refine .of _ (Gh.kb _ [1,2,3,6,8,9,17,18,19] [3,6] [15,16]) ⟨i+1,by omega,D,hD,hst, ?_⟩ ?_
     ·rw[hos hil,hbs hil,if_neg k1]
      simp[wrapS (show i<9223372036854775807 by omega),openStep,k2]
     ·simp[wrapS (show i<9223372036854775807 by omega)];omega
 ·have:i=l.length:=by omega
  subst this
  have hp:play d l=some D:=hx
  simp[hp]
theorem logOk1_ok (n:Int) (D:GDb):VC Tryz.prog 119 [int .i64 n,vDb D] []:=by
 refine vc_of_ew good hm [1] Tryz.func119 rfl (by kernel_rfl) (by kernel_rfl) rfl ?_
 simp[Tryz.f119]
theorem logOkI_ok (l:List GRec) (hl:l.length≤1048576) (ho: ∀r∈l,okRec r) (hb: ∀r∈l,bdRec r):VC Tryz.prog 69 [vRecS l] [(false,[(.s,.sc (.bool (decide (l.length≤400)&& (play dDb l).isSome)))])]:=by
 refine vc_of_ew good hm [0,2,7,4] Tryz.func69 rfl (by kernel_rfl) (by kernel_rfl) rfl ?_
 simp[Tryz.f69]
 refine ⟨fun h=> ?_,fun h=> .of (walk_ok dDb l _ (fun n D=>logOk1_ok n D) dbOk_nil hl ho hb) ?_⟩
 ·intro h2
  omega
 ·simp[fDb]
  omega
end Go.Proofs.YtanlbohhmoifcaaGreat
namespace Go.Proofs.YtanlbohhmoifcaaGreat
open Go Go.Proofs Go.Sm
attribute [local simp] ti eStr eInt eByte eVal vVal eCol vCol vColS vStrS eTable cTable vTable vTableS cCat vCat eValS vValS eRow cRow vRow vRowS eRows vRowsS cDb vDb eDdl cDdl vDdl eStmt cStmt vStmt eRec vRec eSlot vSlot eRecS vRecS eSlotS vSlotS vStmtS
set_option linter.unusedVariables false
set_option linter.unusedSimpArgs false
def logOk (l:List GRec):Bool:=decide (l.length≤400)&& (play dDb l).isSome
theorem playTo_take {d:GDb} {l:List GRec} {n:Nat}: ∀i,i≤n→playTo d (l.take n) i=playTo d l i
 |0,_=>rfl
 |i+1,h=>by
  rw[playTo,playTo,playTo_take i (by omega),List.take_take,Nat.min_eq_left (by omega),List.getElem?_take,if_pos (by omega)]
theorem play_app (d:GDb) (l:List GRec) (r:GRec):play d (l++ [r])=(play d l).bind fun D=>playStep l D r:=by
 have h1:playTo d (l++ [r]) l.length=playTo d l l.length:=by
  have:=playTo_take (d:=d) (l:=l++ [r]) (n:=l.length) l.length (Nat.le_refl _)
  rw[List.take_left] at this
  exact this.symm
 unfold play
 rw[List.length_append,List.length_singleton,playTo,h1,List.take_left]
 congr 1
 funext D
 congr 1
 simp
theorem playTo_ok {d:GDb} {l:List GRec} (hd:dbOk d=true): ∀ {i:Nat} {D:GDb},playTo d l i=some D→dbOk D=true
 |0,D,h=>by
  simp only[playTo,Option.some.injEq] at h
  rw[←h]
  exact hd
 |i+1,D,h=>by
  rw[playTo] at h
  cases hs:playTo d l i with
  |none=>rw[hs] at h;cases h
  |some D0=>
   rw[hs] at h
   exact playStep_ok (playTo_ok hd hs) h
theorem play_ok {d D:GDb} {l:List GRec} (hd:dbOk d=true) (h:play d l=some D):dbOk D=true:=playTo_ok hd h
def logDb (l:List GRec):GDb:=(play dDb l).getD dDb
theorem logDb_ok (l:List GRec):dbOk (logDb l)=true:=by
 unfold logDb
 cases h:play dDb l with
 |none=>exact dbOk_nil
 |some D=>exact play_ok dbOk_nil h
theorem logOk_len {l:List GRec} (h:logOk l=true):l.length≤400:=by
 simp only[logOk,Bool.and_eq_true,decide_eq_true_eq] at h
 exact h.1
def addR (l:List GRec) (r:GRec):List GRec×Int:=
 if logOk l=false∨recOk r=false then ([],1) else if r.fKind=1∧usedX l r.fXid=true then ([],2) else if r.fKind≠1∧hasI (openL l) r.fXid=false then ([],3) else
 if l.length=400 then ([],4) else if r.fKind=3∧(execAll (logDb l) (stmtsOf l r.fXid)).2.1≠0 then ([],5) else (l++ [r],0)
theorem logOk_app {l:List GRec} {r:GRec} (h:logOk l=true) (h1:recOk r=true) (h2: ¬(r.fKind=1∧usedX l r.fXid=true)) (h3: ¬(r.fKind≠1∧hasI (openL l) r.fXid=false)) (h4:l.length≠400):
  logOk (l++ [r])= !decide (r.fKind=3∧(execAll (logDb l) (stmtsOf l r.fXid)).2.1≠0):=by
 have hl:=logOk_len h
 have hb:recBad l r=false:=by
  unfold recBad
  rw[h1]
  by_cases k:r.fKind=1
  ·have:usedX l r.fXid=false:=by simpa using fun e=>h2 ⟨k,e⟩
   simp[k,this]
  ·have:hasI (openL l) r.fXid=true:=by
    cases hh:hasI (openL l) r.fXid with
    |true=>rfl
    |false=>exact absurd ⟨k,hh⟩ h3
   simp[k,this]
 simp only[logOk,Bool.and_eq_true] at h
 obtain ⟨D,hD⟩:=Option.isSome_iff_exists.1 h.2
 have e:logDb l=D:=by simp[logDb,hD]
 rw[logOk,play_app,hD,e]
 simp only[Option.bind_some,playStep,hb,Bool.false_eq_true,if_false,List.length_append,List.length_singleton]
 by_cases k:r.fKind=3
 ·by_cases c:(execAll D (stmtsOf l r.fXid)).2.1=0
  ·simp[k,c];omega
  ·simp[k,c]
 ·simp[k];omega
end Go.Proofs.YtanlbohhmoifcaaGreat
namespace Go.Proofs.YtanlbohhmoifcaaGreat
open Go Go.Proofs Go.Sm
attribute [local simp] ti eStr eInt eByte eVal vVal eCol vCol vColS vStrS eTable cTable vTable vTableS cCat vCat eValS vValS eRow cRow vRow vRowS eRows vRowsS cDb vDb eDdl cDdl vDdl eStmt cStmt vStmt eRec vRec eSlot vSlot eRecS vRecS eSlotS vSlotS vStmtS
set_option linter.unusedVariables false
set_option linter.unusedSimpArgs false
def tailOk (t:GTail):Bool:=within t.fBase 0 400&& (dbOk t.fDb&& (decide (t.fBase+t.fRecs.length≤400)&& (play t.fDb t.fRecs).isSome))
end Go.Proofs.YtanlbohhmoifcaaGreat
namespace Go.Proofs.YtanlbohhmoifcaaGreat
open Go Go.Proofs Go.Sm
attribute [local simp] ti eStr eInt eByte eVal vVal eCol vCol vColS vStrS eTable cTable vTable vTableS cCat vCat eValS vValS eRow cRow vRow vRowS eRows vRowsS cDb vDb eDdl cDdl vDdl eStmt cStmt vStmt eRec vRec eSlot vSlot eRecS vRecS eSlotS vSlotS vStmtS
set_option linter.unusedVariables false
set_option linter.unusedSimpArgs false
theorem open1_ok (r:GRec) (y:Int):VC Tryz.prog 126 [int .i64 y,.p (.ps (eRec r))] [(false,[(.s,.sc (.bool (y==r.fXid)))])]:=by
 refine vc_of_ew good hm [0,1,3] Tryz.func126 rfl (by kernel_rfl) (by kernel_rfl) rfl ?_
 simp[Tryz.f126,eRec]
theorem openI_ok (l:List GRec) (hl:l.length≤1048576):VC Tryz.prog 81 [vRecS l] [(false,mInts (openL l))]:=by
 refine vc_of_ew good hm [0,2,3,7,8,9,10,5,14,15,21,27] Tryz.func81 rfl (by kernel_rfl) (by kernel_rfl) rfl ?_
 simp[Tryz.f81,mInts]
 refine ew_loop (fun E=> ∃i:Nat,i≤l.length∧E= {nt:=35,sl:= [(3,.v false [.r [6]]),(7,vRecS l),(8,int .i64 l.length),(9,int .i64 i)],bx:= [],rt:=(mInts (openL (l.take i))).map fun y=>(6,y)}) (fun E=>l.length- (E.num 9).toNat) _ (Gh.kb _ [3,7,8,9] [] [6]) ⟨0,by omega,by simp[mInts,openL]⟩ ?_
 rintro E1 ⟨i,hi,rfl⟩
 have hol:=openL_len (l.take i)
 rw[List.length_take] at hol
 have hos:=fun h=>openL_succ (l:=l) (i:=i) h
 generalize ho:openL (l.take i)=o at hol hos
 simp[mInts]
 refine ⟨fun h=> ?_,fun h=> ?_⟩
 ·replace hos:=hos h
  generalize hr:l[i]?.getD dRec=r at hos
  have hoc:VC Tryz.prog 124 [vInts o,int .i64 r.fXid] [(false,[(.s,.sc (.bool (hasI o r.fXid)))])]:=containsInt_ok o r.fXid (by unfold okM;omega)
  refine ⟨h, ?_⟩
  by_cases k1:r.fKind=1
  ·have k34: ¬(r.fKind=3∨r.fKind=4):=by omega
   simp[k1]
   refine .of hoc ?_
   simp
   refine ⟨fun hh=>⟨by omega,.of _ ((Gh.kb _ [3,7,8,9] [] [26]).trans (Gh.rn _ 26 6)) ⟨i+1,by omega, ?_⟩ ?_⟩,fun hh=> .of _ (Gh.kb _ [3,7,8,9] [] [6]) ⟨i+1,by omega, ?_⟩ ?_⟩
   ·rw[hos]
    simp[wrapS (show i<9223372036854775807 by omega),mInts,openStep,k1,hh]
   ·simp[wrapS (show i<9223372036854775807 by omega)];omega
   ·rw[hos]
    simp[wrapS (show i<9223372036854775807 by omega),mInts,openStep,k1,hh]
   ·simp[wrapS (show i<9223372036854775807 by omega)];omega
  ·by_cases k34:r.fKind=3∨r.fKind=4
   ·have hst:openStep o r=o.filter (fun y=> !(y==r.fXid)):=by unfold openStep;rw[if_neg k1,if_pos k34]
    have hdl:=delFuncInt_ok o 126 (eRec r) (fun y=>y==r.fXid) (by omega) (fun x _=>open1_ok r x)
    rcases k34 with k3|k4
    ·simp[k3]
     simp[eRec,k3] at hdl
     refine .use hdl ?_
     simp[mInts]
     refine .of _ ((Gh.kb _ [3,7,8,9] [] [32]).trans (Gh.rn _ 32 6)) ⟨i+1,by omega, ?_⟩ ?_
     ·rw[hos,hst]
      simp[wrapS (show i<9223372036854775807 by omega),mInts]
     ·simp[wrapS (show i<9223372036854775807 by omega)];omega
    ·simp[k4]
     simp[eRec,k4] at hdl
     refine .use hdl ?_
     simp[mInts]
     refine .of _ ((Gh.kb _ [3,7,8,9] [] [32]).trans (Gh.rn _ 32 6)) ⟨i+1,by omega, ?_⟩ ?_
     ·rw[hos,hst]
      simp[wrapS (show i<9223372036854775807 by omega),mInts]
     ·simp[wrapS (show i<9223372036854775807 by omega)];omega
   ·have hst:openStep o r=o:=by unfold openStep;rw[if_neg k1,if_neg k34]
    have k3: ¬r.fKind=3:=fun e=>k34 (.inl e)
    have k4: ¬r.fKind=4:=fun e=>k34 (.inr e)
    simp[k1,k3,k4]
    refine .of _ (Gh.kb _ [3,7,8,9] [] [6]) ⟨i+1,by omega, ?_⟩ ?_
    ·rw[hos,hst]
     simp[wrapS (show i<9223372036854775807 by omega),mInts]
    ·simp[wrapS (show i<9223372036854775807 by omega)];omega
 ·have:i=l.length:=by omega
  subst this
  rw[List.take_length] at ho
  rw[ho]
theorem used1_ok (r:GRec) (x:Int):VC Tryz.prog 198 [vRec r,.p (.ps [.sc (.int .i64 x)])] [(false,[(.s,.sc (.bool (usedR x r)))])]:=by
 refine vc_of_ew good hm [0,1,2,3] Tryz.func198 rfl (by kernel_rfl) (by kernel_rfl) rfl ?_
 simp[Tryz.f198,usedR]
 by_cases e:r.fXid=x<;>simp[e]
theorem usedI_ok (l:List GRec) (x:Int) (hl:okM l.length):VC Tryz.prog 171 [vRecS l,int .i64 x] [(false,[(.s,.sc (.bool (usedX l x)))])]:=by
 refine vc_of_ew good hm [0,1,3,4] Tryz.func171 rfl (by kernel_rfl) (by kernel_rfl) rfl ?_
 simp[Tryz.f171]
 refine .of (hasRec1_ok l _ _ (usedR x) hl (fun y _=>used1_ok y x)) ?_
 simp[usedX]
end Go.Proofs.YtanlbohhmoifcaaGreat
namespace Go.Proofs.YtanlbohhmoifcaaGreat
open Go Go.Proofs Go.Sm
attribute [local simp] ti eStr eInt eByte eVal vVal eCol vCol vColS vStrS eTable cTable vTable vTableS cCat vCat eValS vValS eRow cRow vRow vRowS eRows vRowsS cDb vDb eDdl cDdl vDdl eStmt cStmt vStmt eRec vRec eSlot vSlot eRecS vRecS eSlotS vSlotS vStmtS
set_option linter.unusedVariables false
set_option linter.unusedSimpArgs false
theorem copyRecs_ok (l:List GRec) (hl:l.length≤1048576) (hb: ∀r∈l,bdRec r):VC Tryz.prog 84 [vRecS l] [(false,mRecS l)]:=by
 refine vc_of_ew good hm [0,2,3,6,7,8,9,5] Tryz.func84 rfl (by kernel_rfl) (by kernel_rfl) rfl ?_
 simp[Tryz.f84,mRecS]
 refine ew_loop (fun E=> ∃i:Nat,i≤l.length∧E= {nt:=22,sl:= [(3,.v false [.r [990]]),(6,vRecS l),(7,int .i64 l.length),(8,int .i64 i)],bx:= [],rt:=(mRecS (l.take i)).map fun y=>(990,y)}) (fun E=>l.length- (E.num 8).toNat) _ ((Gh.nlS _ 3 0 990 106 (fun _=> [Md.s,Md.s,Md.s,Md.s,(Md.o 152 (fun _=> [Md.s,Md.s,Md.s])),(Md.o 152 (fun _=> [Md.s,Md.s,Md.s])),Md.s,Md.s,(Md.o 154 (fun _=> [Md.s,Md.s,Md.s,Md.s,Md.s,Md.s,Md.s])),Md.o 9 (fun _=> [Md.s]),Md.s,Md.s]) [Lf.sc (Value.int IntKind.i64 0),Lf.sc (Value.int IntKind.i64 0),Lf.sc (Value.int IntKind.i64 0),Lf.sc (Value.string ⟨#[]⟩),Lf.ls [Lf.sc (Value.int IntKind.i64 0),Lf.sc (Value.int IntKind.i64 0),Lf.sc (Value.string ⟨#[]⟩)] [],Lf.ls [Lf.sc (Value.int IntKind.i64 0),Lf.sc (Value.int IntKind.i64 0),Lf.sc (Value.string ⟨#[]⟩)] [],Lf.sc (Value.int IntKind.i64 0),Lf.sc (Value.string ⟨#[]⟩),Lf.ls [Lf.sc (Value.string ⟨#[]⟩),Lf.sc (Value.int IntKind.i64 0),Lf.sc (Value.bool false),Lf.sc (Value.bool false),Lf.sc (Value.int IntKind.i64 0),Lf.sc (Value.int IntKind.i64 0),Lf.sc (Value.string ⟨#[]⟩)] [],Lf.ls [Lf.sc (Value.string ⟨#[]⟩)] [],Lf.sc (Value.string ⟨#[]⟩),Lf.sc (Value.string ⟨#[]⟩)]).trans (Gh.kb _ [3,6,7,8] [] [990])) ⟨0,by omega,by simp[mRecS]⟩ ?_
 rintro E1 ⟨i,hi,rfl⟩
 simp[mRecS]
 refine ⟨fun h=>⟨h,.of (copyStmt_ok _ (hb _ (getD_mem dRec h))) ?_⟩,fun h=> ?_⟩
 ·simp[mStmt]
  refine ⟨by omega,.of _ ((Gh.kb _ [3,6,7,8] [] [19]).trans (Gh.rn _ 19 990)) ⟨i+1,by omega, ?_⟩ ?_⟩
  ·rw[take_rowM dRec h]
   simp[wrapS (show i<9223372036854775807 by omega),mRecS]
  ·simp[wrapS (show i<9223372036854775807 by omega)];omega
 ·have:i=l.length:=by omega
  subst this
  rw[←List.map_take,List.take_length]
theorem l07Rec_ok (r:GRec) (h:bdRec r):VC Tryz.prog 127 [vRec r] [(true,mRec r)]:=by
 refine vc_of_ew good hm [0,1,2] Tryz.func127 rfl (by kernel_rfl) (by kernel_rfl) rfl ?_
 simp[Tryz.f127,mRec]
 refine .of (l07Stmt_ok r.fStmt h) ?_
 simp[mStmt]
theorem l07Copy_ok (l:List GRec) (hl:l.length≤1048576) (hb: ∀r∈l,bdRec r):VC Tryz.prog 83 [vRecS l] [(false,mRecS l)]:=by
 refine vc_of_ew good hm [0,2,3,7,8,9,10,5] Tryz.func83 rfl (by kernel_rfl) (by kernel_rfl) rfl ?_
 simp[Tryz.f83,mRecS]
 refine ew_loop (fun E=> ∃i:Nat,i≤l.length∧E= {nt:=20,sl:= [(3,.v false [.r [6]]),(7,vRecS l),(8,int .i64 l.length),(9,int .i64 i)],bx:= [],rt:=(mRecS (l.take i)).map fun y=>(6,y)}) (fun E=>l.length- (E.num 9).toNat) _ (Gh.kb _ [3,7,8,9] [] [6]) ⟨0,by omega,by simp[mRecS]⟩ ?_
 rintro E1 ⟨i,hi,rfl⟩
 simp[mRecS]
 refine ⟨fun h=>⟨h,.of (l07Rec_ok _ (hb _ (getD_mem dRec h))) ?_⟩,fun h=> ?_⟩
 ·simp[mRec]
  refine ⟨by omega,.of _ ((Gh.kb _ [3,7,8,9] [] [17]).trans (Gh.rn _ 17 6)) ⟨i+1,by omega, ?_⟩ ?_⟩
  ·rw[take_rowM dRec h]
   simp[wrapS (show i<9223372036854775807 by omega),mRecS]
  ·simp[wrapS (show i<9223372036854775807 by omega)];omega
 ·have:i=l.length:=by omega
  subst this
  rw[←List.map_take,List.take_length]
theorem dbAt1_ok (n:Int) (D:GDb):VC Tryz.prog 145 [int .i64 n,vDb D] []:=by
 refine vc_of_ew good hm [1] Tryz.func145 rfl (by kernel_rfl) (by kernel_rfl) rfl ?_
 simp[Tryz.f145]
theorem dbAtI_ok (l:List GRec) (n:Nat) (hn:n≤l.length) (hl:l.length≤1048576) (ho: ∀r∈l,okRec r) (hb: ∀r∈l,bdRec r):VC Tryz.prog 104 [vRecS l,int .i64 n] [(true,fDb (logDb (l.take n)))]:=by
 refine vc_of_ewF good hm [0,1,4,5] Tryz.func104 rfl (by kernel_rfl) (by kernel_rfl) rfl ?_
 simp[Tryz.f104,fDb]
 have hm:(l.take n).map eRec=(l.map eRec).take n:=List.map_take ..
 have hw:=walk_ok dDb (l.take n) _ (fun n D=>dbAt1_ok n D) dbOk_nil (by simp;omega) (fun r hr=>ho r (List.mem_of_mem_take hr)) (fun r hr=>hb r (List.mem_of_mem_take hr))
 unfold vRecS at hw
 rw[hm] at hw
 refine ⟨hn,.of hw ?_⟩
 simp[fDb,logDb]
end Go.Proofs.YtanlbohhmoifcaaGreat
namespace Go.Proofs.YtanlbohhmoifcaaGreat
open Go Go.Proofs Go.Sm
attribute [local simp] ti eStr eInt eByte eVal vVal eCol vCol vColS vStrS eTable cTable vTable vTableS cCat vCat eValS vValS eRow cRow vRow vRowS eRows vRowsS cDb vDb eDdl cDdl vDdl eStmt cStmt vStmt eRec vRec eSlot vSlot eRecS vRecS eSlotS vSlotS vStmtS
set_option linter.unusedVariables false
set_option linter.unusedSimpArgs false
theorem snd_app {l:List GRec} {r:GRec} (ho: ∀r∈l,okRec r) (hor:okRec r): ∀x∈l++ [r],okRec x:=fun x hx=>by
 rcases List.mem_append.1 hx with h|h
 ·exact ho x h
 ·rw[List.mem_singleton.1 h]
  exact hor
theorem snd_appB {l:List GRec} {r:GRec} (ho: ∀r∈l,bdRec r) (hor:bdRec r): ∀x∈l++ [r],bdRec x:=fun x hx=>by
 rcases List.mem_append.1 hx with h|h
 ·exact ho x h
 ·rw[List.mem_singleton.1 h]
  exact hor
theorem l07Add_ok (l:List GRec) (r:GRec) (hl:l.length≤1048576) (ho: ∀r∈l,okRec r) (hb: ∀r∈l,bdRec r) (hor:okRec r) (hbr:bdRec r):VC Tryz.prog 88 [vRecS l,vRec r] [(false,mRecS (addR l r).1),(false,[(.s,.sc (.int .i64 (addR l r).2))])]:=by
 have hE:addR l r=if logOk l=false∨recOk r=false then ([],1) else if r.fKind=1∧usedX l r.fXid=true then ([],2) else if r.fKind≠1∧hasI (openL l) r.fXid=false then ([],3) else
  if l.length=400 then ([],4) else if r.fKind=3∧(execAll (logDb l) (stmtsOf l r.fXid)).2.1≠0 then ([],5) else (l++ [r],0):=rfl
 have hlg:logOk l=(decide (l.length≤400)&& (play dDb l).isSome):=rfl
 have hoL:=openL_len l
 refine vc_of_ew good hm [0,1,3,4,5,14,23,34,37,6,46] Tryz.func88 rfl (by kernel_rfl) (by kernel_rfl) rfl ?_
 simp[Tryz.f88,mRecS]
 refine .of (logOkS_ok l hl ho hb) ?_
 rw[←hlg]
 simp
 refine .of (fun h=>⟨h,recOkS_ok r hor⟩) ?_
 simp
 refine ⟨fun h=>by rw[hE,if_pos (by grind)];simp,fun h1 h2=> ?_⟩
 rw[if_neg (by simp[h1,h2])] at hE
 have hlen:=logOk_len h1
 refine .of (fun g=>⟨g,used_ok l r.fXid (by unfold okM;omega)⟩) ?_
 simp
 refine ⟨fun h3 h4=>by rw[hE,if_pos ⟨h3,h4⟩];simp,fun h3=> ?_⟩
 rw[if_neg (by grind)] at hE
 refine .of (fun g=>⟨g,open_ok l hl⟩) ?_
 simp[mInts,FullRs,FullML]
 refine .of (fun g=>⟨g,l07Has_ok (openL l) r.fXid (by unfold okM;omega)⟩) ?_
 simp
 refine ⟨fun h4 h5=>by rw[hE,if_pos ⟨h4,h5⟩];simp,fun h4=> ?_⟩
 rw[if_neg (by grind)] at hE
 refine ⟨fun h5=>by rw[hE,if_pos (by omega)];simp,fun h5=> .of (l07Copy_ok l hl hb) ?_⟩
 rw[if_neg (by omega)] at hE
 simp[mRecS]
 refine .of (l07Rec_ok r hbr) ?_
 simp[mRec]
 refine ⟨by omega, ?_⟩
 have hlo:=logOkS_ok (l++ [r]) (by simp;omega) (snd_app ho hor) (snd_appB hb hbr)
 have ha:=logOk_app h1 h2 (fun h=>by rw[h3 h.1] at h;exact absurd h.2 (by simp)) (fun h=>by rw[h4 h.1] at h;exact absurd h.2 (by simp)) (by omega)
 have hq:(decide ((l++ [r]).length≤400)&& (play dDb (l++ [r])).isSome)=logOk (l++ [r]):=rfl
 rw[hq,ha] at hlo
 simp[eRec] at hlo
 have hfu:=full_RecS (l++ [r])
 simp[eRec] at hfu
 refine ⟨hfu,.of hlo ?_⟩
 simp
 refine ⟨fun k c=> ?_,fun k=> ?_⟩
 ·rw[hE,if_pos ⟨k,c⟩]
  simp
 ·rw[hE,if_neg (by grind)]
  simp[eRec]
end Go.Proofs.YtanlbohhmoifcaaGreat
namespace Go.Proofs.YtanlbohhmoifcaaGreat
open Go Go.Proofs Go.Sm
attribute [local simp] ti eStr eInt eByte eVal vVal eCol vCol vColS vStrS eTable cTable vTable vTableS cCat vCat eValS vValS eRow cRow vRow vRowS eRows vRowsS cDb vDb eDdl cDdl vDdl eStmt cStmt vStmt eRec vRec eSlot vSlot eRecS vRecS eSlotS vSlotS vStmtS
set_option linter.unusedVariables false
set_option linter.unusedSimpArgs false
def slotAt (l:List GSlot) (i:Nat):Bool:=wordOk (l[i]?.getD dSlot).fName&&within (l[i]?.getD dSlot).fAt 0 400&& !(decide (0<i)&&geq (l[i-1]?.getD dSlot).fName (l[i]?.getD dSlot).fName)
def slotsTo (l:List GSlot) (n:Nat):Bool:=(List.range n).all (slotAt l)
def slotsOk (l:List GSlot):Bool:=slotsTo l l.length&&decide (l.length≤8)
theorem slotsOk_no {l:List GSlot} {i:Nat} (hi:i<l.length) (h:slotAt l i=false):slotsOk l=false:=by
 simp[slotsOk,slotsTo,rangeAll_no hi h]
theorem l13At_ok (n:Int):VC Tryz.prog 121 [int .i64 n] [(false,[(.s,.sc (.bool (within n 0 400)))])]:=by
 refine vc_of_ew good hm [0,2] Tryz.func121 rfl (by kernel_rfl) (by kernel_rfl) rfl ?_
 simp[Tryz.f121,within]
theorem slotsOkS_ok (l:List GSlot) (hl:okSlotS l):VC Tryz.prog 75 [vSlotS l] [(false,[(.s,.sc (.bool (slotsOk l)))])]:=by
 have hlen:l.length≤9223372036854775807:=hl.1
 refine vc_of_ew good hm [0,2,5,6,7,8,4,3,36] Tryz.func75 rfl (by kernel_rfl) (by kernel_rfl) rfl ?_
 simp[Tryz.f75,vSlotS]
 refine ew_loop (fun E=> ∃i:Nat,i≤l.length∧slotsTo l i=true∧E= {nt:=41,sl:= [(0,vSlotS l),(5,vSlotS l),(6,int .i64 l.length),(7,int .i64 i)],bx:= [],rt:= []}) (fun E=>l.length- (E.num 7).toNat) _ (Gh.kb _ [0,5,6,7] [] []) ⟨0,by omega,by simp[slotsTo],by simp[vSlotS]⟩ ?_
 rintro E1 ⟨i,hi,hall,rfl⟩
 have hw:0<i→IntKind.i64.wrap ((i:Int)-1)=((i-1:Nat):Int):=fun h0=>wrapP h0 (by omega)
 simp[vSlotS,eSlot]
 refine ⟨fun h=> ?_,fun h=> ?_⟩
 ·refine ⟨h,.of (wordOkS_ok _ (hl.2 _ (getD_mem dSlot h)).1) ?_⟩
  simp[hw]
  refine ⟨fun hk h0=>⟨⟨hk,h0⟩,by rw[hw h0];omega,by rw[hw h0];omega⟩,fun hk=>⟨hk,fun h0=>⟨hk,h0⟩⟩,.of (fun h=>⟨h,l13At_ok _⟩) ?_⟩
  simp
  have hat:slotAt l i=(wordOk (l[i]?.getD dSlot).fName&&within (l[i]?.getD dSlot).fAt 0 400&& (decide (i=0)||Op.bytesLess (l[(IntKind.i64.wrap ((i:Int)-1)).toNat]?.getD dSlot).fName.toList (l[i]?.getD dSlot).fName.toList)):=by
   unfold slotAt geq
   rcases Nat.eq_zero_or_pos i with h0|h0
   ·simp[h0]
   ·rw[hw h0];simp[h0,Nat.ne_of_gt h0]
  refine ⟨by grind,fun hb=>slotsOk_no h (by grind),fun h1 h2 h3=> .of _ (Gh.kb _ [0,5,6,7] [] []) ⟨i+1,by omega, ?_, ?_⟩ ?_⟩
  ·rw[slotsTo,rangeAll_succ];unfold slotsTo at hall;grind
  ·simp[wrapS (show i<9223372036854775807 by omega)]
  ·simp[wrapS (show i<9223372036854775807 by omega)];omega
 ·have:i=l.length:=by omega
  subst this
  simp[slotsOk,hall]
  try omega
theorem slotsOkI_ok (l:List GSlot) (hl:okSlotS l):VC Tryz.prog 79 [vSlotS l] [(false,[(.s,.sc (.bool (slotsOk l)))])]:=by
 have hlen:l.length≤9223372036854775807:=hl.1
 refine vc_of_ew good hm [0,2,5,6,7,8,4,3,36] Tryz.func79 rfl (by kernel_rfl) (by kernel_rfl) rfl ?_
 simp[Tryz.f79,vSlotS]
 refine ew_loop (fun E=> ∃i:Nat,i≤l.length∧slotsTo l i=true∧E= {nt:=41,sl:= [(0,vSlotS l),(5,vSlotS l),(6,int .i64 l.length),(7,int .i64 i)],bx:= [],rt:= []}) (fun E=>l.length- (E.num 7).toNat) _ (Gh.kb _ [0,5,6,7] [] []) ⟨0,by omega,by simp[slotsTo],by simp[vSlotS]⟩ ?_
 rintro E1 ⟨i,hi,hall,rfl⟩
 have hw:0<i→IntKind.i64.wrap ((i:Int)-1)=((i-1:Nat):Int):=fun h0=>wrapP h0 (by omega)
 simp[vSlotS,eSlot]
 refine ⟨fun h=> ?_,fun h=> ?_⟩
 ·refine ⟨h,.of (wordOkI_ok _ (hl.2 _ (getD_mem dSlot h)).1) ?_⟩
  simp[hw]
  have hat:slotAt l i=(wordOk (l[i]?.getD dSlot).fName&&within (l[i]?.getD dSlot).fAt 0 400&& (decide (i=0)||Op.bytesLess (l[(IntKind.i64.wrap ((i:Int)-1)).toNat]?.getD dSlot).fName.toList (l[i]?.getD dSlot).fName.toList)):=by
   unfold slotAt geq
   rcases Nat.eq_zero_or_pos i with h0|h0
   ·simp[h0]
   ·rw[hw h0];simp[h0,Nat.ne_of_gt h0]
  refine .of (fun h=>⟨h,within_ok _ _ _⟩) ?_
  simp
  refine ⟨fun h1 h2 h3=>⟨by grind,by rw[hw h3];omega,by rw[hw h3];omega⟩,by grind,fun hb=>slotsOk_no h (by grind),fun h1 h2 h3=> .of _ (Gh.kb _ [0,5,6,7] [] []) ⟨i+1,by omega, ?_, ?_⟩ ?_⟩
  ·rw[slotsTo,rangeAll_succ];unfold slotsTo at hall;grind
  ·simp[wrapS (show i<9223372036854775807 by omega)]
  ·simp[wrapS (show i<9223372036854775807 by omega)];omega
 ·have:i=l.length:=by omega
  subst this
  simp[slotsOk,hall]
  try omega
end Go.Proofs.YtanlbohhmoifcaaGreat
namespace Go.Proofs.YtanlbohhmoifcaaGreat
open Go Go.Proofs Go.Sm
attribute [local simp] ti eStr eInt eByte eVal vVal eCol vCol vColS vStrS eTable cTable vTable vTableS cCat vCat eValS vValS eRow cRow vRow vRowS eRows vRowsS cDb vDb eDdl cDdl vDdl eStmt cStmt vStmt eRec vRec eSlot vSlot eRecS vRecS eSlotS vSlotS vStmtS
set_option linter.unusedVariables false
set_option linter.unusedSimpArgs false
def stp (n:Int) (s:GSlot):Int:=if s.fAt<n then s.fAt else n
def leastTo (l:List GSlot) (i:Nat):Int:=(l.take i).foldl stp 400
def slotLeast (l:List GSlot):Int:=if slotsOk l then leastTo l l.length else 0
theorem leastTo_succ {l:List GSlot} {i:Nat} (h:i<l.length):leastTo l (i+1)=stp (leastTo l i) (l[i]?.getD dSlot):=by
 unfold leastTo
 rw[List.take_succ_eq_append_getElem h,List.foldl_append,List.getElem?_eq_getElem h]
 rfl
theorem slotLeastS_ok (l:List GSlot) (hl:okSlotS l):VC Tryz.prog 76 [vSlotS l] [(false,[(.s,.sc (.int .i64 (slotLeast l)))])]:=by
 have hlen:l.length≤9223372036854775807:=hl.1
 refine vc_of_ew good hm [0,2,8,3,9,10,11,12,5,18] Tryz.func76 rfl (by kernel_rfl) (by kernel_rfl) rfl ?_
 simp[Tryz.f76]
 refine .of (slotsOkS_ok l hl) ?_
 simp
 refine ⟨fun h=>by simp[slotLeast,h],fun hok=> ?_⟩
 refine ew_loop (fun E=> ∃i:Nat,i≤l.length∧E= {nt:=23,sl:= [(3,int .i64 (leastTo l i)),(9,vSlotS l),(10,int .i64 l.length),(11,int .i64 i)],bx:= [],rt:= []}) (fun E=>l.length- (E.num 11).toNat) _ (Gh.kb _ [3,9,10,11] [] []) ⟨0,by omega,by simp[leastTo]⟩ ?_
 rintro E1 ⟨i,hi,rfl⟩
 simp
 refine ⟨fun h=>⟨h, ?_, ?_⟩,fun h=> ?_⟩
 ·intro h2
  refine .of _ (Gh.kb _ [3,9,10,11] [] []) ⟨i+1,by omega, ?_⟩ ?_
  ·simp[wrapS (show i<9223372036854775807 by omega),leastTo_succ h,stp,h2]
  ·simp[wrapS (show i<9223372036854775807 by omega)];omega
 ·intro h2
  refine .of _ (Gh.kb _ [3,9,10,11] [] []) ⟨i+1,by omega, ?_⟩ ?_
  ·simp[wrapS (show i<9223372036854775807 by omega),leastTo_succ h,stp];omega
  ·simp[wrapS (show i<9223372036854775807 by omega)];omega
 ·have:i=l.length:=by omega
  subst this
  simp[slotLeast,hok]
theorem slotLeastI_ok (l:List GSlot) (hl:okSlotS l):VC Tryz.prog 80 [vSlotS l] [(false,[(.s,.sc (.int .i64 (slotLeast l)))])]:=by
 have hlen:l.length≤9223372036854775807:=hl.1
 refine vc_of_ew good hm [0,2,8,3,9,10,11,12,5] Tryz.func80 rfl (by kernel_rfl) (by kernel_rfl) rfl ?_
 simp[Tryz.f80]
 refine .of (slotsOkI_ok l hl) ?_
 simp
 refine ⟨fun h=>by simp[slotLeast,h],fun hok=> ?_⟩
 refine ew_loop (fun E=> ∃i:Nat,i≤l.length∧E= {nt:=21,sl:= [(3,int .i64 (leastTo l i)),(9,vSlotS l),(10,int .i64 l.length),(11,int .i64 i)],bx:= [],rt:= []}) (fun E=>l.length- (E.num 11).toNat) _ (Gh.kb _ [3,9,10,11] [] []) ⟨0,by omega,by simp[leastTo]⟩ ?_
 rintro E1 ⟨i,hi,rfl⟩
 simp
 refine ⟨fun h=>⟨h, ?_⟩,fun h=> ?_⟩
 ·refine .of _ (Gh.kb _ [3,9,10,11] [] []) ⟨i+1,by omega, ?_⟩ ?_
  ·simp[wrapS (show i<9223372036854775807 by omega),leastTo_succ h,stp]
  ·simp[wrapS (show i<9223372036854775807 by omega)];omega
 ·have:i=l.length:=by omega
  subst this
  simp[slotLeast,hok]
end Go.Proofs.YtanlbohhmoifcaaGreat
namespace Go.Proofs.YtanlbohhmoifcaaGreat
open Go Go.Proofs Go.Sm
attribute [local simp] ti eStr eInt eByte eVal vVal eCol vCol vColS vStrS eTable cTable vTable vTableS cCat vCat eValS vValS eRow cRow vRow vRowS eRows vRowsS cDb vDb eDdl cDdl vDdl eStmt cStmt vStmt eRec vRec eSlot vSlot eRecS vRecS eSlotS vSlotS vStmtS
set_option linter.unusedVariables false
set_option linter.unusedSimpArgs false
end Go.Proofs.YtanlbohhmoifcaaGreat
namespace Go.Proofs.YtanlbohhmoifcaaGreat
open Go Go.Proofs Go.Sm
attribute [local simp] ti eStr eInt eByte eVal vVal eCol vCol vColS vStrS eTable cTable vTable vTableS cCat vCat eValS vValS eRow cRow vRow vRowS eRows vRowsS cDb vDb eDdl cDdl vDdl eStmt cStmt vStmt eRec vRec eSlot vSlot eRecS vRecS eSlotS vSlotS vStmtS
set_option linter.unusedVariables false
set_option linter.unusedSimpArgs false
@[simp 10000] theorem OwML_c (m:Md) (l:Lf) (r:ML):OwML ((m,l)::r)=(Ow m l∧OwML r):=by simp[OwML]
@[simp 10000] theorem OwML_n:OwML []=True:=by simp[OwML]
@[simp 10000] theorem OwRs_c (q:Bool×ML) (r:List (Bool×ML)):OwRs (q::r)=(OwML q.2∧OwRs r):=by simp[OwRs]
@[simp 10000] theorem OwRs_n:OwRs []=True:=by simp[OwRs]
theorem memS {l:List Nat} {n:Nat} (h:n∈l):n≤l.sum:=by
 induction l with
 |nil=>cases h
 |cons x r ih=>
  rcases List.mem_cons.1 h with rfl|h
  ·simp
  ·have:=ih h;simp;omega
theorem of_sum {l:List Nat} (h:l.sum≤1048576):(∀n∈l,n≤1048576)∧l.sum≤1099511627776:=⟨fun n hn=>by have:=memS hn;omega,by omega⟩
end Go.Proofs.YtanlbohhmoifcaaGreat
namespace Go.Proofs.YtanlbohhmoifcaaGreat
open Go Go.Proofs Go.Sm
attribute [local simp] ti eStr eInt eByte eVal vVal eCol vCol vColS vStrS eTable cTable vTable vTableS cCat vCat eValS vValS eRow cRow vRow vRowS eRows vRowsS cDb vDb eDdl cDdl vDdl eStmt cStmt vStmt eRec vRec eSlot vSlot eRecS vRecS eSlotS vSlotS vStmtS
set_option linter.unusedVariables false
set_option linter.unusedSimpArgs false
theorem added_ok (l:List GRec) (r:GRec) (h1:logOk l=true) (hl:l.length≤1048576) (ho: ∀r∈l,okRec r) (hb: ∀r∈l,bdRec r) (hor:okRec r) (hbr:bdRec r):VC Tryz.prog 131 [vRecS l,vRec r] [(false,mRecS (addR l r).1),(false,[(.s,.sc (.int .i64 (addR l r).2))])]:=by
 have hE:addR l r=if logOk l=false∨recOk r=false then ([],1) else if r.fKind=1∧usedX l r.fXid=true then ([],2) else if r.fKind≠1∧hasI (openL l) r.fXid=false then ([],3) else
  if l.length=400 then ([],4) else if r.fKind=3∧(execAll (logDb l) (stmtsOf l r.fXid)).2.1≠0 then ([],5) else (l++ [r],0):=rfl
 have hoL:=openL_len l
 have hlen:=logOk_len h1
 refine vc_of_ew good hm [0,1,3,4,5,9,13,23,35,41,7,56] Tryz.func131 rfl (by kernel_rfl) (by kernel_rfl) rfl ?_
 simp[Tryz.f131,mRecS]
 refine .of (recOkI_ok r hor hbr.2.2.1 hbr.2.2.2) ?_
 simp
 refine ⟨fun h=>by rw[hE,if_pos (.inr h)];simp,fun h2=> ?_⟩
 rw[if_neg (by simp[h1,h2])] at hE
 refine .of (fun g=>⟨g,usedI_ok l r.fXid (by unfold okM;omega)⟩) ?_
 simp
 refine ⟨fun h3 h4=>by rw[hE,if_pos ⟨h3,h4⟩];simp,fun h3=> ?_⟩
 rw[if_neg (by grind)] at hE
 refine .of (fun g=>⟨g,openI_ok l hl⟩) ?_
 simp[mInts,FullRs,FullML]
 have hoc:VC Tryz.prog 124 [vInts (openL l),int .i64 r.fXid] [(false,[(.s,.sc (.bool (hasI (openL l) r.fXid)))])]:=containsInt_ok (openL l) r.fXid (by unfold okM;omega)
 refine .of (fun g=>⟨g,hoc⟩) ?_
 simp
 refine ⟨fun h4 h5=>by rw[hE,if_pos ⟨h4,h5⟩];simp,fun h4=> ?_⟩
 rw[if_neg (by grind)] at hE
 refine ⟨fun h5=>by rw[hE,if_pos (by omega)];simp,fun h5=> ?_⟩
 rw[if_neg (by omega)] at hE
 refine ⟨fun k=> ?_,fun k=> ?_⟩
 ·have hda:=dbAtI_ok l l.length (Nat.le_refl _) hl ho hb
  rw[List.take_length] at hda
  refine .of hda ?_
  simp[fDb]
  refine .of ((stmtsOfI_ok l r.fXid hl hb).frz (by simp[FullRs,FullML,mStmtS])) ?_
  have hso:=stmtsOf_len l r.fXid
  have hex:=execAllI_ok (logDb l) (stmtsOf l r.fXid) (dbOk_ok (logDb_ok l)) (dbOk_key (logDb_ok l)) (fun s hs=>⟨stmtsOf_okS ho _ s hs,by
   obtain ⟨r',hr',rfl⟩:=List.mem_map.1 hs
   exact hb r' (List.mem_filter.1 hr').1⟩) (by unfold okM;omega)
  generalize stmtsOf l r.fXid=S at*
  generalize logDb l=D at*
  simp[mStmtS]
  refine .of hex ?_
  simp[fDb]
  refine ⟨fun c=> ?_,fun c=> .of (copyStmt_ok r.fStmt hbr) ?_⟩
  ·rw[hE,if_pos ⟨k,c⟩]
   simp
  rw[hE,if_neg (by simp[c])]
  simp[mStmt]
  refine .of (copyRecs_ok l hl hb) ?_
  simp[mRecS,eRec]
  omega
 ·rw[hE,if_neg (by simp[k])]
  refine .of (copyStmt_ok r.fStmt hbr) ?_
  simp[mStmt]
  refine .of (copyRecs_ok l hl hb) ?_
  simp[mRecS,eRec]
  omega
theorem addR_no {l:List GRec} {r:GRec} (h:logOk l=false):addR l r=([],1):=by
 unfold addR
 rw[if_pos (.inl h)]
theorem asked_ok (l:List GRec) (r:GRec) (hl:l.length≤1048576) (ho: ∀r∈l,okRec r) (hb: ∀r∈l,bdRec r) (hor:okRec r) (hbr:bdRec r):VC Tryz.prog 89 [vRecS l,vRec r] [(false,mRecS (addR l r).1),(false,[(.s,.sc (.int .i64 (addR l r).2))])]:=by
 have hlg:logOk l=(decide (l.length≤400)&& (play dDb l).isSome):=rfl
 refine vc_of_ew good hm [0,1,3,4,5,8] Tryz.func89 rfl (by kernel_rfl) (by kernel_rfl) rfl ?_
 simp[Tryz.f89,mRecS]
 refine .of (logOkI_ok l hl ho hb) ?_
 rw[←hlg]
 simp
 refine ⟨fun h=>by rw[addR_no h];simp,fun h=> .of (added_ok l r h hl ho hb hor hbr) ?_⟩
 simp[mRecS]
def rBeg (x:Int):GRec:=⟨1,x,dStmt⟩
def rCom (x:Int):GRec:=⟨3,x,dStmt⟩
def rAbo (x:Int):GRec:=⟨4,x,dStmt⟩
def rDo (x:Int) (s:GStmt):GRec:=⟨2,x,s⟩
theorem okStmt_d:okStmt dStmt:=by
 simp[okStmt,dStmt,okValS,okRow,okDdl,okColS,okStrS,okM,okI,dRow,dDdl]
 exact Nat.zero_le _
theorem okRec_k {k x:Int} {s:GStmt} (h1:okI k) (h2:okI x) (h3:okStmt s):okRec ⟨k,x,s⟩:=⟨h1,h2,h3,trivial⟩
theorem bdRec_d (k x:Int):bdRec ⟨k,x,dStmt⟩:=by
 simp[bdRec,bdStmt,bdDdl,dStmt,dRow,dDdl]
theorem okI_1:okI 1:=by unfold okI;omega
theorem okI_2:okI 2:=by unfold okI;omega
theorem okI_3:okI 3:=by unfold okI;omega
theorem okI_4:okI 4:=by unfold okI;omega
theorem S_Begin_ok (l:List GRec) (x:Int) (o0:okRecS l) (hs: ∀n∈wRecS l,n≤1048576) (_:(wRecS l).sum≤1048576) (o1:okI x):VC Tryz.prog 36 [vRecS l,int .i64 x] [(false,mRecS (addR l (rBeg x)).1),(false,[(.s,.sc (.int .i64 (addR l (rBeg x)).2))])]:=by
 have h:=l07Add_ok l (rBeg x) (hs _ (by simp[wRecS])) o0.2 (recsB hs) (okRec_k okI_1 o1 okStmt_d) (bdRec_d _ _)
 simp[rBeg,dStmt,dRow,dDdl] at h
 refine vc_of_ew good hm [0,1,4,5] Tryz.func36 rfl (by kernel_rfl) (by kernel_rfl) rfl ?_
 simp[Tryz.f36,mRecS,rBeg,dStmt,dRow,dDdl]
 refine .of h ?_
 simp[mRecS]
theorem I_Begin_ok (l:List GRec) (x:Int) (o0:okRecS l) (hs: ∀n∈wRecS l,n≤1048576) (_:(wRecS l).sum≤1048576) (o1:okI x):VC Tryz.prog 37 [vRecS l,int .i64 x] [(false,mRecS (addR l (rBeg x)).1),(false,[(.s,.sc (.int .i64 (addR l (rBeg x)).2))])]:=by
 have h:=asked_ok l (rBeg x) (hs _ (by simp[wRecS])) o0.2 (recsB hs) (okRec_k okI_1 o1 okStmt_d) (bdRec_d _ _)
 simp[rBeg,dStmt,dRow,dDdl] at h
 refine vc_of_ew good hm [0,1,4,5] Tryz.func37 rfl (by kernel_rfl) (by kernel_rfl) rfl ?_
 simp[Tryz.f37,mRecS,rBeg,dStmt,dRow,dDdl]
 refine .of h ?_
 simp[mRecS]
theorem S_Commit_ok (l:List GRec) (x:Int) (o0:okRecS l) (hs: ∀n∈wRecS l,n≤1048576) (_:(wRecS l).sum≤1048576) (o1:okI x):VC Tryz.prog 38 [vRecS l,int .i64 x] [(false,mRecS (addR l (rCom x)).1),(false,[(.s,.sc (.int .i64 (addR l (rCom x)).2))])]:=by
 have h:=l07Add_ok l (rCom x) (hs _ (by simp[wRecS])) o0.2 (recsB hs) (okRec_k okI_3 o1 okStmt_d) (bdRec_d _ _)
 simp[rCom,dStmt,dRow,dDdl] at h
 refine vc_of_ew good hm [0,1,4,5] Tryz.func38 rfl (by kernel_rfl) (by kernel_rfl) rfl ?_
 simp[Tryz.f38,mRecS,rCom,dStmt,dRow,dDdl]
 refine .of h ?_
 simp[mRecS]
theorem I_Commit_ok (l:List GRec) (x:Int) (o0:okRecS l) (hs: ∀n∈wRecS l,n≤1048576) (_:(wRecS l).sum≤1048576) (o1:okI x):VC Tryz.prog 39 [vRecS l,int .i64 x] [(false,mRecS (addR l (rCom x)).1),(false,[(.s,.sc (.int .i64 (addR l (rCom x)).2))])]:=by
 have h:=asked_ok l (rCom x) (hs _ (by simp[wRecS])) o0.2 (recsB hs) (okRec_k okI_3 o1 okStmt_d) (bdRec_d _ _)
 simp[rCom,dStmt,dRow,dDdl] at h
 refine vc_of_ew good hm [0,1,4,5] Tryz.func39 rfl (by kernel_rfl) (by kernel_rfl) rfl ?_
 simp[Tryz.f39,mRecS,rCom,dStmt,dRow,dDdl]
 refine .of h ?_
 simp[mRecS]
theorem S_Abort_ok (l:List GRec) (x:Int) (o0:okRecS l) (hs: ∀n∈wRecS l,n≤1048576) (_:(wRecS l).sum≤1048576) (o1:okI x):VC Tryz.prog 34 [vRecS l,int .i64 x] [(false,mRecS (addR l (rAbo x)).1),(false,[(.s,.sc (.int .i64 (addR l (rAbo x)).2))])]:=by
 have h:=l07Add_ok l (rAbo x) (hs _ (by simp[wRecS])) o0.2 (recsB hs) (okRec_k okI_4 o1 okStmt_d) (bdRec_d _ _)
 simp[rAbo,dStmt,dRow,dDdl] at h
 refine vc_of_ew good hm [0,1,4,5] Tryz.func34 rfl (by kernel_rfl) (by kernel_rfl) rfl ?_
 simp[Tryz.f34,mRecS,rAbo,dStmt,dRow,dDdl]
 refine .of h ?_
 simp[mRecS]
theorem I_Abort_ok (l:List GRec) (x:Int) (o0:okRecS l) (hs: ∀n∈wRecS l,n≤1048576) (_:(wRecS l).sum≤1048576) (o1:okI x):VC Tryz.prog 35 [vRecS l,int .i64 x] [(false,mRecS (addR l (rAbo x)).1),(false,[(.s,.sc (.int .i64 (addR l (rAbo x)).2))])]:=by
 have h:=asked_ok l (rAbo x) (hs _ (by simp[wRecS])) o0.2 (recsB hs) (okRec_k okI_4 o1 okStmt_d) (bdRec_d _ _)
 simp[rAbo,dStmt,dRow,dDdl] at h
 refine vc_of_ew good hm [0,1,4,5] Tryz.func35 rfl (by kernel_rfl) (by kernel_rfl) rfl ?_
 simp[Tryz.f35,mRecS,rAbo,dStmt,dRow,dDdl]
 refine .of h ?_
 simp[mRecS]
theorem S_Do_ok (l:List GRec) (x:Int) (s:GStmt) (o0:okRecS l) (hs: ∀n∈wRecS l,n≤1048576) (_:(wRecS l).sum≤1048576) (o1:okI x) (o2:okStmt s) (h2: ∀n∈wStmt s,n≤1048576) (_:(wStmt s).sum≤1048576):VC Tryz.prog 41 [vRecS l,int .i64 x,vStmt s] [(false,mRecS (addR l (rDo x s)).1),(false,[(.s,.sc (.int .i64 (addR l (rDo x s)).2))])]:=by
 have h:=l07Add_ok l (rDo x s) (hs _ (by simp[wRecS])) o0.2 (recsB hs) (okRec_k okI_2 o1 o2) (stmtB h2)
 simp[rDo] at h
 refine vc_of_ew good hm [0,1,2,5,6,7] Tryz.func41 rfl (by kernel_rfl) (by kernel_rfl) rfl ?_
 simp[Tryz.f41,mRecS,rDo]
 refine .of h ?_
 simp[mRecS]
theorem I_Do_ok (l:List GRec) (x:Int) (s:GStmt) (o0:okRecS l) (hs: ∀n∈wRecS l,n≤1048576) (_:(wRecS l).sum≤1048576) (o1:okI x) (o2:okStmt s) (h2: ∀n∈wStmt s,n≤1048576) (_:(wStmt s).sum≤1048576):VC Tryz.prog 43 [vRecS l,int .i64 x,vStmt s] [(false,mRecS (addR l (rDo x s)).1),(false,[(.s,.sc (.int .i64 (addR l (rDo x s)).2))])]:=by
 have h:=asked_ok l (rDo x s) (hs _ (by simp[wRecS])) o0.2 (recsB hs) (okRec_k okI_2 o1 o2) (stmtB h2)
 simp[rDo] at h
 refine vc_of_ew good hm [0,1,2,5,6,7] Tryz.func43 rfl (by kernel_rfl) (by kernel_rfl) rfl ?_
 simp[Tryz.f43,mRecS,rDo]
 refine .of h ?_
 simp[mRecS]
theorem addR_r0 {l:List GRec} {r:GRec} (hs: ∀n∈wRecS l,n≤1048576) (hz:(wRecS l).sum≤1048576) (hr: ∀n∈wRec r,n≤1048576) (hrz:(wRec r).sum≤1048576):(∀n∈wRecS (addR l r).1,n≤1048576)∧(wRecS (addR l r).1).sum≤1099511627776:=by
 have h0:(∀n∈wRecS [],n≤1048576)∧(wRecS []).sum≤1099511627776:=of_sum (by simp[wRecS])
 have hE:addR l r=if logOk l=false∨recOk r=false then ([],1) else if r.fKind=1∧usedX l r.fXid=true then ([],2) else if r.fKind≠1∧hasI (openL l) r.fXid=false then ([],3) else
  if l.length=400 then ([],4) else if r.fKind=3∧(execAll (logDb l) (stmtsOf l r.fXid)).2.1≠0 then ([],5) else (l++ [r],0):=rfl
 rw[hE]
 split
 ·exact h0
 split
 ·exact h0
 split
 ·exact h0
 split
 ·exact h0
 split
 ·exact h0
 rename_i h1 _ _ _ _
 have hlen:=logOk_len (l:=l) (by cases h:logOk l with|true=>rfl|false=>exact absurd (.inl h) h1)
 have hw:wRecS (l++ [r])=(l.length+1)::(l.flatMap wRec++wRec r):=by simp[wRecS]
 simp only
 rw[hw]
 refine ⟨fun n hn=> ?_, ?_⟩
 ·rcases List.mem_cons.1 hn with rfl|hn
  ·omega
  ·rcases List.mem_append.1 hn with hn|hn
   ·exact hs n (List.mem_cons_of_mem _ hn)
   ·exact hr n hn
 ·simp only[wRecS,List.sum_cons] at hz
  simp only[List.sum_cons,List.sum_append]
  omega
theorem rec0_r0 (k x:Int):(∀n∈wRec ⟨k,x,dStmt⟩,n≤1048576)∧(wRec ⟨k,x,dStmt⟩).sum≤1048576:=by
 have h:wRec ⟨k,x,dStmt⟩= [0,0,0,0,0,0,0,0]:=rfl
 rw[h]
 simp
theorem Begin_r0 (l:List GRec) (x:Int) (o0:okRecS l) (hs: ∀n∈wRecS l,n≤1048576) (hz:(wRecS l).sum≤1048576) (o1:okI x):(∀n∈wRecS (addR l (rBeg x)).1,n≤1048576)∧(wRecS (addR l (rBeg x)).1).sum≤1099511627776:=addR_r0 hs hz (rec0_r0 _ _).1 (rec0_r0 _ _).2
theorem Commit_r0 (l:List GRec) (x:Int) (o0:okRecS l) (hs: ∀n∈wRecS l,n≤1048576) (hz:(wRecS l).sum≤1048576) (o1:okI x):(∀n∈wRecS (addR l (rCom x)).1,n≤1048576)∧(wRecS (addR l (rCom x)).1).sum≤1099511627776:=addR_r0 hs hz (rec0_r0 _ _).1 (rec0_r0 _ _).2
theorem Abort_r0 (l:List GRec) (x:Int) (o0:okRecS l) (hs: ∀n∈wRecS l,n≤1048576) (hz:(wRecS l).sum≤1048576) (o1:okI x):(∀n∈wRecS (addR l (rAbo x)).1,n≤1048576)∧(wRecS (addR l (rAbo x)).1).sum≤1099511627776:=addR_r0 hs hz (rec0_r0 _ _).1 (rec0_r0 _ _).2
theorem Do_r0 (l:List GRec) (x:Int) (s:GStmt) (o0:okRecS l) (hs: ∀n∈wRecS l,n≤1048576) (hz:(wRecS l).sum≤1048576) (o1:okI x) (o2:okStmt s) (h2: ∀n∈wStmt s,n≤1048576) (h2z:(wStmt s).sum≤1048576):(∀n∈wRecS (addR l (rDo x s)).1,n≤1048576)∧(wRecS (addR l (rDo x s)).1).sum≤1099511627776:=addR_r0 hs hz (by simpa [wRec,rDo] using h2) (by simpa [wRec,rDo] using h2z)
end Go.Proofs.YtanlbohhmoifcaaGreat
namespace Go.Proofs.YtanlbohhmoifcaaGreat
open Go Go.Proofs Go.Sm
attribute [local simp] ti eStr eInt eByte eVal vVal eCol vCol vColS vStrS eTable cTable vTable vTableS cCat vCat eValS vValS eRow cRow vRow vRowS eRows vRowsS cDb vDb eDdl cDdl vDdl eStmt cStmt vStmt eRec vRec eSlot vSlot eRecS vRecS eSlotS vSlotS vStmtS
set_option linter.unusedVariables false
set_option linter.unusedSimpArgs false
def goTo (l:List GRec):Nat→Nat
 |0=>0
 |i+1=>if openL (l.take (i+1))= [] then i+1 else goTo l i
def mayGo (l:List GRec) (s:List GSlot):Nat:=if logOk l=true∧slotsOk s=true then goTo l (min (slotLeast s).toNat l.length) else 0
theorem leastTo_bd {l:List GSlot} (h: ∀s∈l,0≤s.fAt): ∀ (L:List GSlot) (n:Int),(∀s∈L,0≤s.fAt)→0≤n→n≤400→0≤L.foldl stp n∧L.foldl stp n≤400
 | [],n,_,h1,h2=>⟨h1,h2⟩
 |s::L,n,hL,h1,h2=>by
  have:=hL s (by simp)
  rw[List.foldl_cons]
  refine leastTo_bd h L (stp n s) (fun x hx=>hL x (by simp[hx])) ?_ ?_<;>unfold stp<;>split<;>omega
theorem slotLeast_bd (l:List GSlot):0≤slotLeast l∧slotLeast l≤400:=by
 unfold slotLeast
 split
 ·rename_i h
  have hp: ∀s∈l,0≤s.fAt:=by
   intro s hs
   obtain ⟨i,hi,rfl⟩:=List.getElem_of_mem hs
   simp only[slotsOk,slotsTo,Bool.and_eq_true,List.all_eq_true,List.mem_range] at h
   have:=h.1 i hi
   simp only[slotAt,within,List.getElem?_eq_getElem hi,Option.getD_some,Bool.and_eq_true,decide_eq_true_eq] at this
   omega
  unfold leastTo
  rw[List.take_length]
  exact leastTo_bd hp l 400 hp (by omega) (by omega)
 ·omega
theorem goTo_go {l:List GRec} {n:Nat} (h:openL (l.take n)= []):goTo l n=n:=by
 cases n with
 |zero=>rfl
 |succ n=>rw[goTo,if_pos h]
theorem goTo_no {l:List GRec} {n:Nat} (h: ¬openL (l.take n)= []):0<n∧goTo l n=goTo l (n-1):=by
 cases n with
 |zero=>exact absurd (by simp[openL]) h
 |succ n=>exact ⟨by omega,by rw[goTo,if_neg h];rfl⟩
theorem I_MayGo_ok (l:List GRec) (s:List GSlot) (o0:okRecS l) (hs: ∀n∈wRecS l,n≤1048576) (_:(wRecS l).sum≤1048576) (o1:okSlotS s) (_: ∀n∈wSlotS s,n≤1048576) (_:(wSlotS s).sum≤1048576):VC Tryz.prog 29 [vRecS l,vSlotS s] [(false,[(.s,.sc (.int .i64 (mayGo l s:Nat)))])]:=by
 have hl:l.length≤1048576:=hs _ (by simp[wRecS])
 have hb:=recsB hs
 have hlg:logOk l=(decide (l.length≤400)&& (play dDb l).isSome):=rfl
 have hE:mayGo l s=if logOk l=true∧slotsOk s=true then goTo l (min (slotLeast s).toNat l.length) else 0:=rfl
 have hlo:=logOkI_ok l hl o0.2 hb
 rw[←hlg] at hlo
 refine vc_of_ew good hm [0,1,4,13,5,24] Tryz.func29 rfl (by kernel_rfl) (by kernel_rfl) rfl ?_
 simp[Tryz.f29]
 refine .of hlo ?_
 simp
 refine .of (fun h=>⟨h,slotsOkI_ok s o1⟩) ?_
 simp
 refine ⟨fun h=> ?_,fun h1 h2=> .of (slotLeastI_ok s o1) ?_⟩
 ·rw[hE,if_neg (by grind)]
  rfl
 have hsl:=slotLeast_bd s
 have hm:min (slotLeast s).toNat l.length≤l.length:=Nat.min_le_right _ _
 have hM:min (slotLeast s) (l.length:Int)=((min (slotLeast s).toNat l.length:Nat):Int):=by omega
 rw[hE,if_pos ⟨h1,h2⟩]
 generalize min (slotLeast s).toNat l.length=m at*
 have hM':(if (l.length:Int)<slotLeast s then (l.length:Int) else slotLeast s)=(m:Int):=by split<;>omega
 simp[hM']
 refine ew_loop (fun E=> ∃n:Nat,n≤m∧goTo l n=goTo l m∧E= {nt:=28,sl:= [(0,vRecS l),(5,int .i64 n)],bx:= [],rt:= []}) (fun E=>(E.num 5).toNat) _ (Gh.kb _ [0,5] [] []) ⟨m,by omega,rfl,by simp⟩ ?_
 rintro E1 ⟨n,hn,hg,rfl⟩
 simp
 have hop:=openI_ok (l.take n) (by simp;omega)
 have hm1:(l.take n).map eRec=(l.map eRec).take n:=List.map_take ..
 unfold vRecS at hop
 rw[hm1] at hop
 refine ⟨by omega,.of hop ?_⟩
 simp[mInts]
 refine ⟨fun h=> ?_,fun h=>by rw[←hg,goTo_go h]⟩
 obtain ⟨g1,g2⟩:=goTo_no (l:=l) (n:=n) (by intro e;rw[e] at h;simp at h)
 refine .of _ (Gh.kb _ [0,5] [] []) ⟨n-1,by omega,by rw[←g2,hg], ?_⟩ ?_
 ·simp[wrapP g1 (show n≤9223372036854775807 by omega)]
 ·simp[wrapP g1 (show n≤9223372036854775807 by omega)];omega
theorem S_MayGo_ok (l:List GRec) (s:List GSlot) (o0:okRecS l) (hs: ∀n∈wRecS l,n≤1048576) (_:(wRecS l).sum≤1048576) (o1:okSlotS s) (_: ∀n∈wSlotS s,n≤1048576) (_:(wSlotS s).sum≤1048576):VC Tryz.prog 27 [vRecS l,vSlotS s] [(false,[(.s,.sc (.int .i64 (mayGo l s:Nat)))])]:=by
 have hl:l.length≤1048576:=hs _ (by simp[wRecS])
 have hb:=recsB hs
 have hE:mayGo l s=if logOk l=true∧slotsOk s=true then goTo l (min (slotLeast s).toNat l.length) else 0:=rfl
 have hsl:=slotLeast_bd s
 refine vc_of_ew good hm [0,1,4,5,14,6,25,33] Tryz.func27 rfl (by kernel_rfl) (by kernel_rfl) rfl ?_
 simp[Tryz.f27]
 refine .of (logOkS_ok l hl o0.2 hb) ?_
 simp
 refine .of (fun h=>⟨h,slotsOkS_ok s o1⟩) ?_
 simp
 have hlg:logOk l=true↔l.length≤400∧ ¬play dDb l=none:=by cases h:play dDb l<;>simp[logOk,h]
 refine ⟨fun h=>by rw[hE,if_neg (by rw[hlg];grind)];rfl,fun a1 a2 a3=> ?_⟩
 rw[hE,if_pos ⟨hlg.2 ⟨a1,a2⟩,a3⟩]
 have hm:min (slotLeast s).toNat l.length≤l.length:=Nat.min_le_right _ _
 have hm2:((min (slotLeast s).toNat l.length:Nat):Int)≤slotLeast s:=by omega
 have hm3: ∀k:Nat,k≤l.length→(k:Int)≤slotLeast s→k≤min (slotLeast s).toNat l.length:=by omega
 generalize min (slotLeast s).toNat l.length=m at*
 refine ew_loop (fun E=> ∃k:Nat,k≤m+1∧E= {nt:=36,sl:= [(0,vRecS l),(1,vSlotS s),(5,int .i64 (goTo l (k-1):Nat)),(6,int .i64 k)],bx:= [],rt:= []}) (fun E=>m+1- (E.num 6).toNat) _ (Gh.kb _ [0,1,5,6] [] []) ⟨0,by omega,by simp[goTo]⟩ ?_
 rintro E1 ⟨k,hk,rfl⟩
 simp
 refine .of (fun g=>⟨g,slotLeastS_ok s o1⟩) ?_
 simp
 refine ⟨fun h1 h2=> ?_,fun h=> ?_⟩
 ·have hkm:=hm3 k h1 h2
  have hop:=open_ok (l.take k) (by simp;omega)
  have hm1:(l.take k).map eRec=(l.map eRec).take k:=List.map_take ..
  unfold vRecS at hop
  rw[hm1] at hop
  refine ⟨by omega,.of hop ?_⟩
  simp[mInts]
  refine ⟨fun h=> ?_,fun h=> ?_⟩
  ·refine .of _ (Gh.kb _ [0,1,5,6] [] []) ⟨k+1,by omega, ?_⟩ ?_
   ·simp[wrapS (show k<9223372036854775807 by omega),goTo_go h]
   ·simp[wrapS (show k<9223372036854775807 by omega)];omega
  ·refine .of _ (Gh.kb _ [0,1,5,6] [] []) ⟨k+1,by omega, ?_⟩ ?_
   ·obtain ⟨_,g2⟩:=goTo_no h
    simp[wrapS (show k<9223372036854775807 by omega),g2]
   ·simp[wrapS (show k<9223372036854775807 by omega)];omega
 ·have e:k-1=m:=by
   by_cases hx:k≤m
   ·have:=h (by omega)
    omega
   ·omega
  rw[e]
end Go.Proofs.YtanlbohhmoifcaaGreat
