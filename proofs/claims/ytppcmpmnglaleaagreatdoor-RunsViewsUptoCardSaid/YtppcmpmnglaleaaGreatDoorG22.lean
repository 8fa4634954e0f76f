/- Texts that stand one behind the other: V14, V15, V16. -/
import Derived.Test.YtppcmpmnglaleaaGreatDoorG21
import Derived.Test.YtppcmpmnglaleaaGreatDoorRows
set_option linter.unusedVariables false
set_option linter.unusedSimpArgs false
namespace Go.Proofs.YtppcmpmnglaleaaGreatDoor.A.P
open Go Go.RowKit
section
variable{T:Type} {enc:TypeId×Value→T} {W:World}
theorem Gj (d:DataW T):1≤Rows.uptoBulk d:=by
 cases d with
 |lit l=>cases l<;>simp [Rows.uptoBulk]
 |_=>simp [Rows.uptoBulk]
theorem sN {d:DataW T} {l:List (DataW T)} (h:d∈l):Rows.uptoBulk d≤Rows.uptoBulkAll l:=by
 induction l with
 |nil=>cases h
 |cons x r ih=>
  simp only [Rows.uptoBulkAll]
  cases List.mem_cons.1 h with
  |inl e=>subst e;omega
  |inr e=>have:=ih e;omega
theorem Gk (l:List (DataW T)):l.length≤Rows.uptoBulkAll l:=by
 induction l with
 |nil=>simp [Rows.uptoBulkAll]
 |cons x r ih=>have:=Gj x;simp only [Rows.uptoBulkAll,List.length_cons];omega
theorem yI (a b:List (DataW T)):a.length+1≤Rows.uptoBulk (.slice a b):=by
 have h1:=Gk a
 simp only [Rows.uptoBulk]
 omega
theorem Gl (l:List (DataW T)):Rows.uptoBulkAll l≤Rows.uptoBulk (.agg l):=by
 simp only [Rows.uptoBulk]
 omega
theorem sO {n0:Nat} {a:Option Addr} {n cp:Nat} {v:Value} (h:aJ n0 [.slice a n cp]=some [v]):∃a' cp',v= .slice a' n cp':=by
 simp only [aJ]at h
 cases h2:aK n0 (.slice a n cp)with
 |none=>rw [h2]at h;simp at h
 |some x=>
  rw [h2]at h
  simp only [alO,List.cons.injEq,and_true]at h
  subst h
  cases a with
  |none=>simp [aK,flat]at h2;exact ⟨_,_,h2.symm⟩
  |some a=>
   simp only [aK]at h2
   cases h1:(decide (a.block<n0)&&a.spot.isNone)with
   |true=>rw [h1]at h2;simp only [cond_true,alO]at h2;exact ⟨_,_,h2.symm⟩
   |false=>
    rw [h1]at h2
    simp only [cond_false]at h2
    cases h3:Nat.beq n 0 with
    |true=>
     rw [h3]at h2
     simp only [cond_true,alO]at h2
     have:=Nat.eq_of_beq_eq_true h3
     subst this
     exact ⟨_,_,h2.symm⟩
    |false=>rw [h3]at h2;simp at h2
theorem Gm {F:Nat→Prop} {H:AH} {sz:Nat} {rows:List (List PV)} {v:Value} (h:RF F H (.fs sz rows) v):∃a cp,v= .slice a rows.length cp:=by
 cases h
 exact ⟨_,_,rfl⟩
theorem AA {t e:TypeId} {fuel:Nat} {c v:Value} {d:DataW T} {F:Nat→Prop} {H:AH} {sz:Nat} {rows:List (List PV)} (ht:Tryz.prog.underlying t=some (.slice e)) (h:Rd enc Tryz.prog W fuel t [c] d) (g1:aJ W.heap.size [c]=some [v]) (g2:RF F H (.fs sz rows) v):rows.length≤Rows.uptoBulk d:=by
 obtain ⟨ps,h⟩:=h
 obtain ⟨a2,c2,rfl⟩:=Gm g2
 rcases DataW.trod_slice ht h with⟨e1,e2⟩|⟨a,len,cap,elems,rest,n,_,e1,e2,_,_,_,e3,_⟩
 ·cases e1
  obtain ⟨a',cp',e⟩:=sO g1
  have:rows.length=0:=by injection e
  omega
 ·cases e1
  cases e2
  obtain ⟨a',cp',e⟩:=sO g1
  have:rows.length=len:=by injection e
  have:=yI (elems.map (·.1)) (rest.map (·.1))
  rw [List.length_map]at this
  omega
theorem yJ {P:Program} {t:TypeId} {fs:Array Field} {fuel:Nat} {cs:List Value} {d:DataW T} (ht:P.underlying t=some (.struct fs)) (h:Rd enc P W fuel t cs d) (hw:wX P t d):
 cs.length=P.cellsOf t∧∃m,m<fuel∧∀(i:Nat) (f:Field),fs[i]?=some f→∃di,Rows.uptoBulk di≤Rows.uptoBulk d∧Rd enc P W m f.type ((cs.drop f.offset).take (P.cellsOf f.type)) di∧wX P f.type di:=by
 obtain ⟨ps,h⟩:=h
 obtain ⟨xs,n,hf,hx,hl,IC,xS⟩:=DataW.trod_struct ht h
 cases hx
 refine ⟨hl,n,by omega,fun i f hi=>?_⟩
 have dm:=(al1.1 hi).1
 have:=xS i f hi
 rw [alN (by omega)]at this
 refine ⟨(xs[i]'(by omega)).1,Nat.le_trans (sN (List.mem_map.2 ⟨_,List.getElem_mem _,rfl⟩)) (Gl _),⟨_,this⟩,fun m hm=>hw m ?_⟩
 simp only [DataW.weights,ht]
 exact DataW.weights_mem_each (j:=i) (t:=f.type) (d:=(xs[i]'(by omega)).1) (by simp [hi]) (by simp [alN (show i<xs.length by omega)]) m hm
theorem cR:Tryz.prog.cellsOf 49=7:=by kernel_rfl
theorem cO:Tryz.prog.cellsOf 77=2:=by kernel_rfl
theorem Xh:Tryz.prog.cellsOf 98=3:=by kernel_rfl
theorem cOs:Tryz.prog.cellsOf 46=1:=by kernel_rfl
theorem adg:Tryz.prog.cellsOf 47=1:=by kernel_rfl
theorem Uh {α:Type} {l:List α} (h:l.length=7):∃a b c d e f g,l=[a,b,c,d,e,f,g]:=by
 match l,h with
 |[a,b,c,d,e,f,g],_=>exact ⟨_,_,_,_,_,_,_,rfl⟩
theorem OU (n:Nat) (cs:List Value) (d:DataW T) (h:Rd enc Tryz.prog W n 77 cs d) (hw:wX Tryz.prog 77 d):∃l y,aJ W.heap.size cs=some l∧fN (F0 W) (H0 W) ((fun e:Int×Int=>[pi e.1,pi e.2]) y) l∧e8 y.1∧e8 y.2:=by
 obtain ⟨hl,m,hm,hf⟩:=si Tryz.underlying77 h hw
 rw [cO]at hl
 obtain ⟨c0,c1,rfl⟩:=D7 hl
 obtain ⟨d0,h0,w0⟩:=hf 0 _ rfl
 obtain ⟨d1,h1,w1⟩:=hf 1 _ rfl
 simp only [List.getElem_toArray,List.getElem_cons_zero,List.getElem_cons_succ]at h0 h1 w0 w1
 rw [cI]at h0 h1
 obtain ⟨x0,e0,b0⟩:=fT Tryz.underlying3 h0
 obtain ⟨x1,e1,b1⟩:=fT Tryz.underlying3 h1
 simp at e0 e1
 subst e0;subst e1
 exact ⟨_,(x0,x1),cY (cY rfl),.cons (.v _) (.cons (.v _) .nil),wf_i64 b0,wf_i64 b1⟩
theorem Ui (n:Nat) (cs:List Value) (d:DataW T) (h:Rd enc Tryz.prog W n 98 cs d) (hw:wX Tryz.prog 98 d):∃l y,aJ W.heap.size cs=some l∧fN (F0 W) (H0 W) ((fun e:Ev=>[pi e.kind,pi e.at_,pi e.val]) y) l∧e8 y.kind∧e8 y.at_∧e8 y.val:=by
 obtain ⟨hl,m,hm,hf⟩:=si Tryz.underlying98 h hw
 rw [Xh]at hl
 obtain ⟨c0,c1,c2,rfl⟩:=KO hl
 obtain ⟨d0,h0,w0⟩:=hf 0 _ rfl
 obtain ⟨d1,h1,w1⟩:=hf 1 _ rfl
 obtain ⟨d2,h2,w2⟩:=hf 2 _ rfl
 simp only [List.getElem_toArray,List.getElem_cons_zero,List.getElem_cons_succ]at h0 h1 h2 w0 w1 w2
 rw [cI]at h0 h1 h2
 obtain ⟨x0,e0,b0⟩:=fT Tryz.underlying3 h0
 obtain ⟨x1,e1,b1⟩:=fT Tryz.underlying3 h1
 obtain ⟨x2,e2,b2⟩:=fT Tryz.underlying3 h2
 simp at e0 e1 e2
 subst e0;subst e1;subst e2
 exact ⟨_,⟨x0,x1,x2⟩,cY (cY (cY rfl)),.cons (.v _) (.cons (.v _) (.cons (.v _) .nil)),wf_i64 b0,wf_i64 b1,wf_i64 b2⟩
structure adh (r:eJ):Prop where
 en:e8 r.en
 cost:e8 r.cost
 outs:∀o∈r.outs,e8 o.1∧e8 o.2
 trace:∀e∈r.trace,e8 e.kind∧e8 e.at_∧e8 e.val
theorem OV (n:Nat) (cs:List Value) (d:DataW T) (h:Rd enc Tryz.prog W n 49 cs d) (hw:wX Tryz.prog 49 d):∃l r,aJ W.heap.size cs=some l∧fN (F0 W) (H0 W) (cT r) l∧adh r∧r.outs.length≤Rows.uptoBulk d∧r.trace.length≤Rows.uptoBulk d:=by
 obtain ⟨hl,m,hm,hf⟩:=yJ Tryz.underlying49 h hw
 rw [cR]at hl
 obtain ⟨c0,c1,c2,c3,c4,c5,c6,rfl⟩:=Uh hl
 obtain ⟨d0,k0,h0,w0⟩:=hf 0 _ rfl
 obtain ⟨d1,k1,h1,w1⟩:=hf 1 _ rfl
 obtain ⟨d2,k2,h2,w2⟩:=hf 2 _ rfl
 obtain ⟨d3,k3,h3,w3⟩:=hf 3 _ rfl
 obtain ⟨d4,k4,h4,w4⟩:=hf 4 _ rfl
 obtain ⟨d5,k5,h5,w5⟩:=hf 5 _ rfl
 obtain ⟨d6,k6,h6,w6⟩:=hf 6 _ rfl
 simp only [List.getElem_toArray,List.getElem_cons_zero,List.getElem_cons_succ]at h0 h1 h2 h3 h4 h5 h6 w0 w1 w2 w3 w4 w5 w6
 rw [cI]at h0 h4 h5 h6
 rw [cIs]at h1
 rw [cOs]at h2
 rw [adg]at h3
 obtain ⟨x0,e0,b0⟩:=fT Tryz.underlying3 h0
 obtain ⟨x4,e4,b4⟩:=fT Tryz.underlying3 h4
 obtain ⟨x5,e5,b5⟩:=fT Tryz.underlying3 h5
 obtain ⟨x6,e6,b6⟩:=fT Tryz.underlying3 h6
 obtain ⟨vs,ls,p1,p2,p3,p4⟩:=JD (by simpa using h1) w1
 have B1:Rd enc Tryz.prog W m 46 [c2] d2:=by simpa using h2
 have CK:Rd enc Tryz.prog W m 47 [c3] d3:=by simpa using h3
 obtain ⟨vo,yo,q1,q2,q3,_⟩:=FD (fun e:Int×Int=>[pi e.1,pi e.2]) (ok:=fun y=>e8 y.1∧e8 y.2) Tryz.underlying46 (by rw [cO];omega) (by rw [cO];omega) (by decide+kernel) B1 w2 (fun k cW d' hk hr KP=>OU k cW d' hr KP)
 obtain ⟨vt,yt,r1,r2,r3,_⟩:=FD (fun e:Ev=>[pi e.kind,pi e.at_,pi e.val]) (ok:=fun y=>e8 y.kind∧e8 y.at_∧e8 y.val) Tryz.underlying47 (by rw [Xh];omega) (by rw [Xh];omega) (by decide+kernel) CK w3 (fun k cW d' hk hr KP=>Ui k cW d' hr KP)
 rw [cO]at q2
 rw [Xh]at r2
 have z2:=AA Tryz.underlying46 B1 q1 q2
 have z3:=AA Tryz.underlying47 CK r1 r2
 rw [List.length_map]at z2 z3
 simp at e0 e4 e5 e6
 subst e0;subst e4;subst e5;subst e6
 exact ⟨_,⟨x0,ls,yo,yt,x4,x5,x6⟩,cY (kl p1 (kl q1 (kl r1 (cY (cY (cY rfl)))))),.cons (.v _) (.cons p2 (.cons q2 (.cons r2 (.cons (.v _) (.cons (.v _) (.cons (.v _) .nil)))))),⟨wf_i64 b0,wf_i64 b4,q3,r3⟩,Nat.le_trans z2 k2,Nat.le_trans z3 k3⟩
end
end Go.Proofs.YtppcmpmnglaleaaGreatDoor.A.P
set_option maxRecDepth 10000
namespace Go.Proofs.YtppcmpmnglaleaaGreatDoor.A.P
open Go Go.RowKit
def jT:List A.cH→AC→List Kp→List Kp
 |[],_,ks=>ks
 | .l::p,.seq a b,ks=>jT p a (.seq b::ks)
 | .r::p,.seq _ b,ks=>jT p b ks
 | .l::p,.block i a,ks=>jT p a (.aN i::ks)
 | .l::p,.cond _ a _,ks=>jT p a ks
 | .r::p,.cond _ _ b,ks=>jT p b ks
 |_,_,ks=>ks
@[simp]theorem Xi (p:List A.cH) (x:X) (a b:AC) (ks:List Kp):jT (.l::p) (.cond x a b) ks=jT p a ks:=rfl
@[simp]theorem Xj (p:List A.cH) (x:X) (a b:AC) (ks:List Kp):jT (.r::p) (.cond x a b) ks=jT p b ks:=rfl
@[simp]theorem adi (c:AC) (ks:List Kp):jT [] c ks=ks:=by cases c<;>rfl
@[simp]theorem adj (p:List A.cH) (a b:AC) (ks:List Kp):jT (.l::p) (.seq a b) ks=jT p a (.seq b::ks):=rfl
@[simp]theorem adk (p:List A.cH) (a b:AC) (ks:List Kp):jT (.r::p) (.seq a b) ks=jT p b ks:=rfl
@[simp]theorem adl (p:List A.cH) (i:Nat) (a:AC) (ks:List Kp):jT (.l::p) (.block i a) ks=jT p a (.aN i::ks):=rfl
theorem AB {E:Env} {O:iq} {n:Nat} {Q:Ex→PF→PH→Prop} {c:AC} {ks:List Kp} {fr:PF} {h:PH} (p:List A.cH) (P:PF→PH→Prop) (hp:iO p c (et p c)=c) (h2:∀fr h,P fr h→PK E O n Q (.code (et p c) (jT p c ks)) fr h) (h1:∀rest,(∀fr h,P fr h→PK E O n Q (.code rest (jT p c ks)) fr h)→PK E O n Q (.code (iO p c rest) ks) fr h):PK E O n Q (.code c ks) fr h:=by
 have:=h1 _ h2
 rwa [hp]at this
theorem rC:∀(f n:Nat),n<10^f→0<f→il n=⟨(JP f n).toArray⟩
 |0,n,h,k=>absurd k (Nat.lt_irrefl _)
 |f+1,n,h,_=>by
  rw [il,JP]
  by_cases h1:n<10
  ·rw [if_pos h1,if_pos h1];rfl
  ·rw [if_neg h1,if_neg h1]
   have hf:0<f:=by
    rcases f with _|f
    ·simp at h;omega
    ·omega
   rw [rC f (n/10) (by rw [Nat.pow_succ]at h;omega) hf]
   apply ByteArray.ext
   simp [ByteArray.data_append,pq]
theorem BV {n:Int} (h:mi n):Gf n=de n:=by
 have h1:=h.1
 have h2:=h.2
 unfold Gf de
 split
 ·rw [rC 20 n.natAbs (by omega) (by omega)]
  apply ByteArray.ext
  simp [ByteArray.data_append]
 ·rw [rC 20 n.toNat (by omega) (by omega)]
theorem mq {n:Int} (hn:mi n):Fz E O 53 [pi n] (.v (.string (de n))):=by
 rw [←BV hn]
 exact Gg hn
def VR (level sees:Int) (r:eJ) (s:ByteArray) (fr:PF) (h:PH):Prop:=h=[.cells 7 (cT r)]∧fr.get 0=pi level∧fr.get 1=pi sees∧fr.get 5= .ref 0 0 7∧fr.get 7=ps s
theorem cG (a:UInt8):(⟨#[a]⟩:ByteArray).size=1:=rfl
theorem Gn (l:List (Int×Int)) {i:Nat} {o:Int×Int} (h:l[i]?=some o) (s:ByteArray):cU s (kH l) (i+1)=cU s (kH l) i++⟨#[32]⟩++de o.1++⟨#[58]⟩++de o.2:=by
 rw [cU]
 have:(kH l).getD i []=[o.1,o.2]:=by simp [kH,List.getD_eq_getElem?_getD,h]
 rw [this]
 rfl
theorem J2 (l:List Ev) {i:Nat} {e:Ev} (h:l[i]?=some e) (s:ByteArray):cU s (wJ l) (i+1)=cU s (wJ l) i++⟨#[32]⟩++de e.kind++⟨#[58]⟩++de e.at_++⟨#[58]⟩++de e.val:=by
 rw [cU]
 have:(wJ l).getD i []=[e.kind,e.at_,e.val]:=by simp [wJ,List.getD_eq_getElem?_getD,h]
 rw [this]
 rfl
theorem J3 (l:List Ev) (i:Nat):(BJ l)[i]?=(l[i]?).map fun e=>[pi e.kind,pi e.at_,pi e.val]:=by simp [BJ]
theorem J4 {level sees:Int} {r:eJ} (k:BS r) (hl:0≤level∧level≤15) (hs:0≤sees∧sees≤15):Fz E O 22 [pi level,pi sees,.agg (cT r)] (.v (.string (lM level sees r))):=by
 refine Fz.body (F:=Ky) rfl rfl rfl rfl ?_
 have O4:=k.lo
 have dm:=k.lt
 refine AB [.r,.r] (VR level sees r .empty) rfl ?_ ?_
 case refine_2=>
  intro rest bD
  simp (maxSteps:=4000000)-implicitDefEqProofs [-getElem?_pos,alM,Ky,cT]
  exact bD _ _ ⟨by simp [cT],by simp,by simp,by simp,by simp;rfl⟩
 rintro fr h ⟨rfl,f0,f1,f5,f7⟩
 refine AB [.r] (VR level sees r (rq sees r .empty)) rfl ?_ ?_
 case refine_2=>
  intro rest bD
  have hd:=cP r.en
  simp (maxSteps:=4000000)-implicitDefEqProofs [-getElem?_pos,alM,Ky,f0,f1,f5,f7]
  refine bA (uu (sees:=sees) (b:=8) hs (by simp)) ?_ ?_ ?_
  iterate 2· simp (maxDischargeDepth:=8)-implicitDefEqProofs [-getElem?_pos,alM]
  by_cases h:mm sees 8=0
  ·simp (maxSteps:=4000000)-implicitDefEqProofs [-getElem?_pos,alM,f0,f1,f5,f7,h]
   exact bD _ _ ⟨rfl,by simp [f0],by simp [f1],by simp [f5],by simp [f7,rq,h]⟩
  ·have c1:=db (a:=ByteArray.empty) (b:=⟨#[101]⟩) (by decide)
   have c2:=db (a:=⟨#[101]⟩) (b:=de r.en) (by rw [cG];omega)
   have c3:=db (a:=⟨#[101]⟩++de r.en) (b:=⟨#[59]⟩) (by rw [ByteArray.size_append,cG,cG];omega)
   simp (maxSteps:=4000000)-implicitDefEqProofs [-getElem?_pos,alM,f0,f1,f5,f7,h,cT,c1]
   refine bA (mq k.en) ?_ ?_ ?_
   iterate 2· simp (maxDischargeDepth:=8)-implicitDefEqProofs [-getElem?_pos,alM]
   simp (maxSteps:=4000000)-implicitDefEqProofs [-getElem?_pos,alM,f5,c2,c3]
   exact bD _ _ ⟨by simp [cT],by simp [f0],by simp [f1],by simp [f5],by simp [rq,h,ByteArray.append_assoc]⟩
 clear f0 f1 f5 f7 fr
 have z1:=sG sees r .empty
 generalize hE1:rq sees r .empty=s1 at z1⊢
 have ez:ByteArray.empty.size=0:=rfl
 rintro fr h ⟨rfl,f0,f1,f5,f7⟩
 refine AB [.r] (VR level sees r (ru level sees r s1)) rfl ?_ ?_
 case refine_2=>
  intro rest bD
  simp (maxSteps:=4000000)-implicitDefEqProofs [-getElem?_pos,alM,Ky,f0,f1,f5,f7]
  refine bA (uu (sees:=sees) (b:=1) hs (by simp)) ?_ ?_ ?_
  iterate 2· simp (maxDischargeDepth:=8)-implicitDefEqProofs [-getElem?_pos,alM]
  by_cases h:mm sees 1=0
  ·simp (maxSteps:=4000000)-implicitDefEqProofs [-getElem?_pos,alM,f0,f1,f5,f7,h]
   exact bD _ _ ⟨rfl,by simp [f0],by simp [f1],by simp [f5],by simp [f7,ru,h]⟩
  ·have c1:=db (a:=s1) (b:=⟨#[111]⟩) (by rw [cG];omega)
   simp (maxSteps:=4000000)-implicitDefEqProofs [-getElem?_pos,alM,f0,f1,f5,f7,h,cT,c1]
   refine bA (OT (level:=level) (l:=r.outs) hl (by omega)) ?_ ?_ ?_
   iterate 2· simp (maxDischargeDepth:=8)-implicitDefEqProofs [-getElem?_pos,alM]
   obtain ⟨T,hT⟩:∃T,da level r.outs=T:=⟨_,rfl⟩
   have hTl:T.length≤2^31:=by rw [←hT];exact Nat.le_trans kG O4
   have hTo:∀o∈T,mi o.1∧mi o.2:=by intro o ho;rw [←hT]at ho;exact k.outs o (List.mem_filter.1 ho).1
   rw [hT]
   obtain ⟨s9,GP⟩:∃s9,s1++⟨#[111]⟩=s9:=⟨_,rfl⟩
   have Ud:s9.size=s1.size+1:=by rw [←GP,ByteArray.size_append,cG]
   rw [GP]
   simp (maxSteps:=4000000)-implicitDefEqProofs [-getElem?_pos,alM,f0,f1,f5,f7]
   refine tX (fun i fr h=>h=[.cells 7 (cT r)]∧fr.get 0=pi level∧fr.get 1=pi sees∧fr.get 5= .ref 0 0 7∧fr.get 7=ps (cU s9 (kH T) i)∧fr.get 8= .fs 2 (rj T)∧fr.get 9=pi i) T.length ?_ ?_
   ·exact ⟨by simp [cT],by simp [f0],by simp [f1],by simp [f5],by simp [cU],by simp,by simp⟩
   rintro i fr h hi ⟨rfl,g0,g1,g5,g7,g8,g9⟩
   by_cases ot:i<T.length
   ·obtain ⟨o,ho⟩:∃o,T[i]?=some o:=⟨_,alN ot⟩
    have Kf:=hTo o (alS ho)
    have hn:=Gn T ho s9
    have gA:=dC s9 (kH T) (um T) i
    generalize cU s9 (kH T) i=w at g7 hn gA
    have d1:=cP o.1
    have d2:=cP o.2
    have c2:=db (a:=w) (b:=⟨#[32]⟩) (by rw [cG];omega)
    have c3:=db (a:=w++⟨#[32]⟩) (b:=de o.1) (by simp only [ByteArray.size_append,cG];omega)
    have c4:=db (a:=w++⟨#[32]⟩++de o.1) (b:=⟨#[58]⟩) (by simp only [ByteArray.size_append,cG];omega)
    have c5:=db (a:=w++⟨#[32]⟩++de o.1++⟨#[58]⟩) (b:=de o.2) (by simp only [ByteArray.size_append,cG];omega)
    have w4:IntKind.i64.wrap ((i:Int)+1)=((i+1:Nat):Int):=aj ⟨by omega,by omega⟩
    simp (maxSteps:=4000000)-implicitDefEqProofs [-getElem?_pos,alM,g0,g1,g5,g7,g8,g9,ot,pR,ho,c2]
    refine bA (mq Kf.1) ?_ ?_ ?_
    iterate 2· simp (maxDischargeDepth:=8)-implicitDefEqProofs [-getElem?_pos,alM]
    simp (maxSteps:=4000000)-implicitDefEqProofs [-getElem?_pos,alM,c3,c4]
    refine bA (mq Kf.2) ?_ ?_ ?_
    iterate 2· simp (maxDischargeDepth:=8)-implicitDefEqProofs [-getElem?_pos,alM]
    simp (maxSteps:=4000000)-implicitDefEqProofs [-getElem?_pos,alM,c5,g9,w4]
    refine .for ot ⟨rfl,by simp [g0],by simp [g1],by simp [g5],by simp [hn],by simp [g8],by simp⟩
   ·obtain rfl:i=T.length:=by omega
    have gA:=dC s9 (kH T) (um T) T.length
    have c2:=db (a:=cU s9 (kH T) T.length) (b:=⟨#[59]⟩) (by rw [cG];omega)
    simp (maxSteps:=4000000)-implicitDefEqProofs [-getElem?_pos,alM,g0,g1,g5,g7,g8,g9,c2]
    exact bD _ _ ⟨rfl,by simp [g0],by simp [g1],by simp [g5],by simp [ru,h,hT,GP]⟩
 clear f0 f1 f5 f7 fr
 have z2:=sI level sees r s1
 generalize hE2:ru level sees r s1=s2 at z2⊢
 rintro fr h ⟨rfl,f0,f1,f5,f7⟩
 refine AB [.r] (VR level sees r (rv sees r s2)) rfl ?_ ?_
 case refine_2=>
  intro rest bD
  simp (maxSteps:=4000000)-implicitDefEqProofs [-getElem?_pos,alM,Ky,f0,f1,f5,f7]
  refine bA (uu (sees:=sees) (b:=2) hs (by simp)) ?_ ?_ ?_
  iterate 2· simp (maxDischargeDepth:=8)-implicitDefEqProofs [-getElem?_pos,alM]
  by_cases h:mm sees 2=0
  ·simp (maxSteps:=4000000)-implicitDefEqProofs [-getElem?_pos,alM,f0,f1,f5,f7,h]
   exact bD _ _ ⟨rfl,by simp [f0],by simp [f1],by simp [f5],by simp [f7,rv,h]⟩
  ·have c1:=db (a:=s2) (b:=⟨#[116]⟩) (by rw [cG];omega)
   simp (maxSteps:=4000000)-implicitDefEqProofs [-getElem?_pos,alM,f0,f1,f5,f7,h,cT,c1]
   obtain ⟨s9,GP⟩:∃s9,s2++⟨#[116]⟩=s9:=⟨_,rfl⟩
   have Ud:s9.size=s2.size+1:=by rw [←GP,ByteArray.size_append,cG]
   rw [GP]
   refine tX (fun i fr h=>h=[.cells 7 (cT r)]∧fr.get 0=pi level∧fr.get 1=pi sees∧fr.get 5= .ref 0 0 7∧fr.get 7=ps (cU s9 (wJ r.trace) i)∧fr.get 10=pi i) r.trace.length ?_ ?_
   ·exact ⟨by simp [cT],by simp [f0],by simp [f1],by simp [f5],by simp [cU],by simp⟩
   rintro i fr h hi ⟨rfl,g0,g1,g5,g7,g9⟩
   by_cases ot:i<r.trace.length
   ·obtain ⟨e,he⟩:∃e,r.trace[i]?=some e:=⟨_,alN ot⟩
    have Kf:=k.trace e (alS he)
    have hn:=J2 r.trace he s9
    have gA:=dC s9 (wJ r.trace) (As r.trace) i
    generalize cU s9 (wJ r.trace) i=w at g7 hn gA
    have d1:=cP e.kind
    have d2:=cP e.at_
    have d3:=cP e.val
    have c2:=db (a:=w) (b:=⟨#[32]⟩) (by rw [cG];omega)
    have c3:=db (a:=w++⟨#[32]⟩) (b:=de e.kind) (by simp only [ByteArray.size_append,cG];omega)
    have c4:=db (a:=w++⟨#[32]⟩++de e.kind) (b:=⟨#[58]⟩) (by simp only [ByteArray.size_append,cG];omega)
    have c5:=db (a:=w++⟨#[32]⟩++de e.kind++⟨#[58]⟩) (b:=de e.at_) (by simp only [ByteArray.size_append,cG];omega)
    have c6:=db (a:=w++⟨#[32]⟩++de e.kind++⟨#[58]⟩++de e.at_) (b:=⟨#[58]⟩) (by simp only [ByteArray.size_append,cG];omega)
    have c7:=db (a:=w++⟨#[32]⟩++de e.kind++⟨#[58]⟩++de e.at_++⟨#[58]⟩) (b:=de e.val) (by simp only [ByteArray.size_append,cG];omega)
    have w4:IntKind.i64.wrap ((i:Int)+1)=((i+1:Nat):Int):=aj ⟨by omega,by omega⟩
    simp (maxSteps:=4000000)-implicitDefEqProofs [-getElem?_pos,alM,g0,g1,g5,g7,g9,ot,J3,he,c2,cT]
    refine bA (mq Kf.1) ?_ ?_ ?_
    iterate 2· simp (maxDischargeDepth:=8)-implicitDefEqProofs [-getElem?_pos,alM]
    simp (maxSteps:=4000000)-implicitDefEqProofs [-getElem?_pos,alM,c3,c4]
    refine bA (mq Kf.2.1) ?_ ?_ ?_
    iterate 2· simp (maxDischargeDepth:=8)-implicitDefEqProofs [-getElem?_pos,alM]
    simp (maxSteps:=4000000)-implicitDefEqProofs [-getElem?_pos,alM,c5,c6]
    refine bA (mq Kf.2.2) ?_ ?_ ?_
    iterate 2· simp (maxDischargeDepth:=8)-implicitDefEqProofs [-getElem?_pos,alM]
    simp (maxSteps:=4000000)-implicitDefEqProofs [-getElem?_pos,alM,c7,g9,w4]
    refine .for ot ⟨by simp [cT],by simp [g0],by simp [g1],by simp [g5],by simp [hn],by simp⟩
   ·obtain rfl:i=r.trace.length:=by omega
    have gA:=dC s9 (wJ r.trace) (As r.trace) r.trace.length
    have c2:=db (a:=cU s9 (wJ r.trace) r.trace.length) (b:=⟨#[59]⟩) (by rw [cG];omega)
    simp (maxSteps:=4000000)-implicitDefEqProofs [-getElem?_pos,alM,g0,g1,g5,g7,g9,c2,cT,BJ]
    exact bD _ _ ⟨by simp [cT,BJ],by simp [g0],by simp [g1],by simp [g5],by simp [rv,h,GP]⟩
 clear f0 f1 f5 f7 fr
 have z3:=sJ sees r s2
 generalize hE3:rv sees r s2=s3 at z3⊢
 rintro fr h ⟨rfl,f0,f1,f5,f7⟩
 have hd:=cP r.cost
 have hV:lM level sees r=yF sees r s3:=by rw [lM,hE1,hE2,hE3]
 simp (maxSteps:=4000000)-implicitDefEqProofs [-getElem?_pos,alM,Ky,f0,f1,f5,f7]
 refine bA (uu (sees:=sees) (b:=4) hs (by simp)) ?_ ?_ ?_
 iterate 2· simp (maxDischargeDepth:=8)-implicitDefEqProofs [-getElem?_pos,alM]
 by_cases h:mm sees 4=0
 ·simp (maxSteps:=4000000)-implicitDefEqProofs [-getElem?_pos,alM,f0,f1,f5,f7,h,hV,yF]
 ·have c1:=db (a:=s3) (b:=⟨#[99]⟩) (by rw [cG];omega)
  have c2:=db (a:=s3++⟨#[99]⟩) (b:=de r.cost) (by rw [ByteArray.size_append,cG];omega)
  have c3:=db (a:=s3++⟨#[99]⟩++de r.cost) (b:=⟨#[59]⟩) (by rw [ByteArray.size_append,ByteArray.size_append,cG,cG];omega)
  have e:lM level sees r=s3++⟨#[99]⟩++de r.cost++⟨#[59]⟩:=by rw [hV,yF,if_neg h,ByteArray.append_assoc,ByteArray.append_assoc,ByteArray.append_assoc]
  rw [e]
  simp (maxSteps:=4000000)-implicitDefEqProofs [-getElem?_pos,alM,f0,f1,f5,f7,h,cT,c1]
  refine bA (mq k.cost) ?_ ?_ ?_
  iterate 2· simp (maxDischargeDepth:=8)-implicitDefEqProofs [-getElem?_pos,alM]
  simp (maxSteps:=4000000)-implicitDefEqProofs [-getElem?_pos,alM,f5,c2,c3]
open Go Go.RowKit
theorem J5 {level bits:Int} {r:eJ} (h:¬ ((0≤level∧level≤15)∧0≤bits∧bits≤15)):Fz E O 21 [pi level,pi bits,.agg (cT r)] (.fJ [ps .empty,pi 1]):=by
 refine Fz.body (F:=a21) rfl rfl rfl (by rfl) ?_
 by_cases h1:level<0
 ·simp (maxSteps:=4000000)-implicitDefEqProofs [-getElem?_pos,alM,a21,cT,h1]
  rfl
 by_cases h2:15<level
 ·simp (maxSteps:=4000000)-implicitDefEqProofs [-getElem?_pos,alM,a21,cT,h1,h2]
  rfl
 by_cases h3:bits<0
 ·simp (maxSteps:=4000000)-implicitDefEqProofs [-getElem?_pos,alM,a21,cT,h1,h2,h3]
  rfl
 have h4:15<bits:=by omega
 simp (maxSteps:=4000000)-implicitDefEqProofs [-getElem?_pos,alM,a21,cT,h1,h2,h3,h4]
 rfl
theorem wP {level sees:Int} {r:eJ} (k:BS r):Fz E O 5 [pi level,pi sees,.agg (cT r)] (pb true):=by
 refine Fz.body (F:=a5) rfl rfl rfl rfl ?_
 have hA:=J0
 by_cases h:(0≤level∧level≤15)∧0≤sees∧sees≤15
 ·have h1:¬ level<0:=by omega
  have h2:¬ 15<level:=by omega
  have h3:¬ sees<0:=by omega
  have h4:¬ 15<sees:=by omega
  have hV:=F7 k h.1 h.2
  have hR:=J4 k h.1 h.2
  simp (maxSteps:=4000000)-implicitDefEqProofs [-getElem?_pos,alM,a5,cT]
  refine bA (hV) ?_ ?_ ?_
  iterate 2· simp (maxDischargeDepth:=8)-implicitDefEqProofs [-getElem?_pos,alM,cT]
  simp (maxSteps:=4000000)-implicitDefEqProofs [-getElem?_pos,alM,h1,h2,h3,h4]
  refine bA (hR) ?_ ?_ ?_
  iterate 2· simp (maxDischargeDepth:=8)-implicitDefEqProofs [-getElem?_pos,alM,cT]
  simp (maxSteps:=4000000)-implicitDefEqProofs [-getElem?_pos,alM,ch]
  refine bA (hA) ?_ ?_ ?_
  iterate 2· simp (maxDischargeDepth:=8)-implicitDefEqProofs [-getElem?_pos,alM]
  simp (maxSteps:=4000000)-implicitDefEqProofs [-getElem?_pos,alM]
 ·have hV:=J5 (r:=r) h
  simp (maxSteps:=4000000)-implicitDefEqProofs [-getElem?_pos,alM,a5,cT]
  refine bA (hV) ?_ ?_ ?_
  iterate 2· simp (maxDischargeDepth:=8)-implicitDefEqProofs [-getElem?_pos,alM,cT]
  have hE:ch ByteArray.empty ⟨#[]⟩=true:=by decide
  by_cases h1:level<0
  ·simp (maxSteps:=4000000)-implicitDefEqProofs [-getElem?_pos,alM,h1,hE]
   refine bA (hA) ?_ ?_ ?_
   iterate 2· simp (maxDischargeDepth:=8)-implicitDefEqProofs [-getElem?_pos,alM]
   simp (maxSteps:=4000000)-implicitDefEqProofs [-getElem?_pos,alM]
  by_cases h2:15<level
  ·simp (maxSteps:=4000000)-implicitDefEqProofs [-getElem?_pos,alM,h1,h2,hE]
   refine bA (hA) ?_ ?_ ?_
   iterate 2· simp (maxDischargeDepth:=8)-implicitDefEqProofs [-getElem?_pos,alM]
   simp (maxSteps:=4000000)-implicitDefEqProofs [-getElem?_pos,alM]
  by_cases h3:sees<0
  ·simp (maxSteps:=4000000)-implicitDefEqProofs [-getElem?_pos,alM,h1,h2,h3,hE]
   refine bA (hA) ?_ ?_ ?_
   iterate 2· simp (maxDischargeDepth:=8)-implicitDefEqProofs [-getElem?_pos,alM]
   simp (maxSteps:=4000000)-implicitDefEqProofs [-getElem?_pos,alM]
  have h4:15<sees:=by omega
  simp (maxSteps:=4000000)-implicitDefEqProofs [-getElem?_pos,alM,h1,h2,h3,h4,hE]
  refine bA (hA) ?_ ?_ ?_
  iterate 2· simp (maxDischargeDepth:=8)-implicitDefEqProofs [-getElem?_pos,alM]
  simp (maxSteps:=4000000)-implicitDefEqProofs [-getElem?_pos,alM]
end Go.Proofs.YtppcmpmnglaleaaGreatDoor.A.P
