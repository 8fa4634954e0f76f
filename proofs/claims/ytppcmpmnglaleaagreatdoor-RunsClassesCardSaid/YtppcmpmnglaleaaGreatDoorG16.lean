/- Texts that stand one behind the other: S18, S19, S20, S21, AbsQ, S22. -/
import Derived.Test.YtppcmpmnglaleaaGreatDoorG15
set_option linter.unusedVariables false
set_option linter.unusedSimpArgs false
set_option maxRecDepth 10000
namespace Go.Proofs.YtppcmpmnglaleaaGreatDoor.A
section
open Go
def wm (w k:Int) (op n cp:Int):Bool:=
 if op=0 then !decide (n<0)&&(!decide (2^w.toNat≤n)&&decide (cp=0))else if op=1 then !decide (cp<0)&& !decide (k≤cp)else decide (n=0)&&decide (cp=0)
theorem xA {w k:Int} (p:1≤w∧w≤8) (V:List Vr) (op n cp:Int) (g:Nat):gA w V k op n cp g=(decide (nc V op n=g)&&wm w k op n cp):=by
 have o:bE w=true:=by simp [bE,p]
 unfold gA wm nc;by_cases f:op=0
 ·subst f
  simp only [isWord,o,Bool.true_and];have:kf 0=0:=rfl;rw [avM];simp [this];omega
 by_cases d:op=1
 ·subst d
  have m:¬ ((1:Int)=0):=by omega
  have l:¬ ((2≤(1:Int)∧(1:Int)≤11)∨(1:Int)=13∨(1:Int)=14):=by omega
  have j:¬ ((1:Int)=12):=by omega
  have i:¬ ((1:Int)=15):=by omega
  simp only [if_true,if_neg m,if_neg l,if_neg j,if_neg i,true_and];rw [avM];generalize (if 1<aq V n then(1:Int)else 0)=z;by_cases h2:0≤n∧n<V.length
  ·rw [if_pos h2]
   simp only [avj,Bool.not_eq_true',Bool.or_eq_false_iff,decide_eq_false_iff_not,avs];omega
  ·rw [if_neg h2]
   simp only [avj,Bool.not_eq_true',Bool.or_eq_false_iff,decide_eq_false_iff_not,avs];omega
 ·simp only [if_neg f,if_neg d,false_and,if_false]
  have e:kf op=if(2≤op∧op≤11)∨op=13∨op=14 then 2 else if op=12 then 1 else if op=15 then 3 else-1:=by
   unfold kf sv;rw [if_neg f];by_cases a:op=12
   ·subst a;simp
   by_cases b:op=15
   ·subst b;simp
   rw [if_neg a,if_neg b,if_neg a,if_neg b];by_cases c:(2≤op∧op≤11)∨op=13∨op=14
   ·rw [if_pos c,if_pos (by simpa using c)]
   ·rw [if_neg c,if_neg (by simpa using c)]
  rw [e,if_neg (show¬ (op=1∧0≤n∧n<V.length) from fun h=>d h.1)];generalize (if(2≤op∧op≤11)∨op=13∨op=14 then(2:Int)else if op=12 then 1 else if op=15 then 3 else-1)=z;rw [avM];simp;constructor
  ·rintro ⟨⟨a,b⟩,c⟩;exact ⟨b.symm,c,a⟩
  ·rintro ⟨a,b,c⟩;exact ⟨⟨c,a.symm⟩,b⟩
def iO (w:Int) (V:List Vr) (k:Int) (e:ch) (deep left:Int):Bool:=decide (aA e≤left)&&(decide (deep+dx e≤17)&&dq w V k e)
theorem zJ {w:Int} (a:1≤w∧w≤8):cl .shl (.int .i64 1) (.int .u64 (IntKind.u64.wrap w))=some (.int .i64 (2^w.toNat)):=by
 obtain ⟨b,h2⟩:=a
 obtain ⟨n,rfl⟩:∃n:Nat,w=n:=⟨w.toNat,by omega⟩
 have:n=1∨n=2∨n=3∨n=4∨n=5∨n=6∨n=7∨n=8:=by omega
 rcases this with rfl|rfl|rfl|rfl|rfl|rfl|rfl|rfl<;>rfl
theorem ur:∀{l:List ch} {k:Int} {y:ch},y∈l→dx y≤dJ l k
 |x::l,k,y,h=>by
  rw [dJ];rcases avy.1 h with rfl|h
  ·have:∀(l:List ch) (k:Int),k≤dJ l k:=by
    intro l
    induction l with
    |nil=>intro k;rw [dJ];omega
    |cons z l ih=>intro k;rw [dJ];have:=ih (max k (dx z));omega
   have:=this l (max k (dx y));omega
  ·exact ur h
theorem F3 {l:List ch} {k m:Int} (b:k≤m) (h:∀y∈l,dx y≤m):dJ l k≤m:=by
 induction l generalizing k with
 |nil=>rw [dJ];exact b
 |cons x l ih=>
  rw [dJ];have:=h x (by simp);exact ih (by omega) fun y a=>h y (by simp [a])
set_option maxHeartbeats 2000000 in
theorem Ox {w k:Int} (eJ:1≤w∧w≤8) {vv:Value} {V:List Vr}:∀(N:Nat) (e:ch) (c:List Value) (G H:AH) (deep left:Int) (b:Nat),SizeOf.sizeOf e<N→H.n0≤H.nx→Ext G H→G.nx≤b→dI G vv V→oV G c e→
 H.get b=some (.cells 1 [.int .i64 left])→H.n0≤b→0≤left∧left≤1000→1≤deep∧deep≤17→
 Ca E O 166 [.agg #[.int .i64 w,vv,.int .i64 k],.agg c.toArray,.int .i64 deep,.pointer (some ⟨b,0,none⟩)] H (fun x H'=>x= .bool (iO w V k e deep left)∧Mod (fun x=>x=b) H H'∧∃s,H'.get b=some (.cells 1 [.int .i64 s])∧(iO w V k e deep left=true→s=left- aA e)):=by
 intro N
 induction N with
 |zero=>intro e c G H deep left b h;omega
 |succ N ih=>
  intro e c G H deep left b hN Z GX gb hv he hb xB amP Zx;have hbH:=AH.bc hb
  cases he with| @mk op n cp va rows args i1 i2 i3 hlen hr hl=>
  refine Ca.Zu 4 (F:=zn) rfl rfl rfl rfl ?_
  obtain ⟨rest,cx⟩:∃r,um 4 zn.body=r:=⟨_,rfl⟩
  rw [cx];have X1:=Ext.alloc H (.cells 3 [.int .i64 w,vv,.int .i64 k]);have S:(H.alloc (.cells 3 [.int .i64 w,vv,.int .i64 k])).ld ⟨H.nx,0,none⟩=some (.int .i64 w):=ak Z rfl;have d1:(H.alloc (.cells 3 [.int .i64 w,vv,.int .i64 k])).ld ⟨H.nx,1,none⟩=some vv:=ak Z rfl;have R:(H.alloc (.cells 3 [.int .i64 w,vv,.int .i64 k])).ld ⟨H.nx,2,none⟩=some (.int .i64 k):=ak Z rfl;have d:(H.alloc (.cells 3 [.int .i64 w,vv,.int .i64 k])).ldn ⟨H.nx,0,none⟩ 3=some [.int .i64 w,vv,.int .i64 k]:=bo Z 3 rfl;generalize cM:H.alloc (.cells 3 [.int .i64 w,vv,.int .i64 k])=f at X1 S d1 R d;have P:=X1.wf Z;have K:=Ext.alloc f (.cells 4 [.int .i64 op,.int .i64 n,.int .i64 cp,va]);have e0:(f.alloc (.cells 4 [.int .i64 op,.int .i64 n,.int .i64 cp,va])).ld ⟨f.nx,0,none⟩=some (.int .i64 op):=ak P rfl;have e1:(f.alloc (.cells 4 [.int .i64 op,.int .i64 n,.int .i64 cp,va])).ld ⟨f.nx,1,none⟩=some (.int .i64 n):=ak P rfl;have e2:(f.alloc (.cells 4 [.int .i64 op,.int .i64 n,.int .i64 cp,va])).ld ⟨f.nx,2,none⟩=some (.int .i64 cp):=ak P rfl;have e3:(f.alloc (.cells 4 [.int .i64 op,.int .i64 n,.int .i64 cp,va])).ld ⟨f.nx,3,none⟩=some va:=ak P rfl;have e:(f.alloc (.cells 4 [.int .i64 op,.int .i64 n,.int .i64 cp,va])).ldn ⟨f.nx,0,none⟩ 4=some [.int .i64 op,.int .i64 n,.int .i64 cp,va]:=bo P 4 rfl;generalize kH:f.alloc (.cells 4 [.int .i64 op,.int .i64 n,.int .i64 cp,va])=H2 at K e0 e1 e2 e3 e;have kg:=K.wf P;replace S:=K.ld S;replace d1:=K.ld d1;replace R:=K.ld R;replace d:=K.ldn d;have X:=X1.trans K;have Rl:=X.get hb;have jc:H2.n0≤b:=by rw [X.n0];exact xB
  have u:=aL Rl jc (k:=0) rfl;obtain ⟨H3,s3,o,tg,nU,Q⟩:=cm Rl jc (k:=0) (vs:=[.int .i64 (left- 1)]) (by simp);have vB:H3.n0≤b:=by rw [nU];exact jc
  have Q:H3.get b=some (.cells 1 [.int .i64 (left- 1)]):=Q;have t:=aL Q vB (k:=0) rfl;have BU:¬ H.nx=b:=by omega
  have W:¬ f.nx=b:=by have:=X1.nx;omega
  have D0:=o.ld (a:=⟨H.nx,0,none⟩) BU S;have D2:=o.ld (a:=⟨H.nx,2,none⟩) BU R;have D:=o.ldn (a:=⟨H.nx,0,none⟩) BU d;have E0:=o.ld (a:=⟨f.nx,0,none⟩) W e0;have E1:=o.ld (a:=⟨f.nx,1,none⟩) W e1;have E2:=o.ld (a:=⟨f.nx,2,none⟩) W e2;have E3:=o.ld (a:=⟨f.nx,3,none⟩) W e3;have EE:=o.ldn (a:=⟨f.nx,0,none⟩) W e;have nV:=o.wf kg;have MX:Mod (fun x=>x=b) H H3:=(Mod.cv X).trans o;have GX3:Ext G H3:=GX.mod MX (by rintro x rfl;exact gb);have hnE:=bf args;have hdE:=qn (.mk op n cp args);obtain ⟨a3,c3,gT⟩:=hr.len;rw [hl.length]at gT;have FE:=E3;rw [gT]at FE;have wl:IntKind.i64.wrap (left- 1)=left- 1:=ai ⟨by omega,by omega⟩
  have no:∀q:¬ (1≤left∧deep≤16∧gA w V k op n cp args.length=true),iO w V k (.mk op n cp args) deep left=false:=by
   intro q;rw [avT];intro h;have:aA (.mk op n cp args)≤left∧deep+dx (.mk op n cp args)≤17∧dq w V k (.mk op n cp args)=true:=by simpa [iO]using h
   rw [aA,dq,avj]at this;exact q ⟨by omega,by omega,this.2.2.1⟩
  rw [xA eJ]at no
  obtain ⟨F,B⟩:∃F,iO w V k (.mk op n cp args) deep left=F:=⟨_,rfl⟩
  rw [B]at no⊢
  obtain ⟨NE,hNE⟩:∃F,aA (.mk op n cp args)=F:=⟨_,rfl⟩
  rw [hNE];by_cases q1:left- 1<0
  ·have p:=no (by omega)
   simp (maxSteps:=9^7)-implicitDefEqProofs+contextual [-X.ev,zn,cM,kH,u,wl,s3,t,q1,bu,aM,aN,p,MX];exact ⟨_,Q⟩
  by_cases q2:16<deep
  ·have p:=no (by omega)
   simp (maxSteps:=9^7)-implicitDefEqProofs+contextual [-X.ev,zn,cM,kH,u,wl,s3,t,q1,q2,bu,aM,aN,p,MX];exact ⟨_,Q⟩
  simp (maxSteps:=9^7)-implicitDefEqProofs+contextual [-X.ev,zn,cM,kH,u,wl,s3,t,q1,q2,D,EE,FE];apply ah
  ·(simp-implicitDefEqProofs [-X.ev];rfl)
  refine (Jm nV (hv.ext GX3)).mono ?_;rintro x H4 ⟨rfl,g⟩;have L:=MX.trans (Mod.cv g);have FE4:=g.ld FE;have FEn:=bh.1 FE;have Zy:=bh.1 FE4;have T6:=g.get Q
  have ex4:∃s,H4.get b=some (.cells 1 [.int .i64 s]):=⟨_,T6⟩
  have qY:=g.wf nV;have GX4:=GX3.trans g;have mz:H4.n0≤b:=by rw [g.n0];exact vB
  by_cases U:nc V op n=args.length
  case neg=>
   have p:=no (by simp [U]);simp (maxSteps:=9^7)-implicitDefEqProofs+contextual [-X.ev,U,bu,aM,aN,p,L,FEn,Zy,g.n0,g.nx,ex4]
  have p:wm w k op n cp=false→F=false:=fun h=>no (by simp [h])
  have e0:=g.ld E0;have e1:=g.ld E1;have e2:=g.ld E2;have S:=g.ld D0;have R:=g.ld D2;have d:=g.ldn D;have e:=g.ldn EE
  suffices Zz:∀l:Fr,wm w k op n cp=true→l.get 2= .int .i64 deep→l.get 3= .pointer (some ⟨b,0,none⟩)→l.get 4= .pointer (some ⟨H.nx,0,none⟩)→l.get 5= .pointer (some ⟨f.nx,0,none⟩)→
   Vk E O rest [] l H4 (zi [.tmp 8] fun x H'=>x= .bool F∧Mod (fun x=>x=b) H H'∧∃s,H'.get b=some (.cells 1 [.int .i64 s])∧(F=true→s=left- NE)) by
   have sh:=zJ eJ;simp (maxSteps:=9^7)-implicitDefEqProofs+contextual [-X.ev,U,bu,aM,aN,p,L,FEn,Zy,g.n0,g.nx,ex4,wm,Zz,e0,e1,e2,S,R,sh]
  intro l q4 J I C f5;subst cx;have e3:=FE4;simp (maxSteps:=9^7)-implicitDefEqProofs+contextual [-X.ev,um,zn,J,I,C,f5,e3]
  refine cn (fun j l H'=>Mod (fun x=>x=b) H4 H'∧∃i:Nat,i+j=args.length∧l.get 2= .int .i64 deep∧l.get 3= .pointer (some ⟨b,0,none⟩)∧l.get 4= .pointer (some ⟨H.nx,0,none⟩)∧l.get 75=va∧l.get 76= .int .i64 args.length∧l.get 77= .int .i64 i∧
   H'.get b=some (.cells 1 [.int .i64 (left- 1- aw (args.take i))])∧1+aw (args.take i)≤left∧∀y∈args.take i,dx y+deep≤16∧dq w V k y=true) ?_ args.length ⟨Mod.refl _ _,0,by simp,by simp [J],by simp [I],by simp [C],by simp [gT],by simp,by simp,by simpa [aw]using T6,by simp [aw];omega,by simp⟩
  rintro j l H5 ⟨M5,i,hi,J,I,C,f75,f76,f77,Mi,hle,aH⟩;have sw:=M5.wf qY;have Rm:=L.trans M5;have ZA:Ext G H5:=GX.mod Rm (by rintro x rfl;exact gb);have dd:=M5.ldn (a:=⟨H.nx,0,none⟩) BU d;by_cases h:i<args.length
  ·obtain ⟨y,m⟩:∃y,args[i]?=some y:=⟨_,avg h⟩
   obtain ⟨b2,o2,c2,va2,r,cL,bM,rfl,ll⟩:=gY.row hr hl m;replace bM:=ZA.ldn bM;have aqP:=f75;rw [cL]at f75;obtain ⟨M,Oz,T,T7,T8,q,Y⟩:=eZ (H:=H5) sw (z:=4) (c:=[.int .i64 0,.int .i64 0,.int .i64 0,.slice none 0 0]) (vs:=[.int .i64 y.op,.int .i64 y.n,.int .i64 y.cp,va2]) rfl;have q0:M.ld ⟨H5.nx,0,none⟩=some (.int .i64 y.op):=Y 0 _ rfl;have q1:M.ld ⟨H5.nx,1,none⟩=some (.int .i64 y.n):=Y 1 _ rfl;have q2:M.ld ⟨H5.nx,2,none⟩=some (.int .i64 y.cp):=Y 2 _ rfl;have U:M.ld ⟨H5.nx,3,none⟩=some va2:=Y 3 _ rfl;clear Y;replace q:M.ldn ⟨H5.nx,0,none⟩ 4=some [.int .i64 y.op,.int .i64 y.n,.int .i64 y.cp,va2]:=q;have Jn:=T.wf sw;replace dd:=T.ldn dd;have wd:IntKind.i64.wrap (deep+1)=deep+1:=ai ⟨by omega,by omega⟩;have t1:=eX m;have t2:=bk args (i+1);have t3:=bk args i;have t4:=eA y;have t5:=ur (k:=0) (avl m);have hs:=iq (op:=op) (n:=n) (cp:=cp) m;have Jo:M.n0≤b:=by rw [T.n0,M5.n0];exact mz
   simp (maxSteps:=9^7)-implicitDefEqProofs+contextual [-X.ev,J,I,C,f75,f76,f77,h,bM,Oz,q,dd,wd];apply ah
   ·(simp-implicitDefEqProofs [-X.ev];rfl)
   refine (ih y _ G M (deep+1) (left- 1- aw (args.take i)) b (by omega) Jn (ZA.trans T) gb hv ll (T.get Mi) Jo (by omega) (by omega)).mono ?_;rintro x H7 ⟨rfl,M7,s,Xh,A⟩;have M67:=(Mod.cv T).trans M7
   cases q5:iO w V k y (deep+1) (left- 1- aw (args.take i))with
   |true=>
    have A:=A q5;have q5':aA y≤left- 1- aw (args.take i)∧deep+1+dx y≤17∧dq w V k y=true:=by simpa [iO]using q5
    simp (maxSteps:=9^7)-implicitDefEqProofs+contextual [-X.ev,J,I,C,f75,f76,f77,h];rw [ai (n:=(i:Int)+1) ⟨by omega,by omega⟩];refine ⟨j- 1,by omega,M5.trans M67,i+1,by omega,cL.symm,by simp,?_,by omega,fun z v=>?_⟩
    ·rw [Xh,A,t1]
     rw [show left- 1- aw (args.take i)- aA y=left- 1- (aw (args.take i)+aA y) by omega]
    ·rw [avB,m]at v
     rcases avA.1 v with v|v
     ·exact aH z v
     ·simp at v;subst v;exact ⟨by omega,q5'.2.2⟩
   |false=>
    have pC:F=false:=by
     rw [avT];intro hT;rw [hT]at B;have B:aA (.mk op n cp args)≤left∧deep+dx (.mk op n cp args)≤17∧dq w V k (.mk op n cp args)=true:=by simpa [iO]using B
     rw [aA,dx,dq,avj]at B;have:=jW.1 B.2.2.2 y (avl m);have:iO w V k y (deep+1) (left- 1- aw (args.take i))=true:=by simp [iO,this];omega
     rw [q5]at this;cases this
    simp (maxSteps:=9^7)-implicitDefEqProofs+contextual [-X.ev,J,I,C,f75,f76,f77,h,pC,Rm.trans M67];exact ⟨_,Xh⟩
  ·have BV:F=true:=by
    rw [←B];rw [avn (by omega)]at hle aH;have gF:=jW.2 fun y m=>(aH y m).2
    have hdl:dJ args 0≤16- deep:=F3 (by omega) fun y m=>by have:=(aH y m).1;omega
    have p:gA w V k op n cp args.length=true:=by rw [xA eJ,q4];simp [U]
    have:aA (.mk op n cp args)≤left∧deep+dx (.mk op n cp args)≤17∧dq w V k (.mk op n cp args)=true:=by
     rw [aA,dx,dq,gF,p];exact ⟨by omega,by omega,rfl⟩
    simp [iO,this]
   rw [avn (by omega)]at Mi;rw [aA]at hNE;simp (maxSteps:=9^7)-implicitDefEqProofs+contextual [-X.ev,J,I,C,f75,f76,f77,h,BV,Rm];rw [Mi,show left- 1- aw args=left- NE by omega]
open Go
theorem aD {w:Int} {V:List Vr} (h:aC w V=true):1≤w∧w≤8∧1≤V.length∧V.length≤18:=by
 simp [aC,bE]at h;omega
theorem jE {w:Int} {V:List Vr} (h:aC w V=true) {i:Nat} {v:Vr} (hi:V[i]?=some v):1≤v.cells∧v.cells≤8:=by
 rw [iu]at h;simp only [avj,avw]at h;have:=h.2.2.2.1 i (by simpa using(avm.1 hi).1);rw [rv hi]at this;exact sq this
theorem xC (w:Int) (V:List Vr) (k:Int) (e:ch):iO w V k e 1 400=iH w V k e:=by
 unfold iO iH;rw [show decide (1+dx e≤17)=decide (dx e≤16) by rw [avM];simp;omega]
def xD (w:Int) (V:List Vr) (k:Int) (e:ch):Int:=if aC w V=true then(if k<1 then 1 else if 3<k then 1 else if iH w V k e=true then 0 else 20)else 1
theorem Jp {w k:Int} {vv:Value} {V:List Vr} {e:ch} {c:List Value} {H:AH} (h:H.n0≤H.nx) (v:dI H vv V) (J:pE V) (y:oV H c e):
 Ca E O 155 [.agg #[.int .i64 w,vv,.int .i64 k],.agg c.toArray] H (fun x H'=>x= .int .i64 (xD w V k e)∧Ext H H'):=by
 refine Ca.aR (F:=NJ) rfl rfl rfl ?_;have T:c.length=4:=by cases y;rfl
 have r:=Ext.alloc H (.cells 3 [.int .i64 w,vv,.int .i64 k]);have n:(H.alloc (.cells 3 [.int .i64 w,vv,.int .i64 k])).ld ⟨H.nx,0,none⟩=some (.int .i64 w):=ak h rfl;have m:(H.alloc (.cells 3 [.int .i64 w,vv,.int .i64 k])).ld ⟨H.nx,1,none⟩=some vv:=ak h rfl;have a:(H.alloc (.cells 3 [.int .i64 w,vv,.int .i64 k])).ld ⟨H.nx,2,none⟩=some (.int .i64 k):=ak h rfl;have d:(H.alloc (.cells 3 [.int .i64 w,vv,.int .i64 k])).ldn ⟨H.nx,0,none⟩ 3=some [.int .i64 w,vv,.int .i64 k]:=bo h 3 rfl;generalize L:H.alloc (.cells 3 [.int .i64 w,vv,.int .i64 k])=o at r n m a d;have t:=r.wf h;have f:=Ext.alloc o (.cells c.length c);have q:(o.alloc (.cells c.length c)).ldn ⟨o.nx,0,none⟩ 4=some c:=bo t 4 (by assumption);generalize K:o.alloc (.cells c.length c)=W at f q;have s:=f.wf t;replace n:=f.ld n;replace m:=f.ld m;replace a:=f.ld a;replace d:=f.ldn d;have X:=r.trans f;simp (maxSteps:=9^7)-implicitDefEqProofs+contextual [-X.ev,NJ,L,K,n,m];apply ah
 ·(simp-implicitDefEqProofs [-X.ev];rfl)
 refine (DI s (v.ext X) J w).mono ?_;rintro x C ⟨rfl,j⟩;replace a:=j.ld a;replace d:=j.ldn d;replace q:=j.ldn q;have g:=X.trans j
 cases b:aC w V with
 |false=>
  simp (maxSteps:=9^7)-implicitDefEqProofs+contextual [-X.ev,b,xD,g]
 |true=>
  by_cases h2:k<1
  ·simp (maxSteps:=9^7)-implicitDefEqProofs+contextual [-X.ev,b,h2,a,xD,g]
  by_cases l:3<k
  ·simp (maxSteps:=9^7)-implicitDefEqProofs+contextual [-X.ev,b,h2,l,a,xD,g]
  have u:=aD b;have p:=j.wf s;obtain ⟨P,D,i,Q,G,M⟩:=jN p (z:=1) (c:=[.int .i64 0]) (vs:=[.int .i64 400]) rfl;replace d:=i.ldn d;replace q:=i.ldn q;simp (maxSteps:=9^7)-implicitDefEqProofs+contextual [-X.ev,b,h2,l,a,D,d,q];have I:=i.wf p;apply ah
  ·(simp-implicitDefEqProofs [-X.ev];rfl)
  refine (Ox ⟨u.1,u.2.1⟩ _ e c C P 1 400 C.nx (avv _) I i (avk _) (v.ext g) (y.ext g) M (by rw [G];exact p) (by omega) (by omega)).mono ?_;rintro x H5 ⟨rfl,N,R,U,S⟩;have B:Ext H H5:=g.trans (i.mod N (by rintro x rfl;exact avk _));rw [xC]
  cases A:iH w V k e with
  |true=>
   simp (maxSteps:=9^7)-implicitDefEqProofs+contextual [-X.ev,b,h2,l,A,xD,B]
  |false=>
   simp (maxSteps:=9^7)-implicitDefEqProofs+contextual [-X.ev,b,h2,l,A,xD,B]
theorem F4 {w k:Int} {d:Value} {V:List Vr} {e:ch} {c:List Value} {H:AH} (f:H.n0≤H.nx) (g:dI H d V) (l:pE V) (h:oV H c e):
 Ca E O 131 [.int .i64 w,d,.int .i64 k,.agg c.toArray] H (fun x H'=>x= .int .i64 (xD w V k e)∧Ext H H'):=by
 refine Ca.aR (F:=a131) rfl rfl rfl ?_;have p:c.length=4:=by cases h;rfl
 have b:=Ext.alloc H (.cells c.length c);have q:(H.alloc (.cells c.length c)).ldn ⟨H.nx,0,none⟩ 4=some c:=bo f 4 (by assumption);generalize n:H.alloc (.cells c.length c)=s at b q;have i:=b.wf f
 have m:fD [.int .i64 0,.slice none 0 0,.int .i64 0] [(0,1,.int .i64 w),(1,1,d),(2,1,.int .i64 k)]=some (.agg #[.int .i64 w,d,.int .i64 k]):=by
  obtain ⟨a,c,j⟩:=g.len;rw [j];rfl
 simp (maxSteps:=9^7)-implicitDefEqProofs+contextual [-X.ev,a131,n,q,m];apply ah
 ·(simp-implicitDefEqProofs [-X.ev];rfl)
 refine (Jp i (g.ext b) l (h.ext b)).mono ?_;rintro x r ⟨rfl,o⟩;simp (maxSteps:=9^7)-implicitDefEqProofs+contextual [-X.ev,b.trans o]
def oX (V:List Vr) (op n:Int):Int:=
 let z:=if 0≤n∧n<V.length then aq V n else 0
 if op=0 then(if z=0 then-1 else if 1<z then 2 else 1)else if op=4 then(if z=0 then-1 else if 1<z then 1 else 0)else
 if op=3 then(if n<0 then-1 else if 47<n then-1 else 1)else
 if op=1 then(if n=0 then 1 else-1)else if op=2 then(if n=0 then 1 else-1)else if op=5 then(if n=0 then 1 else-1)else if op=6 then(if n=0 then 1 else-1)else-1
theorem Jq {w op n:Int} {vv vb va vt ve:Value} {V:List Vr} {H:AH} (i:H.n0≤H.nx) (z:dI H vv V):
 Ca E O 130 [.agg #[.int .i64 w,vv,vb],.agg #[.int .i64 op,.int .i64 n,va,vt,ve]] H (fun x H'=>x= .int .i64 (oX V op n)∧Ext H H'):=by
 refine Ca.aR (F:=a130) rfl rfl rfl ?_;have u:=Ext.alloc H (.cells 3 [.int .i64 w,vv,vb]);have M:(H.alloc (.cells 3 [.int .i64 w,vv,vb])).ld ⟨H.nx,0,none⟩=some (.int .i64 w):=ak i rfl;have f:(H.alloc (.cells 3 [.int .i64 w,vv,vb])).ld ⟨H.nx,1,none⟩=some vv:=ak i rfl;have L:(H.alloc (.cells 3 [.int .i64 w,vv,vb])).ld ⟨H.nx,2,none⟩=some vb:=ak i rfl;have d:(H.alloc (.cells 3 [.int .i64 w,vv,vb])).ldn ⟨H.nx,0,none⟩ 3=some [.int .i64 w,vv,vb]:=bo i 3 rfl;generalize t:H.alloc (.cells 3 [.int .i64 w,vv,vb])=a at u M f L d;have g:=u.wf i;have l:=Ext.alloc a (.cells 5 [.int .i64 op,.int .i64 n,va,vt,ve]);have k:(a.alloc (.cells 5 [.int .i64 op,.int .i64 n,va,vt,ve])).ld ⟨a.nx,0,none⟩=some (.int .i64 op):=ak g rfl;have j:(a.alloc (.cells 5 [.int .i64 op,.int .i64 n,va,vt,ve])).ld ⟨a.nx,1,none⟩=some (.int .i64 n):=ak g rfl;have K:(a.alloc (.cells 5 [.int .i64 op,.int .i64 n,va,vt,ve])).ld ⟨a.nx,2,none⟩=some va:=ak g rfl;have J:(a.alloc (.cells 5 [.int .i64 op,.int .i64 n,va,vt,ve])).ld ⟨a.nx,3,none⟩=some vt:=ak g rfl;have I:(a.alloc (.cells 5 [.int .i64 op,.int .i64 n,va,vt,ve])).ld ⟨a.nx,4,none⟩=some ve:=ak g rfl;have e:(a.alloc (.cells 5 [.int .i64 op,.int .i64 n,va,vt,ve])).ldn ⟨a.nx,0,none⟩ 5=some [.int .i64 op,.int .i64 n,va,vt,ve]:=bo g 5 rfl;generalize s:a.alloc (.cells 5 [.int .i64 op,.int .i64 n,va,vt,ve])=S at l k j K J I e;have N:=l.wf g;replace f:=l.ld f;have X:=u.trans l;have p:IntKind.i64.wrap 1=1:=by rfl
 have m:IntKind.i64.wrap 2=2:=by rfl
 by_cases h:0≤n∧n<V.length
 ·obtain ⟨y,v⟩:∃y,V[n.toNat]?=some y:=⟨_,avg (by omega)⟩
  obtain ⟨b,o,Q,B,_,_,_,C⟩:=(z.ext X).at v;have D:aq V n=y.cells:=by simp [aq,v]
  have r:(if 0≤n∧n<V.length then aq V n else 0)=y.cells:=by rw [if_pos h,D]
  obtain ⟨F,c⟩:∃F,oX V op n=F:=⟨_,rfl⟩
  rw [c];unfold oX at c;rw [r]at c;rw [B]at f;obtain ⟨h,h2⟩:=h;simp (maxSteps:=9^7)-implicitDefEqProofs+contextual [-X.ev,a130,t,s,f,k,j,h,h2,C,X,p,m,←c]
 ·have r:(if 0≤n∧n<V.length then aq V n else 0)=0:=if_neg h
  obtain ⟨F,c⟩:∃F,oX V op n=F:=⟨_,rfl⟩
  rw [c];unfold oX at c;rw [r]at c;obtain ⟨R,P,A⟩:=z.len;rw [A]at f;by_cases h2:0≤n
  ·have G:¬ n<V.length:=fun q=>h ⟨h2,q⟩
   simp (maxSteps:=9^7)-implicitDefEqProofs+contextual [-X.ev,a130,t,s,f,k,j,h2,G,X,p,m,←c]
  ·simp (maxSteps:=9^7)-implicitDefEqProofs+contextual [-X.ev,a130,t,s,f,k,j,h2,X,p,m,←c]
end
section
open Go
mutual
def bg:bF→Int
 | .mk _ _ _ thn els=>1+ar thn+ar els
def ar:List bF→Int
 |[]=>0
 |s::ss=>bg s+ar ss
end
theorem fR {l:List bF} {i:Nat} {y:bF} (h:l[i]?=some y):av (l.take (i+1))=av (l.take i)+bA y:=by
 induction l generalizing i with
 |nil=>simp at h
 |cons x l ih=>
  cases i with
  |zero=>simp at h;subst h;simp [av]
  |succ i=>simp only [List.take_succ_cons,av];rw [ih (by simpa using h)];omega
theorem gV {l:List bF} {i:Nat} {y:bF} (h:l[i]?=some y):ar (l.take (i+1))=ar (l.take i)+bg y:=by
 induction l generalizing i with
 |nil=>simp at h
 |cons x l ih=>
  cases i with
  |zero=>simp at h;subst h;simp [ar]
  |succ i=>simp only [List.take_succ_cons,ar];rw [ih (by simpa using h)];omega
theorem bH (l:List bF):0≤av l:=(dS l).1
theorem kO:∀s:bF,1≤bA s
 | .mk op n args a b=>by
  rw [bA];have:=bf args;have:=bH a;have:=bH b;omega
theorem aV (l:List bF) (i:Nat):0≤av (l.take i)∧av (l.take i)≤av l:=by
 induction l generalizing i with
 |nil=>simp [av]
 |cons x l ih=>
  have a:=kO x;have h2:=bH l
  cases i with
  |zero=>simp only [List.take_zero,av];omega
  |succ i=>simp only [List.take_succ_cons,av];have:=ih i;omega
theorem aK:∀l:List bF,0≤ar l∧ar l≤av l:=xy fun l ih=>by
 induction l with
 |nil=>simp [ar,av]
 |cons s d c=>
  obtain ⟨op,n,args,a,b⟩:=s;have e:=ih op n args a b (by simp);have h2:=c fun op n args a b h=>ih op n args a b (by simp [h])
  have:=bf args;rw [ar,bg,av,bA];omega
theorem cy (l:List bF) (i:Nat):0≤ar (l.take i)∧ar (l.take i)≤av (l.take i):=aK _
theorem l7 {op n:Int} {args:List ch} {thn els:List bF}:∀{l:List bF} {k:Int},bF.mk op n args thn els∈l→1+bG thn 0≤bG l k∧1+bG els 0≤bG l k
 |x::l,k,h=>by
  rw [bG]
  have mono:∀(l:List bF) (k:Int),k≤bG l k:=by
   intro l
   induction l with
   |nil=>intro k;rw [bG];omega
   |cons z l ih=>
    obtain ⟨op,n,args,thn,els⟩:=z;intro k;rw [bG,kN];have:=ih (max (max k (1+bG thn 0)) (1+bG els 0));omega
  rcases avy.1 h with rfl|h
  ·have:=mono l (kN (.mk op n args thn els) k)
   rw [kN]at this⊢;omega
  ·exact l7 h
theorem F5 {l:List bF} {k m:Int} (b:k≤m) (h:∀op n args thn els,bF.mk op n args thn els∈l→1+bG thn 0≤m∧1+bG els 0≤m):bG l k≤m:=by
 induction l generalizing k with
 |nil=>rw [bG];exact b
 |cons x l ih=>
  obtain ⟨op,n,args,thn,els⟩:=x;rw [bG,kN];have:=h op n args thn els (by simp);exact ih (by omega) fun op n args thn els a=>h op n args thn els (by simp [a])
def uu (op:Int) (nt ne:Nat):Bool:=!(decide (0<nt)&&(!decide (op=1)&& !decide (op=2)))&& !(decide (0<ne)&& !decide (op=1))
theorem wo {w:Int} {V:List Vr} (r:aC w V=true) (op n:Int) (c l ne:Nat):cD V op n c l ne=(decide (oX V op n=c)&&uu op l ne):=by
 have m:∀more:Int,0≤more→mZ V n c more=decide ((if(if 0≤n∧n<V.length then aq V n else 0)=0 then-1 else if 1<(if 0≤n∧n<V.length then aq V n else 0)then more+1 else more)=(c:Int)):=by
  intro more s;unfold mZ;by_cases h:0≤n∧n<V.length
  ·obtain ⟨y,o⟩:∃y,V[n.toNat]?=some y:=⟨_,avg (by omega)⟩
   have q:aq V n=y.cells:=by simp [aq,o]
   have:=jE r o;have p:¬ y.cells=0:=by omega
   rw [if_pos h,q,if_neg p];simp only [h.1,h.2,decide_true,Bool.true_and];by_cases h2:1<y.cells
   ·rw [if_pos h2,if_pos h2];rw [avM];simp;omega
   ·rw [if_neg h2,if_neg h2];rw [avM];simp;omega
  ·rw [if_neg h,if_pos rfl]
   rw [avM];simp;omega
 unfold cD oX uu;by_cases k:op=0
 ·subst k
  rw [m 1 (by omega)];simp only [if_true];rw [show(1:Int)+1=2 by rfl];generalize decide ((if(if 0≤n∧n<V.length then aq V n else 0)=0 then(-1:Int)else if 1<(if 0≤n∧n<V.length then aq V n else 0)then 2 else 1)=c)=A;rw [avM];cases A<;>simp
 by_cases f:op=4
 ·subst f
  rw [m 0 (by omega)];simp only [if_true,if_neg (show¬ (4:Int)=0 by omega),if_neg (show¬ (4:Int)=1 by omega),if_neg (show¬ (4:Int)=2 by omega),if_neg (show¬ (4:Int)=3 by omega)];rw [show(0:Int)+1=1 by rfl];generalize decide ((if(if 0≤n∧n<V.length then aq V n else 0)=0 then(-1:Int)else if 1<(if 0≤n∧n<V.length then aq V n else 0)then 1 else 0)=c)=A;rw [avM];cases A<;>simp
 simp only [if_neg k,if_neg f];rw [avM];by_cases g:op=3
 ·subst g
  rw [if_neg (by omega),if_neg (by omega),if_pos rfl,if_pos rfl];by_cases a:n<0
  ·rw [if_pos a];simp;omega
  ·by_cases b:47<n
   ·rw [if_neg a,if_pos b];simp;omega
   ·rw [if_neg a,if_neg b];simp;omega
 by_cases j:op=1
 ·subst j
  by_cases a:n=0
  ·simp [a]<;>omega
  ·simp [a]
 by_cases i:op=2
 ·subst i
  by_cases a:n=0
  ·simp [a]<;>omega
  ·simp [a]
 by_cases e:op=5
 ·subst e
  by_cases a:n=0
  ·simp [a]<;>omega
  ·simp [a]
 by_cases d:op=6
 ·subst d
  by_cases a:n=0
  ·simp [a]<;>omega
  ·simp [a]
 simp [g,j,i,e,d]
theorem Jr (V:List Vr) (op n:Int):oX V op n≤2:=by
 unfold oX;dsimp only
 repeat' split
 all_goals omega
open Go
def mA (w:Int) (V:List Vr) (l:List bF) (deep nodes:Int):Bool:=decide (nodes+av l≤400)&&(decide (deep+bG l 0≤17)&&gU w V l)
theorem lG {w:Int} {V:List Vr} {l:List bF} {deep nodes:Int}:mA w V l deep nodes=true↔nodes+av l≤400∧deep+bG l 0≤17∧gU w V l=true:=by simp [mA]
theorem OA {w:Int} {V:List Vr} (h:aC w V=true) (e:ch):xD w V 1 e=if iH w V 1 e=true then 0 else 20:=by simp [xD,h]
theorem Js {w:Int} {vv vb:Value} {V:List Vr} (hV:aC w V=true) (mu:pE V):∀(N:Nat) (l:List bF) (vl:Value) (rows:List (List Value)) (G H:AH) (deep stmts nodes:Int) (b:Nat),SizeOf.sizeOf l<N→H.n0≤H.nx→Ext G H→G.nx≤b→dI G vv V→l.length<2^60→Rows G 5 vl rows→je G rows l→
 H.get b=some (.cells 2 [.int .i64 stmts,.int .i64 nodes])→H.n0≤b→0≤stmts∧stmts≤nodes→nodes≤2000→1≤deep∧deep≤17→
 Ca E O 97 [.pointer (some ⟨b,0,none⟩),.agg #[.int .i64 w,vv,vb],vl,.int .i64 deep] H (fun x H'=>x= .bool (mA w V l deep nodes)∧Mod (fun x=>x=b) H H'∧∃C B,H'.get b=some (.cells 2 [.int .i64 C,.int .i64 B])∧(mA w V l deep nodes=true→C=stmts+ar l∧B=nodes+av l)):=by
 intro N
 induction N with
 |zero=>intro l vl rows G H deep stmts nodes b h;omega
 |succ N ih=>
  intro l vl rows G H deep stmts nodes b hN K GX gb hv hlen hr hl hb xB eY se Zx;have hbH:=AH.bc hb;refine Ca.aR (F:=Ra) rfl rfl rfl ?_
  obtain ⟨F,hF⟩:∃F,mA w V l deep nodes=F:=⟨_,rfl⟩
  rw [hF]
  have Hn:¬ (nodes+av l≤400∧deep+bG l 0≤17∧gU w V l=true)→F=false:=by
   intro q;rw [avT,←hF];exact fun h=>q (lG.1 h)
  have X1:=Ext.alloc H (.cells 3 [.int .i64 w,vv,vb]);have d0:(H.alloc (.cells 3 [.int .i64 w,vv,vb])).ld ⟨H.nx,0,none⟩=some (.int .i64 w):=ak K rfl;have d1:(H.alloc (.cells 3 [.int .i64 w,vv,vb])).ld ⟨H.nx,1,none⟩=some vv:=ak K rfl;have d2:(H.alloc (.cells 3 [.int .i64 w,vv,vb])).ld ⟨H.nx,2,none⟩=some vb:=ak K rfl;have d:(H.alloc (.cells 3 [.int .i64 w,vv,vb])).ldn ⟨H.nx,0,none⟩ 3=some [.int .i64 w,vv,vb]:=bo K 3 rfl;generalize cM:H.alloc (.cells 3 [.int .i64 w,vv,vb])=H1 at X1 d0 d1 d2 d;have bT:=X1.wf K;have gb1:=X1.get hb
  have L7:∃C B:Int,H1.get b=some (.cells 2 [.int .i64 C,.int .i64 B]):=⟨_,_,gb1⟩
  have mM:H1.n0≤b:=by rw [X1.n0];exact xB
  have GX1:=GX.trans X1;have J:¬ H.nx=b:=by omega
  obtain ⟨a0,c0,lE⟩:=hr.len;rw [hl.length]at lE;have MX1:Mod (fun x=>x=b) H H1:=Mod.cv X1;by_cases z0:0<l.length∧16<deep
  case pos=>
   obtain ⟨z1,z2⟩:=z0
   have Z:F=false:=Hn (by
    rintro ⟨_,q,_⟩
    obtain ⟨⟨op,n,args,f,g⟩,W⟩:∃y,l[0]?=some y:=⟨_,avg z1⟩
    have:=l7 (k:=0) (avl W);have:=(lX f 0 (by omega)).1
    omega)
   simp (maxSteps:=9^7)-implicitDefEqProofs+contextual [-X.ev,Ra,lE,cM,z1,z2,Z,L7,MX1]
  refine uq [.r,.r] (fun o H'=>H'=H1∧o.get 0= .pointer (some ⟨b,0,none⟩)∧o.get 2= .slice a0 l.length c0∧o.get 3= .int .i64 deep∧o.get 5= .pointer (some ⟨H.nx,0,none⟩)) rfl ?_ ?_
  case refine_2=>
   intro rest cx;simp only [Ra,BS,BR]at cx;by_cases z1:0<l.length
   ·have z2:¬ 16<deep:=fun q=>z0 ⟨z1,q⟩
    simp (maxSteps:=9^7)-implicitDefEqProofs+contextual [-X.ev,Ra,lE,cM,z1,z2,cx]
   ·simp (maxSteps:=9^7)-implicitDefEqProofs+contextual [-X.ev,Ra,lE,cM,z1,cx]
  rintro o H' ⟨rfl,v,f2,u,t⟩;have gp:=aV l;simp (maxSteps:=9^7)-implicitDefEqProofs+contextual [-X.ev,Ra,v,f2,u,t]
  refine cn (fun j o H2=>Mod (fun x=>x=b) H' H2∧∃i:Nat,i+j=l.length∧o.get 0= .pointer (some ⟨b,0,none⟩)∧o.get 3= .int .i64 deep∧o.get 5= .pointer (some ⟨H.nx,0,none⟩)∧o.get 20=vl∧o.get 21= .int .i64 l.length∧o.get 22= .int .i64 i∧
   H2.get b=some (.cells 2 [.int .i64 (stmts+ar (l.take i)),.int .i64 (nodes+av (l.take i))])∧nodes+av (l.take i)≤2000∧(0<i→nodes+av (l.take i)≤400)∧
   ∀op n args f g,bF.mk op n args f g∈l.take i→(deep+1+bG f 0≤17∧deep+1+bG g 0≤17)∧fu w V (.mk op n args f g)=true) ?_ l.length ⟨Mod.refl _ _,0,by simp,by simp [v],by simp [u],by simp [t],by simp [lE],by simp,by simp,by simpa [ar,av]using gb1,by simp [av];omega,by simp,by simp⟩
  rintro j o H2 ⟨M2,i,hi,v,u,t,f20,f21,f22,Rl,hle,aiE,aH⟩;have M02:=MX1.trans M2;have jG:=M2.wf bT;have GX2:Ext G H2:=GX.mod M02 (by rintro x rfl;exact gb);have jc:H2.n0≤b:=by rw [M2.n0];exact mM
  have D0:=M2.ld (a:=⟨H.nx,0,none⟩) J d0;have D1:=M2.ld (a:=⟨H.nx,1,none⟩) J d1;have D:=M2.ldn (a:=⟨H.nx,0,none⟩) J d;by_cases h:i<l.length
  case neg=>
   have ht:l.take i=l:=avn (by omega);rw [ht]at aiE aH Rl hle
   have Y:F=decide (nodes+av l≤400):=by
    have p1:=F5 (l:=l) (k:=0) (m:=17- deep) (by omega) fun op n args f g hm=>by have:=(aH op n args f g hm).1;omega
    have p2:decide (deep+bG l 0≤17)=true:=by simp;omega
    have p3:gU w V l=true:=lD.2 fun e he=>by obtain ⟨op,n,args,f,g⟩:=e;exact (aH op n args f g he).2
    rw [←hF,mA,p2,p3];simp
   have l2:=aL Rl jc (k:=1) rfl;simp (maxSteps:=9^7)-implicitDefEqProofs+contextual [-X.ev,v,u,t,f20,f21,f22,h,l2];exact ⟨Y.symm,M02,_,_,Rl,fun _=>⟨rfl,rfl⟩⟩
  obtain ⟨⟨op,n,args,f,g⟩,W⟩:∃y,l[i]?=some y:=⟨_,avg h⟩
  have hs:=mY W;have qq:=avl W;have t1:=fR W;have t2:=gV W;have t3:=gp (i+1);have t4:=cy l i;have t5:=gp i;rw [bA]at t1;rw [bg]at t2;have u1:=bf args;have u2:=bH f;have u3:=bH g;have u4:=aK f;have u5:=aK g;obtain ⟨b2,o2,c2,va,vt,ve,ra,rt,re,cL,bM,_,_,_,_,_,i1,s,i3,i4,i5,g1,g2,g3,g4,g5,g6⟩:=je.row hr hl W;replace bM:=GX2.ldn bM;rw [cL]at f20;obtain ⟨aa,ca,gT⟩:=g1.len;obtain ⟨at_,ct,yP⟩:=g3.len;obtain ⟨ae,ce,uh⟩:=g5.len;rw [g2.length]at gT;rw [g4.length]at yP;rw [g6.length]at uh
  obtain ⟨nt,Xj⟩:∃nt,f.length=nt:=⟨_,rfl⟩
  obtain ⟨ne_,gw⟩:∃nt,g.length=nt:=⟨_,rfl⟩
  rw [Xj]at yP;rw [gw]at uh
  have hdp:deep≤16:=by
   rcases Int.lt_or_le 16 deep with q|q
   ·exact absurd ⟨by omega,q⟩ z0
   ·exact q
  have kI:gU w V l=true→fu w V (.mk op n args f g)=true:=fun q=>lD.1 q _ qq
  rw [fu,wo hV,Xj,gw]at kI;obtain ⟨H3,Hm,X3,Jk,Jl,q,mO⟩:=eZ (H:=H2) jG (z:=5) (c:=[.int .i64 0,.int .i64 0,.slice none 0 0,.slice none 0 0,.slice none 0 0]) (vs:=[.int .i64 op,.int .i64 n,va,vt,ve]) rfl;have q0:H3.ld ⟨H2.nx,0,none⟩=some (.int .i64 op):=mO 0 _ rfl;have q1:H3.ld ⟨H2.nx,1,none⟩=some (.int .i64 n):=mO 1 _ rfl;have q2:H3.ld ⟨H2.nx,2,none⟩=some va:=mO 2 _ rfl;have q3:H3.ld ⟨H2.nx,3,none⟩=some vt:=mO 3 _ rfl;have q4:H3.ld ⟨H2.nx,4,none⟩=some ve:=mO 4 _ rfl;clear mO;replace q:H3.ldn ⟨H2.nx,0,none⟩ 5=some [.int .i64 op,.int .i64 n,va,vt,ve]:=q;have zI:=X3.wf jG;have Oy:=X3.get Rl;have vB:H3.n0≤b:=by rw [X3.n0];exact jc
  have U:¬ H2.nx=b:=by have:=AH.bc Rl;omega
  obtain ⟨H4,s4,M4,Bb,pI,T6⟩:=cm Oy vB (k:=0) (vs:=[.int .i64 (stmts+ar (l.take i)+1)]) (by simp);have T6:H4.get b=some (.cells 2 [.int .i64 (stmts+ar (l.take i)+1),.int .i64 (nodes+av (l.take i))]):=T6;have mz:H4.n0≤b:=by rw [pI];exact vB
  obtain ⟨H5,s5,M5,Ro,zK,Mi⟩:=cm T6 mz (k:=1) (vs:=[.int .i64 (nodes+av (l.take i)+1)]) (by simp);have Mi:H5.get b=some (.cells 2 [.int .i64 (stmts+ar (l.take i)+1),.int .i64 (nodes+av (l.take i)+1)]):=Mi;have yQ:H5.n0≤b:=by rw [zK];exact mz
  have Xk:=M4.trans M5;have Rp:=(Mod.cv X3).trans Xk;have Rm:=M02.trans Rp;have ZA:Ext G H5:=GX.mod Rm (by rintro x rfl;exact gb);have sw:=Rm.wf K;have l3:=aL Oy vB (k:=0) rfl;have l4:=aL T6 mz (k:=1) rfl;have l5:=aL Mi yQ (k:=1) rfl;have Q:=Xk.ldn (a:=⟨H2.nx,0,none⟩) U q;have Q0:=Xk.ld (a:=⟨H2.nx,0,none⟩) U q0;have Q2:=Xk.ld (a:=⟨H2.nx,2,none⟩) U q2;have Q3:=Xk.ld (a:=⟨H2.nx,3,none⟩) U q3;have Q4:=Xk.ld (a:=⟨H2.nx,4,none⟩) U q4;replace D0:=Rp.ld (a:=⟨H.nx,0,none⟩) J D0;replace D1:=Rp.ld (a:=⟨H.nx,1,none⟩) J D1;replace D:=Rp.ldn (a:=⟨H.nx,0,none⟩) J D
  have ex5:∃C B:Int,H5.get b=some (.cells 2 [.int .i64 C,.int .i64 B]):=⟨_,_,Mi⟩
  have w1:IntKind.i64.wrap (stmts+ar (l.take i)+1)=stmts+ar (l.take i)+1:=ai ⟨by omega,by omega⟩;have w2:IntKind.i64.wrap (nodes+av (l.take i)+1)=nodes+av (l.take i)+1:=ai ⟨by omega,by omega⟩;have M:=Q2;rw [gT]at M;by_cases k1:400<nodes+av (l.take i)+1
  ·have Z:F=false:=Hn (by rintro ⟨q,_⟩;omega)
   simp (maxSteps:=9^7)-implicitDefEqProofs+contextual [-X.ev,v,u,t,f20,f21,f22,h,bM,Hm,l3,s4,w1,l4,s5,w2,l5,k1,Z,bu,aM,aN,ex5,Rm]
  simp (maxSteps:=9^7)-implicitDefEqProofs+contextual [-X.ev,v,u,t,f20,f21,f22,h,bM,Hm,l3,s4,w1,l4,s5,w2,l5,k1,D,Q,M];apply ah
  ·(simp-implicitDefEqProofs [-X.ev];rfl)
  refine (Jq sw (hv.ext ZA)).mono ?_;rintro x H6 ⟨rfl,A⟩;have F6:=A.wf sw;have GX6:=ZA.trans A;have M06:=Rm.trans (Mod.cv A);have gb6:=A.get Mi;have Jo:H6.n0≤b:=by rw [A.n0];exact yQ
  have ex6:∃C B:Int,H6.get b=some (.cells 2 [.int .i64 C,.int .i64 B]):=⟨_,_,gb6⟩
  have r0:=A.ld Q0;have r2:=A.ld Q2;have r3:=A.ld Q3;have r4:=A.ld Q4;replace D0:=A.ld D0;replace D1:=A.ld D1;replace D:=A.ldn D;have Q2n:=bh.1 M;have r2n:=bh.1 (A.ld M);by_cases k2:oX V op n=args.length
  case neg=>
   have Z:F=false:=Hn (by rintro ⟨_,_,q⟩;have:=kI q;simp [k2]at this);simp (maxSteps:=9^7)-implicitDefEqProofs+contextual [-X.ev,k2,Z,bu,aM,aN,ex6,M06,Q2n,r2n,A.n0,A.nx]
  have Z:uu op nt ne_=false→F=false:=fun z=>Hn (by rintro ⟨_,_,q⟩;have:=kI q;simp [z]at this)
  refine Zt 1 [.r] (fun o H'=>H'=H6∧uu op nt ne_=true∧o.get 0= .pointer (some ⟨b,0,none⟩)∧o.get 3= .int .i64 deep∧o.get 5= .pointer (some ⟨H.nx,0,none⟩)∧o.get 10= .pointer (some ⟨H2.nx,0,none⟩)∧o.get 20= .slice (some ⟨b2,o2,none⟩) l.length c2∧o.get 21= .int .i64 l.length∧o.get 22= .int .i64 i) rfl ?_ ?_
  case refine_2=>
   intro rest cx;rw [yP]at r3;rw [uh]at r4;simp only [zE,BS,BR]at cx;simp (maxSteps:=9^7)-implicitDefEqProofs+contextual [-X.ev,xz,uu,k2,Z,bu,aM,aN,ex6,M06,Q2n,r2n,A.n0,A.nx,r0,r3,r4,cx,v,u,t,f20,f21,f22]
  simp only [zE,BS,BR,DF,Ou,Ot];rintro cq H' ⟨rfl,k3,v,u,t,f10,f20,f21,f22⟩;rw [gT]at r2;simp (maxSteps:=9^7)-implicitDefEqProofs+contextual [-X.ev,v,u,t,f10,f20,f21,f22,r2]
  refine cn (fun j2 o H7=>Mod (fun x=>x=b) H' H7∧∃s:Nat,s+j2=args.length∧o.get 0= .pointer (some ⟨b,0,none⟩)∧o.get 3= .int .i64 deep∧o.get 5= .pointer (some ⟨H.nx,0,none⟩)∧o.get 10= .pointer (some ⟨H2.nx,0,none⟩)∧o.get 20= .slice (some ⟨b2,o2,none⟩) l.length c2∧o.get 21= .int .i64 l.length∧o.get 22= .int .i64 i∧
   o.get 80=va∧o.get 81= .int .i64 args.length∧o.get 82= .int .i64 s∧
   H7.get b=some (.cells 2 [.int .i64 (stmts+ar (l.take i)+1),.int .i64 (nodes+av (l.take i)+1+aw (args.take s))])∧aw (args.take s)≤400*s∧
   ∀e∈args.take s,iH w V 1 e=true) ?_ args.length ⟨Mod.refl _ _,0,by simp,by simp [v],by simp [u],by simp [t],by simp [f10],by simp [f20],by simp [f21],by simp [f22],by simp [gT],by simp,by simp,by simpa [aw]using gb6,by simp [aw],by simp⟩
  rintro j2 o H7 ⟨P,s,F7,v,u,t,f10,f20,f21,f22,f80,f81,f82,Xh,aiH,Jt⟩;have T:=M06.trans P;have Xl:=T.wf K;have GX7:Ext G H7:=GX.mod T (by rintro x rfl;exact gb);have Ju:H7.n0≤b:=by rw [P.n0];exact Jo
  have Ya:(args.length:Int)≤2:=by rw [←k2];exact Jr V op n
  have D0':=P.ld (a:=⟨H.nx,0,none⟩) J D0;have D1':=P.ld (a:=⟨H.nx,1,none⟩) J D1;have D':=P.ldn (a:=⟨H.nx,0,none⟩) J D;by_cases h2:s<args.length
  ·obtain ⟨y,By⟩:∃y,args[s]?=some y:=⟨_,avg h2⟩
   obtain ⟨b3,o3,c3,va3,r,G7,Jv,rfl,ll⟩:=gY.row g1 g2 By;replace Jv:=GX7.ldn Jv;rw [G7]at f80;obtain ⟨H8,sH8,X8,aqU,aiM,p,ZB⟩:=eZ (H:=H7) Xl (z:=4) (c:=[.int .i64 0,.int .i64 0,.int .i64 0,.slice none 0 0]) (vs:=[.int .i64 y.op,.int .i64 y.n,.int .i64 y.cp,va3]) rfl;have p0:H8.ld ⟨H7.nx,0,none⟩=some (.int .i64 y.op):=ZB 0 _ rfl;have p1:H8.ld ⟨H7.nx,1,none⟩=some (.int .i64 y.n):=ZB 1 _ rfl;have p2:H8.ld ⟨H7.nx,2,none⟩=some (.int .i64 y.cp):=ZB 2 _ rfl;have p3:H8.ld ⟨H7.nx,3,none⟩=some va3:=ZB 3 _ rfl;clear ZB;replace p:H8.ldn ⟨H7.nx,0,none⟩ 4=some [.int .i64 y.op,.int .i64 y.n,.int .i64 y.cp,va3]:=p;have aiN:=X8.wf Xl;replace D0':=X8.ld D0';replace D1':=X8.ld D1';have ZC:=GX7.trans X8;have L:=X8.get Xh;simp (maxSteps:=9^7)-implicitDefEqProofs+contextual [-X.ev,v,u,t,f10,f20,f21,f22,f80,f81,f82,h2,Jv,sH8,D0',D1',p];apply ah
   ·(simp-implicitDefEqProofs [-X.ev];rfl)
   refine (F4 (k:=1) aiN (hv.ext ZC) mu (ll.ext ZC)).mono ?_;rintro x H9 ⟨rfl,X9⟩;rw [OA hV];have R:=T.trans ((Mod.cv X8).trans (Mod.cv X9));have Xm:=X9.get L
   have ex9:∃C B:Int,H9.get b=some (.cells 2 [.int .i64 C,.int .i64 B]):=⟨_,_,Xm⟩
   cases k4:iH w V 1 y with
   |false=>
    have Y:F=false:=Hn (by
     rintro ⟨_,_,q⟩;have:=kI q;simp only [avj,avw]at this;have:=this.2.2.2 y (avl By)
     rw [k4]at this;cases this)
    simp (maxSteps:=9^7)-implicitDefEqProofs+contextual [-X.ev,k4,Y,ex9,R]
   |true=>
    have hb9:H9.n0≤b:=by rw [X9.n0,aiM];exact Ju
    have l9:=aL Xm hb9 (k:=1) rfl;have l9n:=bh.1 l9;have aqW:aA y≤400:=by simp [iH]at k4;exact k4.1
    have aqX:=eA y;replace p:=X9.ldn p;have hw9:=R.wf K;have GX9:=ZC.trans X9;simp (maxSteps:=9^7)-implicitDefEqProofs+contextual [-X.ev,k4,v,u,t,f10,f20,f21,f22,f80,f81,f82,l9,p];apply ah
    ·(simp-implicitDefEqProofs [-X.ev];rfl)
    refine (wk _ y _ H9 (avv _) hw9 (ll.ext GX9) (by omega)).mono ?_;rintro x Bc ⟨rfl,ZD⟩;have ZE:=ZD.get Xm;have ZF:Bc.n0≤b:=by rw [ZD.n0];exact hb9
    have s1:=eX By;have aiQ:=bh.1 (aL ZE ZF (k:=1) rfl);obtain ⟨H11,s11,M11,ZG,ZJ,T9⟩:=cm ZE ZF (k:=1) (vs:=[.int .i64 (nodes+av (l.take i)+1+aw (args.take s)+aA y)]) (by simp);have T9:H11.get b=some (.cells 2 [.int .i64 (stmts+ar (l.take i)+1),.int .i64 (nodes+av (l.take i)+1+aw (args.take s)+aA y)]):=T9;have s2:=bk args s;have wr:IntKind.i64.wrap (nodes+av (l.take i)+1+aw (args.take s)+aA y)=nodes+av (l.take i)+1+aw (args.take s)+aA y:=ai ⟨by omega,by omega⟩;have wi:IntKind.i64.wrap ((s:Int)+1)=(s:Int)+1:=ai ⟨by omega,by omega⟩;simp (maxSteps:=9^7)-implicitDefEqProofs+contextual [-X.ev,v,u,t,f10,f20,f21,f22,f80,f81,f82,wr,s11,bu,aM,aN,l9n,aiQ,ZD.n0,ZD.nx,ZJ,ZG,wi];refine ⟨j2- 1,by omega,P.trans ((Mod.cv (X8.trans (X9.trans ZD))).trans M11),s+1,by omega,G7.symm,by simp,?_,by omega,fun z I=>?_⟩
    ·rw [T9,s1]
     rw [show nodes+av (l.take i)+1+aw (args.take s)+aA y=nodes+av (l.take i)+1+(aw (args.take s)+aA y) by omega]
    ·rw [avB,By]at I
     rcases avA.1 I with I|I
     ·exact Jt z I
     ·simp at I;subst I;exact k4
  ·have ht:args.take s=args:=avn (by omega)
   rw [ht]at aiH Jt Xh;have Ju:=Ju;have q3':=P.ld (a:=⟨H2.nx,3,none⟩) U r3;have q4':=P.ld (a:=⟨H2.nx,4,none⟩) U r4;have wd:IntKind.i64.wrap (deep+1)=deep+1:=ai ⟨by omega,by omega⟩;simp (maxSteps:=9^7)-implicitDefEqProofs+contextual [-X.ev,v,u,t,f10,f20,f21,f22,f80,f81,f82,h2,D',q3',wd];have ka:aw args≤800:=by omega
   apply ah
   ·(simp-implicitDefEqProofs [-X.ev];rfl)
   refine (ih f vt rt G H7 (deep+1) (stmts+ar (l.take i)+1) (nodes+av (l.take i)+1+aw args) b (by omega) Xl GX7 gb hv i4 g3 g4 Xh Ju (by omega) (by omega) (by omega)).mono ?_;rintro x H8 ⟨rfl,M8,C,B,L,hl8⟩;have S:=T.trans M8
   have ex8:∃C B:Int,H8.get b=some (.cells 2 [.int .i64 C,.int .i64 B]):=⟨_,_,L⟩
   cases k5:mA w V f (deep+1) (nodes+av (l.take i)+1+aw args)with
   |false=>
    have Y:F=false:=Hn (by
     rintro ⟨q1,q2,q⟩;have:=kI q;simp only [avj]at this;have r1:=this.2.1;have r2:=l7 (k:=0) qq;have:mA w V f (deep+1) (nodes+av (l.take i)+1+aw args)=true:=lG.2 ⟨by omega,by omega,r1⟩
     rw [k5]at this;cases this)
    simp (maxSteps:=9^7)-implicitDefEqProofs+contextual [-X.ev,v,u,t,Y,ex8,S]
   |true=>
    obtain ⟨rfl,rfl⟩:=hl8 k5;have k5':=lG.1 k5;have eJ:=S.wf K;have ZC:Ext G H8:=GX.mod S (by rintro x rfl;exact gb);have ZK:H8.n0≤b:=by rw [M8.n0];exact Ju
    have D8:=M8.ldn (a:=⟨H.nx,0,none⟩) J D';have q48:=M8.ld (a:=⟨H2.nx,4,none⟩) U q4';simp (maxSteps:=9^7)-implicitDefEqProofs+contextual [-X.ev,v,u,t,f10,f20,f21,f22,D8,q48,wd];apply ah
    ·(simp-implicitDefEqProofs [-X.ev];rfl)
    refine (ih g ve re G H8 (deep+1) (stmts+ar (l.take i)+1+ar f) (nodes+av (l.take i)+1+aw args+av f) b (by omega) eJ ZC gb hv i5 g5 g6 L ZK (by omega) (by omega) (by omega)).mono ?_;rintro x H9 ⟨rfl,M9,C,B,Xm,hl9⟩;have R:=S.trans M9
    have ex9:∃C B:Int,H9.get b=some (.cells 2 [.int .i64 C,.int .i64 B]):=⟨_,_,Xm⟩
    cases k6:mA w V g (deep+1) (nodes+av (l.take i)+1+aw args+av f)with
    |false=>
     have Y:F=false:=Hn (by
      rintro ⟨q1,q2,q⟩;have:=kI q;simp only [avj]at this;have r1:=this.2.2.1;have r2:=l7 (k:=0) qq;have:mA w V g (deep+1) (nodes+av (l.take i)+1+aw args+av f)=true:=lG.2 ⟨by omega,by omega,r1⟩
      rw [k6]at this;cases this)
     simp (maxSteps:=9^7)-implicitDefEqProofs+contextual [-X.ev,v,u,t,Y,ex9,R]
    |true=>
     obtain ⟨rfl,rfl⟩:=hl9 k6;have k6':=lG.1 k6;have wi:IntKind.i64.wrap ((i:Int)+1)=(i:Int)+1:=ai ⟨by omega,by omega⟩;simp (maxSteps:=9^7)-implicitDefEqProofs+contextual [-X.ev,v,u,t,f10,f20,f21,f22,wi];refine ⟨j- 1,by omega,M2.trans (Rp.trans ((Mod.cv A).trans (P.trans (M8.trans M9)))),i+1,by omega,cL.symm,by simp,?_,by omega,fun _=>by omega,?_⟩
     ·rw [Xm,t1,t2]
      rw [show stmts+ar (l.take i)+1+ar f+ar g=stmts+(ar (l.take i)+(1+ar f+ar g)) by omega,show nodes+av (l.take i)+1+aw args+av f+av g=nodes+(av (l.take i)+(1+aw args+av f+av g)) by omega]
     ·intro op' B DD FQ FR I
      rw [avB,W]at I;rcases avA.1 I with I|I
      ·exact aH _ _ _ _ _ I
      ·simp only [Option.toList_some,List.mem_singleton]at I
       cases I;refine ⟨⟨by omega,by omega⟩,?_⟩;rw [fu,wo hV,Xj,gw];simp only [k2,k3,k5'.2.2,k6'.2.2,decide_true,Bool.true_and,avw];exact Jt
end
section
open Go
theorem oY {n0:Nat}:∀{a b x y:List Value},aS n0 a=some x→aS n0 b=some y→aS n0 (a++b)=some (x++y)
 |[],b,x,y,h,k=>by simp [aS]at h;subst h;simpa using k
 |v::a,b,x,y,h,k=>by
  simp only [aS]at h;split at h
  case h_2=>cases h
  rename_i z m c d;cases h;have:=oY d k;simp only [List.cons_append,aS,c,this]
theorem BW {H:AH} {b o n m:Nat} {x y:List Value} (h:H.ldn ⟨b,o,none⟩ n=some x) (k:H.ldn ⟨b,o+n,none⟩ m=some y):H.ldn ⟨b,o,none⟩ (n+m)=some (x++y):=by
 unfold AH.ldn at h k⊢;dsimp only at h k⊢
 cases a:H.get b with
 |none=>simp [a]at h
 |some z=>
  cases z with
  |map es=>simp [a]at h
  |cells z c=>
   simp only [a]at h k⊢;obtain ⟨g,h⟩:=aE h;obtain ⟨f,k⟩:=aE k;simp only [avs]at g f
   have e:(c.drop o).take (n+m)=(c.drop o).take n++(c.drop (o+n)).take m:=by
    rw [List.take_add,List.drop_drop]
   rw [show decide (o+(n+m)≤c.length)=true by simp;omega,cond_true,e]
   cases d:decide (b<H.n0)with
   |false=>
    rw [d]at h k;simp only [cond_false,avh]at h k⊢;rw [h,k]
   |true=>
    rw [d]at h k;simp only [cond_true]at h k⊢;exact oY h k
theorem Rows.Jw {H:AH} {sz:Nat} {v:Value} {rows:List (List Value)} (h:Rows H sz v rows):∀r∈rows,r.length=sz:=by
 intro r a;obtain ⟨i,hi,rfl⟩:=List.mem_iff_getElem.1 a;obtain ⟨b,o,c,e,d⟩:=h.at (avg hi);exact (dM d).2
theorem cJ {sz:Nat}:∀{rows:List (List Value)},(∀r∈rows,r.length=sz)→rows.flatten.length=rows.length*sz
 |[],_=>by simp
 |r::rows,h=>by
  rw [List.flatten_cons,avp,h r (by simp),cJ fun q a=>h q (by simp [a]),List.length_cons,Nat.succ_mul];omega
theorem Rows.whole {H:AH} {sz b o c:Nat} {rows:List (List Value)} (h:Rows H sz (.slice (some ⟨b,o,none⟩) rows.length c) rows):∀k,k≤rows.length→0<k→H.ldn ⟨b,o,none⟩ (k*sz)=some (rows.take k).flatten:=by
 intro k
 induction k with
 |zero=>intro _ h;omega
 |succ k ih=>
  intro g _;obtain ⟨l,f,j,e,d⟩:=h.at (i:=k) (avg (by omega));cases e;rw [avB,avg (by omega),List.flatten_append];by_cases a:k=0
  ·subst a
   simpa using d
  ·have:=BW (ih (by omega) (by omega)) d
   rw [show(k+1)*sz=k*sz+sz by rw [Nat.succ_mul],this];simp only [Option.toList_some,List.flatten_cons,List.flatten_nil,List.append_nil]
theorem Rows.src {H:AH} {sz:Nat} {v:Value} {rows:List (List Value)} (h:Rows H sz v rows):q8 H sz v=some rows.flatten∧oD v=some rows.length:=by
 obtain ⟨a,c,rfl,k⟩:=h.is;refine ⟨?_,rfl⟩
 by_cases e:rows=[]
 ·subst e
  cases a<;>simp [q8]
 ·have d:0<rows.length:=List.length_pos_iff.2 e
  obtain ⟨b,o,rfl,h2⟩:=k 0 _ (avg d);have:=Rows.whole (H:=H) (sz:=sz) (b:=b) (o:=o) (c:=c) (rows:=rows) ⟨_,_,rfl,k⟩ rows.length (avk _) d;simp only [q8,nb];rw [show decide (rows.length=0)=false by simp [e],cond_false,this,List.take_length]
structure dU (H:AH) (sz:Nat) (v:Value) (rows:List (List Value)):Prop where
 is:(v= .slice none 0 0∧rows=[])∨∃b,v= .slice (some ⟨b,0,none⟩) rows.length rows.length∧H.n0≤b∧H.get b=some (.cells sz rows.flatten)
 len:∀r∈rows,r.length=sz
def aX (v:Value) (b:Nat):Prop:=∃o n c,v= .slice (some ⟨b,o,none⟩) n c
theorem bJ (b b' o n c:Nat):aX (.slice (some ⟨b,o,none⟩) n c) b'↔b'=b:=by
 unfold aX;constructor
 ·rintro ⟨a,d,f,e⟩;cases e;rfl
 ·rintro rfl;exact ⟨_,_,_,rfl⟩
theorem dO (b n c:Nat):¬ aX (.slice none n c) b:=by rintro ⟨_,_,_,e⟩;cases e
theorem dU.nil (H:AH) (sz:Nat):dU H sz (.slice none 0 0) []:=⟨.inl ⟨rfl,rfl⟩,by simp⟩
theorem dU.lt {H:AH} {sz b:Nat} {v:Value} {rows:List (List Value)} (h:dU H sz v rows) (a:aX v b):b<H.nx:=by
 rcases h.is with⟨rfl,_⟩|⟨d,rfl,_,c⟩
 ·exact absurd a (dO _ _ _)
 ·rw [(bJ _ _ _ _ _).1 a];exact AH.bc c
theorem dU.shape {H:AH} {sz:Nat} {v:Value} {rows:List (List Value)} (h:dU H sz v rows):∃a c,v= .slice a rows.length c:=by
 rcases h.is with⟨rfl,rfl⟩|⟨b,rfl,_⟩
 ·exact ⟨_,_,rfl⟩
 ·exact ⟨_,_,rfl⟩
theorem jO {sz:Nat}:∀{rows:List (List Value)} {i:Nat} {r:List Value},(∀r∈rows,r.length=sz)→rows[i]?=some r→((rows.flatten.drop (i*sz)).take sz)=r∧i*sz+sz≤rows.flatten.length
 |[],i,r,_,h=>by simp at h
 |x::rows,0,r,a,h=>by
  simp at h;subst h;have:=a x (by simp);simp [this]
 |x::rows,i+1,r,a,h=>by
  have b:=a x (by simp);have ih:=jO (fun q c=>a q (by simp [c])) (i:=i) (r:=r) (rows:=rows) (by simpa using h);rw [List.flatten_cons,Nat.succ_mul,avp,b];refine ⟨?_,by omega⟩;rw [show i*sz+sz=x.length+i*sz by omega,←List.drop_drop,List.drop_left];exact ih.1
theorem dU.rows {H:AH} {sz:Nat} {v:Value} {rows:List (List Value)} (h:dU H sz v rows):Rows H sz v rows:=by
 rcases h.is with⟨rfl,rfl⟩|⟨b,rfl,c,a⟩
 ·exact ⟨_,_,rfl,by simp⟩
 ·refine ⟨_,_,rfl,fun i r hi=>⟨b,0,rfl,?_⟩⟩
  obtain ⟨e,d⟩:=jO h.len hi;rw [b9 a c (by simpa using d)]
  simpa using e
theorem dU.mod {S:Nat→Prop} {H H':AH} {sz:Nat} {v:Value} {rows:List (List Value)} (h:dU H sz v rows) (M:Mod S H H') (hs:∀b,aX v b→¬ S b):dU H' sz v rows:=by
 refine ⟨?_,h.len⟩;rcases h.is with⟨rfl,rfl⟩|⟨b,rfl,c,a⟩
 ·exact .inl ⟨rfl,rfl⟩
 ·exact .inr ⟨b,rfl,by rw [M.n0];exact c,M.get (hs b ((bJ _ _ _ _ _).2 rfl)) a⟩
theorem dU.ext {H H':AH} {sz:Nat} {v:Value} {rows:List (List Value)} (h:dU H sz v rows) (X:Ext H H'):dU H' sz v rows:=h.mod (Mod.cv (S:=fun _=>False) X) (by simp)
theorem uv {H:AH} {sz bytes:Nat} {s x:Value} {rows new:List (List Value)} (q:H.n0≤H.nx) (hs:dU H sz s rows) (p:Rows H sz x new) (d:(rows.length+new.length)*bytes≤2^47) (m:rows.length+new.length<2^62):
 ∃i H',bL sz bytes H s x=some (i,H')∧dU H' sz i (rows++new)∧Mod (aX s) H H'∧(∀b,aX i b→aX s b∨H.nx≤b)∧(new≠[]→∀b,aX i b→H.nx≤b):=by
 obtain ⟨o,a⟩:=p.src;have u:=p.Jw
 have t:∀r∈rows++new,r.length=sz:=by
  intro r z;rcases avA.1 z with h|h
  ·exact hs.len r h
  ·exact u r h
 by_cases f:new=[]
 ·subst f
  refine ⟨s,H,?_,by simpa using hs,Mod.refl _ _,fun b d=>.inl d,fun h=>absurd rfl h⟩;rcases hs.is with⟨rfl,rfl⟩|⟨b,rfl,n,k⟩
  ·simp [bL,a]
  ·simp [bL,a]
 have w:0<new.length:=List.length_pos_iff.2 f;have e:¬ new.length=0:=by omega
 have C:new.flatten.length=new.length*sz:=cJ u
 by_cases j:rows=[]
 ·subst j
  simp only [List.length_nil,Nat.zero_add]at d m;refine ⟨.slice (some ⟨H.nx,0,none⟩) new.length new.length,H.alloc (.cells sz new.flatten),?_,⟨.inr ⟨H.nx,rfl,q,cQ _ _⟩,t⟩,Mod.cv (Ext.alloc _ _),fun b d=>.inr (by rw [(bJ _ _ _ _ _).1 d];exact avk _),fun _ b d=>by rw [(bJ _ _ _ _ _).1 d];exact avk _⟩;rcases hs.is with⟨rfl,_⟩|⟨b,rfl,n,k⟩
  ·simp [bL,a,o,e,f,d,m,nb]
  ·simp [bL,a,o,e,f,d,m,nb]
 have v:0<rows.length:=List.length_pos_iff.2 j;rcases hs.is with⟨rfl,h⟩|⟨b,rfl,n,k⟩
 ·exact absurd h j
 have g:H.ldn ⟨b,0,none⟩ (rows.length*sz)=some rows.flatten:=by
  have:=cJ hs.len;rw [b9 k n (by omega),←this];simp only [List.drop_zero,List.take_length]
 have y:H.lS b sz=true:=by simp [AH.lS,k]
 have B:¬ rows.length+new.length≤rows.length:=by omega
 have A:¬ rows.length=0:=by omega
 refine ⟨.slice (some ⟨H.nx,0,none⟩) (rows++new).length (rows++new).length,(H.put b none).alloc (.cells sz (rows++new).flatten),?_,⟨.inr ⟨H.nx,rfl,q,?_⟩,t⟩,⟨rfl,avH _,fun c l hs=>?_⟩,fun c l=>.inr (by rw [(bJ _ _ _ _ _).1 l];exact avk _),fun _ c l=>by rw [(bJ _ _ _ _ _).1 l];exact avk _⟩
 ·simp [bL,a,o,e,f,j,d,m,B,A,n,y,g]
 ·exact cQ (H.put b none) _
 ·rw [bJ]at hs
  rw [AH.eh,if_neg (by rw [AH.HC];omega),AH.tB,if_neg hs]
theorem xE {H:AH} {sz bytes:Nat} {s x:Value} {rows new:List (List Value)} (g:H.n0≤H.nx) (hs:dU H sz s rows) (f:Rows H sz x new) (h:(rows.length+new.length)*bytes≤2^47) (i:rows.length+new.length<2^62):
 ∃e H',bL sz bytes H s x=some (e,H')∧dU H' sz e (rows++new)∧Mod (aX s) H H'∧∀b,aX e b→aX s b∨H.nx≤b:=by
 obtain ⟨e,H',a,b,c,d,_⟩:=uv g hs f h i;exact ⟨e,H',a,b,c,d⟩
theorem iP (z c:List Value) (h:c.length=z.length):aP z 0 c=c:=by
 have:aP z 0 c=c++z.drop c.length:=by cases z<;>rfl
 rw [this,List.drop_eq_nil_of_le (by omega)];simp
theorem sP {sz:Nat} {z:List Value} {H:AH} {v:Value} (b:(aZ v).length=sz) (c:df v=false) (a:z.length=sz):
 oG 1 sz z H [(0,sz,v)]=some (.slice (some ⟨H.nx,0,none⟩) 1 1,H.alloc (.cells sz (aZ v))):=by
 simp only [oG,j6,nb,b,a,c,Nat.zero_add,decide_true,avk,Bool.not_false,Bool.and_self,cond_true];rw [iP _ _ (by omega)];rfl
theorem iv {H H1:AH} {sz bytes:Nat} {s:Value} {rows:List (List Value)} {r:List Value} (d:H.n0≤H.nx) (hs:dU H sz s rows) (h:r.length=sz) (l:H.alloc (.cells sz r)=H1) (f:(rows.length+1)*bytes≤2^47) (j:rows.length+1<2^62):
 ∃a H',bL sz bytes H1 s (.slice (some ⟨H.nx,0,none⟩) 1 1)=some (a,H')∧dU H' sz a (rows++[r])∧Mod (aX s) H H'∧(∀b,aX a b→H.nx≤b)∧H'.n0=H.n0∧H.nx≤H'.nx∧H'.n0≤H'.nx∧H1.n0=H.n0∧H.nx≤H1.nx∧H1.nx≤H'.nx:=by
 subst l;have X:=Ext.alloc H (.cells sz r)
 have g:Rows (H.alloc (.cells sz r)) sz (.slice (some ⟨H.nx,0,none⟩) 1 1) [r]:=⟨_,_,rfl,fun i q hi=>by
  cases i with
  |zero=>
   simp at hi;subst hi;refine ⟨H.nx,0,rfl,?_⟩;have:=tf d sz r;rw [h]at this
   simpa using this
  |succ i=>simp at hi⟩
 obtain ⟨a,H',e,o,M,_,k⟩:=uv (bytes:=bytes) (X.wf d) (hs.ext X) g f j;have c:Mod (aX s) H H':=(Mod.cv X).trans M;exact ⟨a,H',e,o,c,fun b f=>avC X.nx (k (by simp) b f),c.n0,c.nx,c.wf d,X.n0,X.nx,M.nx⟩
structure Sub (G H:AH):Prop where
 n0:H.n0=G.n0
 nx:G.nx≤H.nx
 get:∀b x,G.get b=some x→H.get b=some x
theorem Sub.cv {G H:AH} (h:Ext G H):Sub G H:=⟨h.n0,h.nx,fun b x k=>h.get k⟩
theorem Sub.trans {a b c:AH} (h:Sub a b) (k:Sub b c):Sub a c:=⟨k.n0.trans h.n0,avC h.nx k.nx,fun x y e=>k.get x y (h.get x y e)⟩
theorem Sub.mod {S:Nat→Prop} {G H H':AH} (h:Sub G H) (M:Mod S H H') (hs:∀b,S b→G.get b=none):Sub G H':=
 ⟨M.n0.trans h.n0,avC h.nx M.nx,fun b x k=>M.get (fun q=>by rw [hs b q]at k;cases k) (h.get b x k)⟩
theorem Sub.Ua {G H H':AH} (h:Sub G H) (X:Ext H H'):Sub G H':=h.trans (Sub.cv X)
theorem Sub.ldn {G H:AH} (h:Sub G H) {a:Addr} {n:Nat} {vs:List Value} (k:G.ldn a n=some vs):H.ldn a n=some vs:=by
 obtain ⟨x,b⟩:=avS.1 (dM k).1;rw [←k];exact fP (by rw [h.get _ _ b,b]) h.n0
theorem Sub.ld {G H:AH} (h:Sub G H) {a:Addr} {v:Value} (k:G.ld a=some v):H.ld a=some v:=bh.2 (h.ldn (bh.1 k))
theorem Rows.sub {H H':AH} (E:Sub H H') {sz:Nat} {v:Value} {rows:List (List Value)} (h:Rows H sz v rows):Rows H' sz v rows:=by
 obtain ⟨a,c,rfl,k⟩:=h.is;exact ⟨a,c,rfl,fun i r hi=>let⟨b,o,d,h2⟩:=k i r hi;⟨b,o,d,E.ldn h2⟩⟩
theorem fC.sub {H H':AH} (E:Sub H H') {v:Value} {l:List Int} (h:fC H v l):fC H' v l:=Rows.sub E h
def AH.vM (H:AH):List Nat→AH
 |[]=>H
 |b::l=>(H.put b none).vM l
theorem uw:∀(l:List Nat) (H:AH) (c:Nat),(H.vM l).get c=if c∈l then none else H.get c
 |[],H,c=>by simp [AH.vM]
 |b::l,H,c=>by
  rw [AH.vM,uw l,AH.tB];by_cases a:c∈l
  ·simp [a]
  ·by_cases h2:c=b<;>simp [a,h2]
theorem xF:∀(l:List Nat) (H:AH),(H.vM l).n0=H.n0
 |[],H=>rfl
 |b::l,H=>by rw [AH.vM,xF l];rfl
theorem xG:∀(l:List Nat) (H:AH),(H.vM l).nx=H.nx
 |[],H=>rfl
 |b::l,H=>by rw [AH.vM,xG l];rfl
theorem Jy (l:List Nat) (H:AH):Sub (H.vM l) H:=⟨(xF l H).symm,by rw [xG];exact avk _,fun b x k=>by
 rw [uw]at k;split at k
 ·cases k
 ·exact k⟩
open Go
theorem zM {p:aU} (h:aC p.w p.vars=true):mA p.w p.vars p.body 1 0=bm p:=by
 unfold mA bm;rw [h,show decide ((1:Int)+bG p.body 0≤17)=decide (bG p.body 0≤16) by rw [avM];simp;omega,show decide (0+av p.body≤400)=decide (av p.body≤400) by rw [avM];simp];simp
theorem DL:fD [.int .i64 0,.int .i64 0] []=some (.agg #[.int .i64 0,.int .i64 0]):=rfl
theorem BX {p:aU} {c:List Value} {H:AH} (j:H.n0≤H.nx) (V:ru H c p):Ca E O 68 [.agg c.toArray] H (fun x H'=>x= .tuple #[.agg #[.int .i64 (if bm p=true then ar p.body else 0),.int .i64 (if bm p=true then av p.body else 0)],.bool (bm p)]∧Ext H H'):=by
 obtain ⟨vv,vb,Q,rfl,hi,I,G,U,W,Y⟩:=V.is;refine Ca.aR (F:=a68) rfl rfl rfl ?_;have e:=Ext.alloc H (.cells 3 [.int .i64 p.w,vv,vb]);have u:(H.alloc (.cells 3 [.int .i64 p.w,vv,vb])).ld ⟨H.nx,0,none⟩=some (.int .i64 p.w):=ak j rfl;have t:(H.alloc (.cells 3 [.int .i64 p.w,vv,vb])).ld ⟨H.nx,1,none⟩=some vv:=ak j rfl;have g:(H.alloc (.cells 3 [.int .i64 p.w,vv,vb])).ld ⟨H.nx,2,none⟩=some vb:=ak j rfl;have d:(H.alloc (.cells 3 [.int .i64 p.w,vv,vb])).ldn ⟨H.nx,0,none⟩ 3=some [.int .i64 p.w,vv,vb]:=bo j 3 rfl;generalize cM:H.alloc (.cells 3 [.int .i64 p.w,vv,vb])=f at e u t g d;have C:=e.wf j;have a:=Ext.alloc f (.cells 2 [.int .i64 0,.int .i64 0]);have K:=cQ f (.cells 2 [.int .i64 0,.int .i64 0]);generalize kH:f.alloc (.cells 2 [.int .i64 0,.int .i64 0])=H2 at a K;have D:=a.wf C;have Z:H2.n0≤f.nx:=by rw [a.n0];exact C
 replace u:=a.ld u;replace t:=a.ld t;replace g:=a.ld g;replace d:=a.ldn d;have M:=e.trans a;simp (maxSteps:=9^7)-implicitDefEqProofs+contextual [-X.ev,a68,cM,kH,u,t];apply ah
 ·(simp-implicitDefEqProofs [-X.ev];rfl)
 refine (DI D (I.ext M) G p.w).mono ?_;rintro x N ⟨rfl,b⟩;have J:=b.get K;have r:N.n0≤f.nx:=by rw [b.n0];exact Z
 have jd:=M.trans b;have T:=b.wf D
 cases s:aC p.w p.vars with
 |false=>
  have h2:bm p=false:=by simp [bm,s]
  obtain ⟨H4,P,v,Bb,S,o⟩:=cm J r (k:=0) (vs:=[.int .i64 0,.int .i64 0]) (by simp);have i:=b9 o (by rw [S];exact r) (k:=0) (n:=2) (by simp [aP]);have qX:Ext H H4:=(e.trans (Ext.refl _)).trans (((a.trans b).mod v (by rintro x rfl;exact avk _)));simp [aP]at i;simp (maxSteps:=9^7)-implicitDefEqProofs+contextual [-X.ev,s,h2,DL,P,i,qX]
 |true=>
  replace g:=b.ld g;replace d:=b.ldn d;simp (maxSteps:=9^7)-implicitDefEqProofs+contextual [-X.ev,d,g];apply ah
  ·(simp-implicitDefEqProofs [-X.ev];rfl)
  refine (Js s G _ p.body vb Q f N 1 0 0 f.nx (avv _) T (a.trans b) (avk _) (I.ext e) Y (U.ext e) (W.ext e) J r (by omega) (by omega) (by omega)).mono ?_;rintro x H4 ⟨rfl,v,s',n',o,l⟩;rw [zM s]at l⊢;have m:H4.n0≤f.nx:=by rw [v.n0];exact r
  have L:Ext f H4:=(a.trans b).mod v (by rintro x rfl;exact avk _)
  cases h2:bm p with
  |false=>
   obtain ⟨H5,q,B,R,y,z⟩:=cm o m (k:=0) (vs:=[.int .i64 0,.int .i64 0]) (by simp);have h:=b9 z (by rw [y];exact m) (k:=0) (n:=2) (by simp [aP]);have A:Ext H H5:=e.trans (L.mod B (by rintro x rfl;exact avk _));simp [aP]at h;simp (maxSteps:=9^7)-implicitDefEqProofs+contextual [-X.ev,DL,q,h,A]
  |true=>
   obtain ⟨rfl,rfl⟩:=l h2;have i:=b9 o m (k:=0) (n:=2) (by simp);obtain ⟨H5,q,B,R,y,z⟩:=cm o m (k:=0) (vs:=[.int .i64 (0+ar p.body),.int .i64 (0+av p.body)]) (by simp);have h:=b9 z (by rw [y];exact m) (k:=0) (n:=2) (by simp [aP]);have A:Ext H H5:=e.trans (L.mod B (by rintro x rfl;exact avk _));simp [aP]at i h q;simp (maxSteps:=9^7)-implicitDefEqProofs+contextual [-X.ev,i,q,h,A]
theorem rz {p:aU} {c:List Value} {H:AH} (f:H.n0≤H.nx) (g:ru H c p):Ca E O 37 [.agg c.toArray] H (fun x H'=>x= .int .i64 (if bm p=true then 0 else 30)∧Ext H H'):=by
 refine Ca.aR (F:=a37) rfl rfl rfl ?_;have n:=g.len;have b:=Ext.alloc H (.cells c.length c);have d:(H.alloc (.cells c.length c)).ldn ⟨H.nx,0,none⟩ 3=some c:=bo f 3 (by assumption);generalize j:H.alloc (.cells c.length c)=s at b d;have e:=b.wf f;simp (maxSteps:=9^7)-implicitDefEqProofs+contextual [-X.ev,a37,j,d];apply ah
 ·(simp-implicitDefEqProofs [-X.ev];rfl)
 refine (BX e (g.ext b)).mono ?_;rintro x r ⟨rfl,h⟩;have i:=h.wf e;obtain ⟨q,a,k,l,m,o⟩:=jN i (z:=2) (c:=[.int .i64 0,.int .i64 0]) (vs:=[.int .i64 (if bm p=true then ar p.body else 0),.int .i64 (if bm p=true then av p.body else 0)]) rfl;have X:=b.trans (h.trans k)
 cases h2:bm p with
 |false=>
  simp only [h2,Bool.false_eq_true,if_false]at a;simp (maxSteps:=9^7)-implicitDefEqProofs+contextual [-X.ev,a,X]
 |true=>
  simp only [h2,if_true]at a;simp (maxSteps:=9^7)-implicitDefEqProofs+contextual [-X.ev,a,X]
def BZ (sz bytes:Nat):AF:=⟨1,8,[.tmp 2],.seq (.bC [o 2 (.mv (.k (.slice none 0 0)))]) (.seq (.seq (.bC [o 3 (.mv (.t 0)),o 4 (.eqk 2 false (.t 3) (.k (.slice none 0 0)))]) (.cond (.t 4) (.seq (.bC [o 2 (.mv (.k (.slice none 0 0)))]) .ret) .skip)) (.seq (.bC [o 5 (.bsl 0 sz [] []),o 6 (.mv (.t 0)),o 7 (.app sz bytes (.t 5) (.t 6)),o 2 (.mv (.t 7))]) .ret))⟩
theorem nW {f sz bytes:Nat} (t:O f=none) (w:E f=some (BZ sz bytes)) {H:AH} {v:Value} {rows:List (List Value)} (m:H.n0≤H.nx) (j:Rows H sz v rows) (d:rows.length*bytes≤2^47) (y:rows.length<2^62):
 Ca E O f [v] H (fun x H'=>dU H' sz x rows∧Ext H H'∧∀b,aX x b→H.nx≤b):=by
 refine Ca.aR t w rfl ?_;obtain ⟨a,c,i⟩:=j.len
 cases a with
 |none=>
  have s:rows=[]:=by
   obtain ⟨C,B,e,k⟩:=j.is;rw [i]at e;cases e
   cases rows with
   |nil=>rfl
   |cons r rows=>obtain ⟨b,o,e,_⟩:=k 0 r rfl;cases e
  subst s;simp (maxSteps:=9^7)-implicitDefEqProofs+contextual [-X.ev,BZ,i];exact ⟨dU.nil _ _,Ext.refl _,fun b d=>absurd d (dO _ _ _)⟩
 |some a=>
  have n:oG 0 sz [] H []=some (.slice (some ⟨H.nx,0,none⟩) 0 0,H.alloc (.cells sz [])):=rfl;have g:=Ext.alloc H (.cells sz [])
  have l:dU (H.alloc (.cells sz [])) sz (.slice (some ⟨H.nx,0,none⟩) 0 0) []:=⟨.inr ⟨H.nx,rfl,m,cQ _ _⟩,by simp⟩
  generalize H.alloc (.cells sz [])=F at n g l;obtain ⟨A,D,p,q,z,u⟩:=xE (bytes:=bytes) (g.wf m) l (j.ext g) (by simpa using d) (by simpa using y);rw [i]at p;simp (maxSteps:=9^7)-implicitDefEqProofs+contextual [-X.ev,BZ,i,n,p];refine ⟨by simpa using q,g.mod z (by intro b d;rw [bJ]at d;subst d;exact avk _),fun b d=>?_⟩;rcases u b d with h|h
  ·rw [bJ]at h;subst h;exact avk _
  ·exact avC g.nx h
def a7 (l:List Int):List (List Value):=l.map fun n=>[.int .i64 n]
theorem lH {H:AH} {v:Value} {l:List Int} (a:H.n0≤H.nx) (c:fC H v l) (d:l.length≤2^40):
 Ca E O 70 [v] H (fun x H'=>dU H' 1 x (a7 l)∧Ext H H'∧∀b,aX x b→H.nx≤b):=
 nW (sz:=1) (bytes:=8) rfl rfl a c (by simp [a7];omega) (by simp [a7];omega)
theorem dU.ints {H:AH} {v:Value} {l:List Int} (h:dU H 1 v (a7 l)):fC H v l:=h.rows
theorem ux (l m:List Int):a7 (l++m)=a7 l++a7 m:=by simp [a7]
theorem lI {w:Int} (c:1≤w∧w≤8) (a:Int):isWord w a=(!decide (a<0)&& !decide (2^w.toNat≤a)):=by
 have b:bE w=true:=by simp [bE,c]
 rw [isWord,b,Bool.true_and,avM];simp
theorem uy {p:aU} {t:dW} {c d:List Value} {H:AH} (M:H.n0≤H.nx) (hp:ru H c p) (ht:zy H d t) (hP:bm p=true):
 Ca E O 69 [.agg c.toArray,.agg d.toArray] H (fun x H'=>x= .bool (jo p t)∧Ext H H'):=by
 obtain ⟨vv,vb,rb,rfl,hi,hv,A7,hr,hl,nS⟩:=hp.is;obtain ⟨vs,vp,rfl,ss,sp,l1,l2,_,_⟩:=ht.is;have Q:aC p.w p.vars=true:=by simp [bm]at hP;exact hP.1
 have eJ:1≤p.w∧p.w≤8:=⟨(aD Q).1,(aD Q).2.1⟩
 have lT:dE (p.vars.map (·.cells))≤48:=by
  rw [iu]at Q;simp only [avj,avs]at Q;exact Q.2.2.2.2
 refine Ca.aR (F:=a69) rfl rfl rfl ?_;have X1:=Ext.alloc H (.cells 3 [.int .i64 p.w,vv,vb]);have A:(H.alloc (.cells 3 [.int .i64 p.w,vv,vb])).ld ⟨H.nx,0,none⟩=some (.int .i64 p.w):=ak M rfl;have d1:(H.alloc (.cells 3 [.int .i64 p.w,vv,vb])).ld ⟨H.nx,1,none⟩=some vv:=ak M rfl;have d2:(H.alloc (.cells 3 [.int .i64 p.w,vv,vb])).ld ⟨H.nx,2,none⟩=some vb:=ak M rfl;have d:(H.alloc (.cells 3 [.int .i64 p.w,vv,vb])).ldn ⟨H.nx,0,none⟩ 3=some [.int .i64 p.w,vv,vb]:=bo M 3 rfl;generalize cM:H.alloc (.cells 3 [.int .i64 p.w,vv,vb])=j at X1 A d1 d2 d;have bT:=X1.wf M;have T:=Ext.alloc j (.cells 2 [vs,vp]);have e0:(j.alloc (.cells 2 [vs,vp])).ld ⟨j.nx,0,none⟩=some vs:=ak bT rfl;have e1:(j.alloc (.cells 2 [vs,vp])).ld ⟨j.nx,1,none⟩=some vp:=ak bT rfl;have e:(j.alloc (.cells 2 [vs,vp])).ldn ⟨j.nx,0,none⟩ 2=some [vs,vp]:=bo bT 2 rfl;generalize kH:j.alloc (.cells 2 [vs,vp])=H2 at T e0 e1 e;have kg:=T.wf bT;replace A:=T.ld A;replace d1:=T.ld d1;have X:=X1.trans T;obtain ⟨a1,c1,my⟩:=hv.len;obtain ⟨a2,c2,qh⟩:=ss.len;obtain ⟨a3,c3,Rq⟩:=sp.len;have D1:=d1;rw [my]at D1;simp (maxSteps:=9^7)-implicitDefEqProofs+contextual [-X.ev,a69,cM,kH,D1];refine cn (fun k g H'=>Ext H2 H'∧∃i:Nat,i+k=p.vars.length∧g.get 2= .pointer (some ⟨H.nx,0,none⟩)∧g.get 3= .pointer (some ⟨j.nx,0,none⟩)∧g.get 11=vv∧g.get 12= .int .i64 p.vars.length∧g.get 13= .int .i64 i∧g.get 5= .int .i64 (dE ((p.vars.take i).map (·.cells)))) ?_ p.vars.length ⟨Ext.refl _,0,by simp,by simp,by simp,by simp [my],by simp,by simp,by simp [dE]⟩;rintro k g U ⟨B,i,hi,l,f3,f11,f12,f13,S⟩;have nV:=B.wf kg;have D:=X.trans B;replace A:=B.ld A;replace e0:=B.ld e0;replace e1:=B.ld e1;have lE:=A7.1;by_cases h:i<p.vars.length
 ·obtain ⟨y,hy⟩:∃y,p.vars[i]?=some y:=⟨_,avg h⟩
  obtain ⟨b,o,c',N,bM,_⟩:=(hv.ext D).at hy;rw [N]at f11;obtain ⟨I,sH4,m,aiT,aiU,q,Z⟩:=eZ (H:=U) nV (z:=3) (c:=[.string ⟨#[]⟩,.int .i64 0,.int .i64 0]) (vs:=[.string y.name,.int .i64 y.level,.int .i64 y.cells]) rfl;have q0:I.ld ⟨U.nx,0,none⟩=some (.string y.name):=Z 0 _ rfl;have q1:I.ld ⟨U.nx,1,none⟩=some (.int .i64 y.level):=Z 1 _ rfl;have W:I.ld ⟨U.nx,2,none⟩=some (.int .i64 y.cells):=Z 2 _ rfl;clear Z;replace q:I.ldn ⟨U.nx,0,none⟩ 3=some [.string y.name,.int .i64 y.level,.int .i64 y.cells]:=q;have ZM:=m.wf nV;simp (maxSteps:=9^7)-implicitDefEqProofs+contextual [-X.ev,l,f3,f11,f12,f13,S,h,bM,Vr.row,sH4,W];rw [ai (n:=(i:Int)+1) ⟨by omega,by omega⟩];refine ⟨k- 1,by omega,B.trans m,i+1,by omega,N.symm,by simp,?_⟩;rw [avB];simp [dE,avK,hy,List.foldl_append]
 have ht:p.vars.take i=p.vars:=avn (by omega);rw [ht]at S
 obtain ⟨F,hF⟩:∃F,jo p t=F:=⟨_,rfl⟩
 rw [hF];have r:=e0;have C:=e1;rw [qh]at r;rw [Rq]at C
 have Hn:¬ ((t.store.length:Int)=dE (p.vars.map (·.cells))∧(t.bN.length:Int)≤16∧∀a∈t.store++t.bN,isWord p.w a=true)→F=false:=by
  intro q;rw [avT,←hF];intro h;apply q;simp only [jo,bq,avj,avs,avw]at h;refine ⟨h.1.1,by omega,fun a f=>?_⟩;rcases avA.1 f with f|f
  ·exact h.1.2 a f
  ·exact h.2.2 a f
 by_cases J:(t.store.length:Int)=dE (p.vars.map (·.cells))
 case neg=>
  have v:F=false:=Hn (fun q=>J q.1);simp (maxSteps:=9^7)-implicitDefEqProofs+contextual [-X.ev,l,f3,f11,f12,f13,S,h,r,C,J,v,D]
 by_cases k2:(16:Int)<t.bN.length
 case pos=>
  have v:F=false:=Hn (fun q=>by have:=q.2.1;omega);simp (maxSteps:=9^7)-implicitDefEqProofs+contextual [-X.ev,l,f3,f11,f12,f13,S,h,r,C,J,k2,v,D]
 simp (maxSteps:=9^7)-implicitDefEqProofs+contextual [-X.ev,l,f3,f11,f12,f13,S,h,r,C,J,k2];rw [qh]at ss;rw [Rq]at sp;apply ah
 ·(simp-implicitDefEqProofs [-X.ev];rfl)
 refine (lH nV (ss.ext D) (by omega)).mono ?_;rintro x I ⟨o4,m,k4⟩;have qY:=m.wf nV;have qX:=D.trans m;have q1:=bh.1 C;have W:=bh.1 (m.ld C);obtain ⟨s',H5,f,Y,G,k5⟩:=xE (bytes:=8) qY o4 (sp.ext qX) (by simp [a7];omega) (by simp [a7];omega);have Jz:Ext H H5:=D.trans (m.mod G k4);have sw:=G.wf qY;have Y:dU H5 1 s' (a7 (t.store++t.bN)):=by rw [ux];exact Y
 have hLl:((t.store++t.bN).length:Int)=t.store.length+t.bN.length:=by rw [avp];omega
 have u:∀(P:Int→Prop),(∀a∈t.store++t.bN,P a)→(∀a∈t.store,P a)∧∀a∈t.bN,P a:=fun P h=>⟨fun a f=>h a (by simp [f]),fun a f=>h a (by simp [f])⟩
 generalize t.store++t.bN=L at Y Hn hLl u;have i5:=Y.ints;obtain ⟨as_,cs_,fZ⟩:=i5.len;have jL:I.nx≤H5.nx:=G.nx
 have q3:H5.ldn ⟨j.nx,1,none⟩ 1=some [.slice a3 t.bN.length c3]:=G.ldn (a:=⟨j.nx,1,none⟩) (fun hb=>by
  have h1:=k4 _ hb
  have h2:=(AH.bc (avS.1 (dM q1).1).choose_spec)
  dsimp only at h1 h2
  omega) W
 rw [fZ]at f;simp (maxSteps:=9^7)-implicitDefEqProofs+contextual [-X.ev,f,bu,aM,aN,m.n0,m.nx,q1,W,q3,G.n0,jL]
 have Xn:H5.ld ⟨H.nx,0,none⟩=some (.int .i64 p.w):=((B.trans (Ext.refl _)).trans (Ext.refl _)|>fun _=>(G.ld (a:=⟨H.nx,0,none⟩) (fun hb=>by
  have h1:=k4 _ hb
  have h2:=(AH.bc (avS.1 (dM (bh.1 A)).1).choose_spec)
  dsimp only at h1 h2
  omega) (m.ld A)))
 have sh:=zJ eJ;have Xi:(L.length:Int)≤64:=by omega
 refine cn (fun k g H'=>H'=H5∧∃i:Nat,i+k=L.length∧g.get 2= .pointer (some ⟨H.nx,0,none⟩)∧g.get 38=s'∧g.get 39= .int .i64 L.length∧g.get 40= .int .i64 i∧∀a∈L.take i,isWord p.w a=true) ?_ L.length ⟨rfl,0,by simp,by simp [l],by simp [fZ],by simp,by simp,by simp⟩;rintro k' cq H' ⟨rfl,K,sK,l,f38,f39,f40,aH⟩;by_cases R:K<L.length
 ·obtain ⟨n,hn⟩:∃n,L[K]?=some n:=⟨_,avg R⟩
  obtain ⟨b,o,c',N,eR⟩:=i5.at hn;rw [N]at f38;have v:isWord p.w n=false→F=false:=fun z=>Hn (fun q=>by have:=q.2.2 n (avl hn);rw [z]at this;cases this)
  rw [lI eJ]at v;have wi:IntKind.i64.wrap ((K:Int)+1)=(K:Int)+1:=ai ⟨by omega,by omega⟩;by_cases V:n<0
  ·simp (maxSteps:=9^7)-implicitDefEqProofs+contextual [-X.ev,l,f38,f39,f40,R,eR,Xn,V,v,Jz]
  by_cases z2:2^p.w.toNat≤n
  ·simp (maxSteps:=9^7)-implicitDefEqProofs+contextual [-X.ev,l,f38,f39,f40,R,eR,Xn,V,sh,z2,v,Jz]
  simp (maxSteps:=9^7)-implicitDefEqProofs+contextual [-X.ev,l,f38,f39,f40,R,eR,Xn,V,sh,z2,wi];refine ⟨k'- 1,by omega,K+1,by omega,N.symm,by simp,fun z s=>?_⟩;rw [avB,hn]at s;rcases avA.1 s with s|s
  ·exact aH z s
  ·simp at s;subst s;rw [lI eJ];simp [V,z2]
 ·have BV:F=true:=by
   rw [avn (by omega)]at aH;rw [←hF];simp only [jo,bq,avj,avs,avw];exact ⟨⟨J,(u _ aH).1⟩,by omega,(u _ aH).2⟩
  simp (maxSteps:=9^7)-implicitDefEqProofs+contextual [-X.ev,l,f38,f39,f40,R,Jz,BV]
theorem F8 {p:aU} {t:dW} {c d:List Value} {H:AH} (m:H.n0≤H.nx) (i:ru H c p) (n:zy H d t):
 Ca E O 38 [.agg c.toArray,.agg d.toArray] H (fun x H'=>x= .int .i64 (fQ p 0 t)∧Ext H H'):=by
 refine Ca.aR (F:=a38) rfl rfl rfl ?_;have z:=i.len;have y:d.length=2:=by obtain ⟨v,w,e,_⟩:=n.is;rw [e];rfl
 have j:=Ext.alloc H (.cells c.length c);have q:(H.alloc (.cells c.length c)).ldn ⟨H.nx,0,none⟩ 3=some c:=bo m 3 (by assumption);generalize u:H.alloc (.cells c.length c)=h at j q;have l:=j.wf m;have g:=Ext.alloc h (.cells d.length d);have r:(h.alloc (.cells d.length d)).ldn ⟨h.nx,0,none⟩ 2=some d:=bo l 2 (by assumption);generalize s:h.alloc (.cells d.length d)=C at g r;have k:=g.wf l;replace q:=g.ldn q;have X:=j.trans g;simp (maxSteps:=9^7)-implicitDefEqProofs+contextual [-X.ev,a38,u,s,q];apply ah
 ·(simp-implicitDefEqProofs [-X.ev];rfl)
 refine (rz k (i.ext X)).mono ?_;rintro x B ⟨rfl,f⟩;replace q:=f.ldn q;replace r:=f.ldn r;have a:=X.trans f
 cases b:bm p with
 |false=>
  simp (maxSteps:=9^7)-implicitDefEqProofs+contextual [-X.ev,b,fQ,a]
 |true=>
  simp (maxSteps:=9^7)-implicitDefEqProofs+contextual [-X.ev,q,r];apply ah
  ·(simp-implicitDefEqProofs [-X.ev];rfl)
  refine (uy (f.wf k) (i.ext a) (n.ext a) b).mono ?_;rintro x A ⟨rfl,o⟩
  cases h2:jo p t with
  |false=>
   simp (maxSteps:=9^7)-implicitDefEqProofs+contextual [-X.ev,b,h2,fQ,a.trans o]
  |true=>
   simp (maxSteps:=9^7)-implicitDefEqProofs+contextual [-X.ev,b,h2,fQ,a.trans o]
end
end Go.Proofs.YtppcmpmnglaleaaGreatDoor.A
