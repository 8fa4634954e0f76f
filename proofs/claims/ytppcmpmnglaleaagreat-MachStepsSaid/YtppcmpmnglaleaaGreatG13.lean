/- Texts that stand one behind the other: S21, AbsQ, S22. -/
import Derived.Test.YtppcmpmnglaleaaGreatG12
set_option linter.unusedVariables false
set_option linter.unusedSimpArgs false
set_option maxRecDepth 10000
namespace Go.Proofs.YtppcmpmnglaleaaGreat.A
section
open Go
def lG (w:Int) (V:List Vr) (l:List bH) (deep nodes:Int):Bool:=decide (nodes+aw l≤400)&&(decide (deep+bE l 0≤17)&&fX w V l)
theorem kA {w:Int} {V:List Vr} {l:List bH} {deep nodes:Int}:lG w V l deep nodes=true↔nodes+aw l≤400∧deep+bE l 0≤17∧fX w V l=true:=by simp [lG]
theorem JY {w:Int} {V:List Vr} (h:aC w V=true) (e:bY):vn w V 1 e=if gL w V 1 e=true then 0 else 20:=by simp [vn,h]
theorem FJ {w:Int} {vv vb:Value} {V:List Vr} (hV:aC w V=true) (tH:nJ V):∀(N:Nat) (l:List bH) (vl:Value) (rows:List (List Value)) (G H:AH) (deep stmts nodes:Int) (b:Nat),SizeOf.sizeOf l<N→H.n0≤H.nx→Ext G H→G.nx≤b→dy G vv V→l.length<2^60→Rows G 5 vl rows→hY G rows l→
 H.get b=some (.cells 2 [.int .i64 stmts,.int .i64 nodes])→H.n0≤b→0≤stmts∧stmts≤nodes→nodes≤2000→1≤deep∧deep≤17→
 Ca E O 99 [.pointer (some ⟨b,0,none⟩),.agg #[.int .i64 w,vv,vb],vl,.int .i64 deep] H (fun x H'=>x= .bool (lG w V l deep nodes)∧Mod (fun x=>x=b) H H'∧∃C B,H'.get b=some (.cells 2 [.int .i64 C,.int .i64 B])∧(lG w V l deep nodes=true→C=stmts+al l∧B=nodes+aw l)):=by
 intro N
 induction N with
 |zero=>intro l vl rows G H deep stmts nodes b h;omega
 |succ N ih=>
  intro l vl rows G H deep stmts nodes b hN K GX gb hv hlen hr hl hb xq iS tz TY;have hbH:=AH.bk hb;refine Ca.aJ (F:=LO) rfl rfl rfl ?_
  obtain ⟨F,hF⟩:∃F,lG w V l deep nodes=F:=⟨_,rfl⟩
  rw [hF]
  have T:¬ (nodes+aw l≤400∧deep+bE l 0≤17∧fX w V l=true)→F=false:=by
   intro q;rw [aqj,←hF];exact fun h=>q (kA.1 h)
  have X1:=Ext.alloc H (.cells 3 [.int .i64 w,vv,vb]);have d0:(H.alloc (.cells 3 [.int .i64 w,vv,vb])).ld ⟨H.nx,0,none⟩=some (.int .i64 w):=ai K rfl;have d1:(H.alloc (.cells 3 [.int .i64 w,vv,vb])).ld ⟨H.nx,1,none⟩=some vv:=ai K rfl;have d2:(H.alloc (.cells 3 [.int .i64 w,vv,vb])).ld ⟨H.nx,2,none⟩=some vb:=ai K rfl;have d:(H.alloc (.cells 3 [.int .i64 w,vv,vb])).ldn ⟨H.nx,0,none⟩ 3=some [.int .i64 w,vv,vb]:=bj K 3 rfl;generalize cA:H.alloc (.cells 3 [.int .i64 w,vv,vb])=H1 at X1 d0 d1 d2 d;have bD:=X1.wf K;have gb1:=X1.get hb
  have HU:∃C B:Int,H1.get b=some (.cells 2 [.int .i64 C,.int .i64 B]):=⟨_,_,gb1⟩
  have mX:H1.n0≤b:=by rw [X1.n0];exact xq
  have GX1:=GX.trans X1;have J:¬ H.nx=b:=by omega
  obtain ⟨a0,c0,kz⟩:=hr.len;rw [hl.length]at kz;have MX1:Mod (fun x=>x=b) H H1:=Mod.bU X1;by_cases z0:0<l.length∧16<deep
  case pos=>
   obtain ⟨z1,z2⟩:=z0
   have S:F=false:=T (by
    rintro ⟨_,q,_⟩
    obtain ⟨⟨op,n,args,f,g⟩,P⟩:∃y,l[0]?=some y:=⟨_,apG z1⟩
    have:=kZ (k:=0) (apL P);have:=(kV f 0 (by omega)).1
    omega)
   simp (maxSteps:=9^7)-implicitDefEqProofs+contextual [-X.ev,LO,kz,cA,z1,z2,S,HU,MX1]
  refine AV [.r,.r] (fun o H'=>H'=H1∧o.get 0= .pointer (some ⟨b,0,none⟩)∧o.get 2= .slice a0 l.length c0∧o.get 3= .int .i64 deep∧o.get 5= .pointer (some ⟨H.nx,0,none⟩)) rfl ?_ ?_
  case refine_2=>
   intro rest fI;simp only [LO,zu,zt]at fI;by_cases z1:0<l.length
   ·have z2:¬ 16<deep:=fun q=>z0 ⟨z1,q⟩
    simp (maxSteps:=9^7)-implicitDefEqProofs+contextual [-X.ev,LO,kz,cA,z1,z2,fI]
   ·simp (maxSteps:=9^7)-implicitDefEqProofs+contextual [-X.ev,LO,kz,cA,z1,fI]
  rintro o H' ⟨rfl,v,f2,u,t⟩;have gp:=aX l;simp (maxSteps:=9^7)-implicitDefEqProofs+contextual [-X.ev,LO,v,f2,u,t]
  refine bZ (fun j o H2=>Mod (fun x=>x=b) H' H2∧∃i:Nat,i+j=l.length∧o.get 0= .pointer (some ⟨b,0,none⟩)∧o.get 3= .int .i64 deep∧o.get 5= .pointer (some ⟨H.nx,0,none⟩)∧o.get 20=vl∧o.get 21= .int .i64 l.length∧o.get 22= .int .i64 i∧
   H2.get b=some (.cells 2 [.int .i64 (stmts+al (l.take i)),.int .i64 (nodes+aw (l.take i))])∧nodes+aw (l.take i)≤2000∧(0<i→nodes+aw (l.take i)≤400)∧
   ∀op n args f g,bH.mk op n args f g∈l.take i→(deep+1+bE f 0≤17∧deep+1+bE g 0≤17)∧fk w V (.mk op n args f g)=true) ?_ l.length ⟨Mod.refl _ _,0,by simp,by simp [v],by simp [u],by simp [t],by simp [kz],by simp,by simp,by simpa [al,aw]using gb1,by simp [aw];omega,by simp,by simp⟩
  rintro j o H2 ⟨Y,i,hi,v,u,t,f20,f21,f22,L0,hle,acy,aH⟩;have M02:=MX1.trans Y;have gT:=Y.wf bD;have GX2:Ext G H2:=GX.mod M02 (by rintro x rfl;exact gb);have iK:H2.n0≤b:=by rw [Y.n0];exact mX
  have D0:=Y.ld (a:=⟨H.nx,0,none⟩) J d0;have D1:=Y.ld (a:=⟨H.nx,1,none⟩) J d1;have D:=Y.ldn (a:=⟨H.nx,0,none⟩) J d;by_cases h:i<l.length
  case neg=>
   have ht:l.take i=l:=apN (by omega);rw [ht]at acy aH L0 hle
   have R:F=decide (nodes+aw l≤400):=by
    have p1:=CL (l:=l) (k:=0) (m:=17- deep) (by omega) fun op n args f g hm=>by have:=(aH op n args f g hm).1;omega
    have p2:decide (deep+bE l 0≤17)=true:=by simp;omega
    have p3:fX w V l=true:=kv.2 fun e he=>by obtain ⟨op,n,args,f,g⟩:=e;exact (aH op n args f g he).2
    rw [←hF,lG,p2,p3];simp
   have l2:=aI L0 iK (k:=1) rfl;simp (maxSteps:=9^7)-implicitDefEqProofs+contextual [-X.ev,v,u,t,f20,f21,f22,h,l2];exact ⟨R.symm,M02,_,_,L0,fun _=>⟨rfl,rfl⟩⟩
  obtain ⟨⟨op,n,args,f,g⟩,P⟩:∃y,l[i]?=some y:=⟨_,apG h⟩
  have hs:=me P;have oL:=apL P;have t1:=fu P;have t2:=fY P;have t3:=gp (i+1);have t4:=cl l i;have t5:=gp i;rw [bx]at t1;rw [bA]at t2;have u1:=bh args;have u2:=bF f;have u3:=bF g;have u4:=aR f;have u5:=aR g;obtain ⟨b2,o2,c2,va,vt,ve,ra,rt,re,b9,bK,_,_,_,_,_,i1,s,i3,i4,i5,g1,g2,g3,g4,g5,g6⟩:=hY.row hr hl P;replace bK:=GX2.ldn bK;rw [b9]at f20;obtain ⟨aa,ca,fO⟩:=g1.len;obtain ⟨at_,ct,wo⟩:=g3.len;obtain ⟨ae,ce,sg⟩:=g5.len;rw [g2.length]at fO;rw [g4.length]at wo;rw [g6.length]at sg
  obtain ⟨nt,Ry⟩:∃nt,f.length=nt:=⟨_,rfl⟩
  obtain ⟨ne_,fR⟩:∃nt,g.length=nt:=⟨_,rfl⟩
  rw [Ry]at wo;rw [fR]at sg
  have WI:deep≤16:=by
   rcases Int.lt_or_le 16 deep with q|q
   ·exact absurd ⟨by omega,q⟩ z0
   ·exact q
  have lK:fX w V l=true→fk w V (.mk op n args f g)=true:=fun q=>kv.1 q _ oL
  rw [fk,tT hV,Ry,fR]at lK;obtain ⟨H3,DD,X3,FB,FC,q,lQ⟩:=fg (H:=H2) gT (z:=5) (c:=[.int .i64 0,.int .i64 0,.slice none 0 0,.slice none 0 0,.slice none 0 0]) (vs:=[.int .i64 op,.int .i64 n,va,vt,ve]) rfl;have q0:H3.ld ⟨H2.nx,0,none⟩=some (.int .i64 op):=lQ 0 _ rfl;have q1:H3.ld ⟨H2.nx,1,none⟩=some (.int .i64 n):=lQ 1 _ rfl;have q2:H3.ld ⟨H2.nx,2,none⟩=some va:=lQ 2 _ rfl;have q3:H3.ld ⟨H2.nx,3,none⟩=some vt:=lQ 3 _ rfl;have q4:H3.ld ⟨H2.nx,4,none⟩=some ve:=lQ 4 _ rfl;clear lQ;replace q:H3.ldn ⟨H2.nx,0,none⟩ 5=some [.int .i64 op,.int .i64 n,va,vt,ve]:=q;have xp:=X3.wf gT;have JX:=X3.get L0;have yr:H3.n0≤b:=by rw [X3.n0];exact iK
  have M:¬ H2.nx=b:=by have:=AH.bk L0;omega
  obtain ⟨H4,s4,M4,yy,nN,Ot⟩:=bV JX yr (k:=0) (vs:=[.int .i64 (stmts+al (l.take i)+1)]) (by simp);have Ot:H4.get b=some (.cells 2 [.int .i64 (stmts+al (l.take i)+1),.int .i64 (nodes+aw (l.take i))]):=Ot;have pX:H4.n0≤b:=by rw [nN];exact yr
  obtain ⟨H5,s5,M5,L3,yz,Ie⟩:=bV Ot pX (k:=1) (vs:=[.int .i64 (nodes+aw (l.take i)+1)]) (by simp);have Ie:H5.get b=some (.cells 2 [.int .i64 (stmts+al (l.take i)+1),.int .i64 (nodes+aw (l.take i)+1)]):=Ie;have Ig:H5.n0≤b:=by rw [yz];exact pX
  have Rz:=M4.trans M5;have L4:=(Mod.bU X3).trans Rz;have L2:=M02.trans L4;have T3:Ext G H5:=GX.mod L2 (by rintro x rfl;exact gb);have rk:=L2.wf K;have l3:=aI JX yr (k:=0) rfl;have l4:=aI Ot pX (k:=1) rfl;have l5:=aI Ie Ig (k:=1) rfl;have Q:=Rz.ldn (a:=⟨H2.nx,0,none⟩) M q;have Q0:=Rz.ld (a:=⟨H2.nx,0,none⟩) M q0;have Q2:=Rz.ld (a:=⟨H2.nx,2,none⟩) M q2;have Q3:=Rz.ld (a:=⟨H2.nx,3,none⟩) M q3;have Q4:=Rz.ld (a:=⟨H2.nx,4,none⟩) M q4;replace D0:=L4.ld (a:=⟨H.nx,0,none⟩) J D0;replace D1:=L4.ld (a:=⟨H.nx,1,none⟩) J D1;replace D:=L4.ldn (a:=⟨H.nx,0,none⟩) J D
  have ex5:∃C B:Int,H5.get b=some (.cells 2 [.int .i64 C,.int .i64 B]):=⟨_,_,Ie⟩
  have w1:IntKind.i64.wrap (stmts+al (l.take i)+1)=stmts+al (l.take i)+1:=aj ⟨by omega,by omega⟩;have w2:IntKind.i64.wrap (nodes+aw (l.take i)+1)=nodes+aw (l.take i)+1:=aj ⟨by omega,by omega⟩;have Yz:=Q2;rw [fO]at Yz;by_cases k1:400<nodes+aw (l.take i)+1
  ·have S:F=false:=T (by rintro ⟨q,_⟩;omega)
   simp (maxSteps:=9^7)-implicitDefEqProofs+contextual [-X.ev,v,u,t,f20,f21,f22,h,bK,DD,l3,s4,w1,l4,s5,w2,l5,k1,S,aN,aD,aE,ex5,L2]
  simp (maxSteps:=9^7)-implicitDefEqProofs+contextual [-X.ev,v,u,t,f20,f21,f22,h,bK,DD,l3,s4,w1,l4,s5,w2,l5,k1,D,Q,Yz];apply ah
  ·(simp-implicitDefEqProofs [-X.ev];rfl)
  refine (FH rk (hv.ext T3)).mono ?_;rintro x H6 ⟨rfl,A⟩;have A0:=A.wf rk;have GX6:=T3.trans A;have Z:=L2.trans (Mod.bU A);have gb6:=A.get Ie;have hb6:H6.n0≤b:=by rw [A.n0];exact Ig
  have ex6:∃C B:Int,H6.get b=some (.cells 2 [.int .i64 C,.int .i64 B]):=⟨_,_,gb6⟩
  have r0:=A.ld Q0;have r2:=A.ld Q2;have r3:=A.ld Q3;have r4:=A.ld Q4;replace D0:=A.ld D0;replace D1:=A.ld D1;replace D:=A.ldn D;have Q2n:=aV.1 Yz;have r2n:=aV.1 (A.ld Yz);by_cases k2:nr V op n=args.length
  case neg=>
   have S:F=false:=T (by rintro ⟨_,_,q⟩;have:=lK q;simp [k2]at this);simp (maxSteps:=9^7)-implicitDefEqProofs+contextual [-X.ev,k2,S,aN,aD,aE,ex6,Z,Q2n,r2n,A.n0,A.nx]
  have S:sr op nt ne_=false→F=false:=fun z=>T (by rintro ⟨_,_,q⟩;have:=lK q;simp [z]at this)
  refine TU 1 [.r] (fun o H'=>H'=H6∧sr op nt ne_=true∧o.get 0= .pointer (some ⟨b,0,none⟩)∧o.get 3= .int .i64 deep∧o.get 5= .pointer (some ⟨H.nx,0,none⟩)∧o.get 10= .pointer (some ⟨H2.nx,0,none⟩)∧o.get 20= .slice (some ⟨b2,o2,none⟩) l.length c2∧o.get 21= .int .i64 l.length∧o.get 22= .int .i64 i) rfl ?_ ?_
  case refine_2=>
   intro rest fI;rw [wo]at r3;rw [sg]at r4;simp only [xj,zu,zt]at fI;simp (maxSteps:=9^7)-implicitDefEqProofs+contextual [-X.ev,vh,sr,k2,S,aN,aD,aE,ex6,Z,Q2n,r2n,A.n0,A.nx,r0,r3,r4,fI,v,u,t,f20,f21,f22]
  simp only [xj,zu,zt,AU,JT,JS];rintro cB H' ⟨rfl,k3,v,u,t,f10,f20,f21,f22⟩;rw [fO]at r2;simp (maxSteps:=9^7)-implicitDefEqProofs+contextual [-X.ev,v,u,t,f10,f20,f21,f22,r2]
  refine bZ (fun j2 o H7=>Mod (fun x=>x=b) H' H7∧∃s:Nat,s+j2=args.length∧o.get 0= .pointer (some ⟨b,0,none⟩)∧o.get 3= .int .i64 deep∧o.get 5= .pointer (some ⟨H.nx,0,none⟩)∧o.get 10= .pointer (some ⟨H2.nx,0,none⟩)∧o.get 20= .slice (some ⟨b2,o2,none⟩) l.length c2∧o.get 21= .int .i64 l.length∧o.get 22= .int .i64 i∧
   o.get 80=va∧o.get 81= .int .i64 args.length∧o.get 82= .int .i64 s∧
   H7.get b=some (.cells 2 [.int .i64 (stmts+al (l.take i)+1),.int .i64 (nodes+aw (l.take i)+1+aq (args.take s))])∧aq (args.take s)≤400*s∧
   ∀e∈args.take s,gL w V 1 e=true) ?_ args.length ⟨Mod.refl _ _,0,by simp,by simp [v],by simp [u],by simp [t],by simp [f10],by simp [f20],by simp [f21],by simp [f22],by simp [fO],by simp,by simp,by simpa [aq]using gb6,by simp [aq],by simp⟩
  rintro j2 o H7 ⟨L,s,CM,v,u,t,f10,f20,f21,f22,f80,f81,f82,Rw,acB,FK⟩;have YA:=Z.trans L;have CN:=YA.wf K;have GX7:Ext G H7:=GX.mod YA (by rintro x rfl;exact gb);have T4:H7.n0≤b:=by rw [L.n0];exact hb6
  have Sv:(args.length:Int)≤2:=by rw [←k2];exact FI V op n
  have D0':=L.ld (a:=⟨H.nx,0,none⟩) J D0;have D1':=L.ld (a:=⟨H.nx,1,none⟩) J D1;have D':=L.ldn (a:=⟨H.nx,0,none⟩) J D;by_cases h2:s<args.length
  ·obtain ⟨y,yY⟩:∃y,args[s]?=some y:=⟨_,apG h2⟩
   obtain ⟨b3,o3,c3,va3,r,Dt,FM,rfl,km⟩:=gj.row g1 g2 yY;replace FM:=GX7.ldn FM;rw [Dt]at f80;obtain ⟨H8,sH8,W,ak1,acG,p,T5⟩:=fg (H:=H7) CN (z:=4) (c:=[.int .i64 0,.int .i64 0,.int .i64 0,.slice none 0 0]) (vs:=[.int .i64 y.op,.int .i64 y.n,.int .i64 y.cp,va3]) rfl;have p0:H8.ld ⟨H7.nx,0,none⟩=some (.int .i64 y.op):=T5 0 _ rfl;have p1:H8.ld ⟨H7.nx,1,none⟩=some (.int .i64 y.n):=T5 1 _ rfl;have p2:H8.ld ⟨H7.nx,2,none⟩=some (.int .i64 y.cp):=T5 2 _ rfl;have p3:H8.ld ⟨H7.nx,3,none⟩=some va3:=T5 3 _ rfl;clear T5;replace p:H8.ldn ⟨H7.nx,0,none⟩ 4=some [.int .i64 y.op,.int .i64 y.n,.int .i64 y.cp,va3]:=p;have acH:=W.wf CN;replace D0':=W.ld D0';replace D1':=W.ld D1';have T6:=GX7.trans W;have YB:=W.get Rw;simp (maxSteps:=9^7)-implicitDefEqProofs+contextual [-X.ev,v,u,t,f10,f20,f21,f22,f80,f81,f82,h2,FM,sH8,D0',D1',p];apply ah
   ·(simp-implicitDefEqProofs [-X.ev];rfl)
   refine (CK (k:=1) acH (hv.ext T6) tH (km.ext T6)).mono ?_;rintro x H9 ⟨rfl,X9⟩;rw [JY hV];have YC:=YA.trans ((Mod.bU W).trans (Mod.bU X9));have RA:=X9.get YB
   have U:∃C B:Int,H9.get b=some (.cells 2 [.int .i64 C,.int .i64 B]):=⟨_,_,RA⟩
   cases k4:gL w V 1 y with
   |false=>
    have R:F=false:=T (by
     rintro ⟨_,_,q⟩;have:=lK q;simp only [apJ,apW]at this;have:=this.2.2.2 y (apL yY)
     rw [k4]at this;cases this)
    simp (maxSteps:=9^7)-implicitDefEqProofs+contextual [-X.ev,k4,R,U,YC]
   |true=>
    have hb9:H9.n0≤b:=by rw [X9.n0,acG];exact T4
    have l9:=aI RA hb9 (k:=1) rfl;have l9n:=aV.1 l9;have ak3:aB y≤400:=by simp [gL]at k4;exact k4.1
    have ak4:=dZ y;replace p:=X9.ldn p;have Ov:=YC.wf K;have GX9:=T6.trans X9;simp (maxSteps:=9^7)-implicitDefEqProofs+contextual [-X.ev,k4,v,u,t,f10,f20,f21,f22,f80,f81,f82,l9,p];apply ah
    ·(simp-implicitDefEqProofs [-X.ev];rfl)
    refine (tR _ y _ H9 (apV _) Ov (km.ext GX9) (by omega)).mono ?_;rintro x yA ⟨rfl,T7⟩;have T8:=T7.get RA;have T9:yA.n0≤b:=by rw [T7.n0];exact hb9
    have s1:=eJ yY;have acJ:=aV.1 (aI T8 T9 (k:=1) rfl);obtain ⟨YD,s11,YE,Ua,Ub,Ow⟩:=bV T8 T9 (k:=1) (vs:=[.int .i64 (nodes+aw (l.take i)+1+aq (args.take s)+aB y)]) (by simp);have Ow:YD.get b=some (.cells 2 [.int .i64 (stmts+al (l.take i)+1),.int .i64 (nodes+aw (l.take i)+1+aq (args.take s)+aB y)]):=Ow;have s2:=bo args s;have wr:IntKind.i64.wrap (nodes+aw (l.take i)+1+aq (args.take s)+aB y)=nodes+aw (l.take i)+1+aq (args.take s)+aB y:=aj ⟨by omega,by omega⟩;have wi:IntKind.i64.wrap ((s:Int)+1)=(s:Int)+1:=aj ⟨by omega,by omega⟩;simp (maxSteps:=9^7)-implicitDefEqProofs+contextual [-X.ev,v,u,t,f10,f20,f21,f22,f80,f81,f82,wr,s11,aN,aD,aE,l9n,acJ,T7.n0,T7.nx,Ub,Ua,wi];refine ⟨j2- 1,by omega,L.trans ((Mod.bU (W.trans (X9.trans T7))).trans YE),s+1,by omega,Dt.symm,by simp,?_,by omega,fun z I=>?_⟩
    ·rw [Ow,s1]
     rw [show nodes+aw (l.take i)+1+aq (args.take s)+aB y=nodes+aw (l.take i)+1+(aq (args.take s)+aB y) by omega]
    ·rw [ap1,yY]at I
     rcases ap0.1 I with I|I
     ·exact FK z I
     ·simp at I;subst I;exact k4
  ·have ht:args.take s=args:=apN (by omega)
   rw [ht]at acB FK Rw;have T4:=T4;have q3':=L.ld (a:=⟨H2.nx,3,none⟩) M r3;have q4':=L.ld (a:=⟨H2.nx,4,none⟩) M r4;have wd:IntKind.i64.wrap (deep+1)=deep+1:=aj ⟨by omega,by omega⟩;simp (maxSteps:=9^7)-implicitDefEqProofs+contextual [-X.ev,v,u,t,f10,f20,f21,f22,f80,f81,f82,h2,D',q3',wd];have ka:aq args≤800:=by omega
   apply ah
   ·(simp-implicitDefEqProofs [-X.ev];rfl)
   refine (ih f vt rt G H7 (deep+1) (stmts+al (l.take i)+1) (nodes+aw (l.take i)+1+aq args) b (by omega) CN GX7 gb hv i4 g3 g4 Rw T4 (by omega) (by omega) (by omega)).mono ?_;rintro x H8 ⟨rfl,M8,C,B,YB,RB⟩;have YF:=YA.trans M8
   have ex8:∃C B:Int,H8.get b=some (.cells 2 [.int .i64 C,.int .i64 B]):=⟨_,_,YB⟩
   cases k5:lG w V f (deep+1) (nodes+aw (l.take i)+1+aq args)with
   |false=>
    have R:F=false:=T (by
     rintro ⟨q1,q2,q⟩;have:=lK q;simp only [apJ]at this;have r1:=this.2.1;have r2:=kZ (k:=0) oL;have:lG w V f (deep+1) (nodes+aw (l.take i)+1+aq args)=true:=kA.2 ⟨by omega,by omega,r1⟩
     rw [k5]at this;cases this)
    simp (maxSteps:=9^7)-implicitDefEqProofs+contextual [-X.ev,v,u,t,R,ex8,YF]
   |true=>
    obtain ⟨rfl,rfl⟩:=RB k5;have k5':=kA.1 k5;have eh:=YF.wf K;have T6:Ext G H8:=GX.mod YF (by rintro x rfl;exact gb);have hb8:H8.n0≤b:=by rw [M8.n0];exact T4
    have D8:=M8.ldn (a:=⟨H.nx,0,none⟩) J D';have q48:=M8.ld (a:=⟨H2.nx,4,none⟩) M q4';simp (maxSteps:=9^7)-implicitDefEqProofs+contextual [-X.ev,v,u,t,f10,f20,f21,f22,D8,q48,wd];apply ah
    ·(simp-implicitDefEqProofs [-X.ev];rfl)
    refine (ih g ve re G H8 (deep+1) (stmts+al (l.take i)+1+al f) (nodes+aw (l.take i)+1+aq args+aw f) b (by omega) eh T6 gb hv i5 g5 g6 YB hb8 (by omega) (by omega) (by omega)).mono ?_;rintro x H9 ⟨rfl,M9,C,B,RA,YG⟩;have YC:=YF.trans M9
    have U:∃C B:Int,H9.get b=some (.cells 2 [.int .i64 C,.int .i64 B]):=⟨_,_,RA⟩
    cases k6:lG w V g (deep+1) (nodes+aw (l.take i)+1+aq args+aw f)with
    |false=>
     have R:F=false:=T (by
      rintro ⟨q1,q2,q⟩;have:=lK q;simp only [apJ]at this;have r1:=this.2.2.1;have r2:=kZ (k:=0) oL;have:lG w V g (deep+1) (nodes+aw (l.take i)+1+aq args+aw f)=true:=kA.2 ⟨by omega,by omega,r1⟩
      rw [k6]at this;cases this)
     simp (maxSteps:=9^7)-implicitDefEqProofs+contextual [-X.ev,v,u,t,R,U,YC]
    |true=>
     obtain ⟨rfl,rfl⟩:=YG k6;have k6':=kA.1 k6;have wi:IntKind.i64.wrap ((i:Int)+1)=(i:Int)+1:=aj ⟨by omega,by omega⟩;simp (maxSteps:=9^7)-implicitDefEqProofs+contextual [-X.ev,v,u,t,f10,f20,f21,f22,wi];refine ⟨j- 1,by omega,Y.trans (L4.trans ((Mod.bU A).trans (L.trans (M8.trans M9)))),i+1,by omega,b9.symm,by simp,?_,by omega,fun _=>by omega,?_⟩
     ·rw [RA,t1,t2]
      rw [show stmts+al (l.take i)+1+al f+al g=stmts+(al (l.take i)+(1+al f+al g)) by omega,show nodes+aw (l.take i)+1+aq args+aw f+aw g=nodes+(aw (l.take i)+(1+aq args+aw f+aw g)) by omega]
     ·intro op' B AS CB CC I
      rw [ap1,P]at I;rcases ap0.1 I with I|I
      ·exact aH _ _ _ _ _ I
      ·simp only [Option.toList_some,List.mem_singleton]at I
       cases I;refine ⟨⟨by omega,by omega⟩,?_⟩;rw [fk,tT hV,Ry,fR];simp only [k2,k3,k5'.2.2,k6'.2.2,decide_true,Bool.true_and,apW];exact FK
open Go
theorem nu {n0:Nat}:∀{a b x y:List Value},aQ n0 a=some x→aQ n0 b=some y→aQ n0 (a++b)=some (x++y)
 |[],b,x,y,h,k=>by simp [aQ]at h;subst h;simpa using k
 |v::a,b,x,y,h,k=>by
  simp only [aQ]at h;split at h
  case h_2=>cases h
  rename_i z m c d;cases h;have:=nu d k;simp only [List.cons_append,aQ,c,this]
theorem zx {H:AH} {b o n m:Nat} {x y:List Value} (h:H.ldn ⟨b,o,none⟩ n=some x) (k:H.ldn ⟨b,o+n,none⟩ m=some y):H.ldn ⟨b,o,none⟩ (n+m)=some (x++y):=by
 unfold AH.ldn at h k⊢;dsimp only at h k⊢
 cases a:H.get b with
 |none=>simp [a]at h
 |some z=>
  cases z with
  |map es=>simp [a]at h
  |cells z c=>
   simp only [a]at h k⊢;obtain ⟨g,h⟩:=aP h;obtain ⟨f,k⟩:=aP k;simp only [apS]at g f
   have e:(c.drop o).take (n+m)=(c.drop o).take n++(c.drop (o+n)).take m:=by
    rw [List.take_add,List.drop_drop]
   rw [show decide (o+(n+m)≤c.length)=true by simp;omega,cond_true,e]
   cases d:decide (b<H.n0)with
   |false=>
    rw [d]at h k;simp only [cond_false,apH]at h k⊢;rw [h,k]
   |true=>
    rw [d]at h k;simp only [cond_true]at h k⊢;exact nu h k
theorem Rows.FN {H:AH} {sz:Nat} {v:Value} {rows:List (List Value)} (h:Rows H sz v rows):∀r∈rows,r.length=sz:=by
 intro r a;obtain ⟨i,hi,rfl⟩:=List.mem_iff_getElem.1 a;obtain ⟨b,o,c,e,d⟩:=h.at (apG hi);exact (dF d).2
theorem bW {sz:Nat}:∀{rows:List (List Value)},(∀r∈rows,r.length=sz)→rows.flatten.length=rows.length*sz
 |[],_=>by simp
 |r::rows,h=>by
  rw [List.flatten_cons,apP,h r (by simp),bW fun q a=>h q (by simp [a]),List.length_cons,Nat.succ_mul];omega
theorem Rows.whole {H:AH} {sz b o c:Nat} {rows:List (List Value)} (h:Rows H sz (.slice (some ⟨b,o,none⟩) rows.length c) rows):∀k,k≤rows.length→0<k→H.ldn ⟨b,o,none⟩ (k*sz)=some (rows.take k).flatten:=by
 intro k
 induction k with
 |zero=>intro _ h;omega
 |succ k ih=>
  intro g _;obtain ⟨l,f,j,e,a⟩:=h.at (i:=k) (apG (by omega));cases e;rw [ap1,apG (by omega),List.flatten_append];by_cases d:k=0
  ·subst d
   simpa using a
  ·have:=zx (ih (by omega) (by omega)) a
   rw [show(k+1)*sz=k*sz+sz by rw [Nat.succ_mul],this];simp only [Option.toList_some,List.flatten_cons,List.flatten_nil,List.append_nil]
theorem Rows.src {H:AH} {sz:Nat} {v:Value} {rows:List (List Value)} (h:Rows H sz v rows):pJ H sz v=some rows.flatten∧mW v=some rows.length:=by
 obtain ⟨a,c,rfl,k⟩:=h.is;refine ⟨?_,rfl⟩
 by_cases e:rows=[]
 ·subst e
  cases a<;>simp [pJ]
 ·have d:0<rows.length:=List.length_pos_iff.2 e
  obtain ⟨b,o,rfl,h2⟩:=k 0 _ (apG d);have:=Rows.whole (H:=H) (sz:=sz) (b:=b) (o:=o) (c:=c) (rows:=rows) ⟨_,_,rfl,k⟩ rows.length (apK _) d;simp only [pJ,nb];rw [show decide (rows.length=0)=false by simp [e],cond_false,this,List.take_length]
structure da (H:AH) (sz:Nat) (v:Value) (rows:List (List Value)):Prop where
 is:(v= .slice none 0 0∧rows=[])∨∃b,v= .slice (some ⟨b,0,none⟩) rows.length rows.length∧H.n0≤b∧H.get b=some (.cells sz rows.flatten)
 len:∀r∈rows,r.length=sz
def aU (v:Value) (b:Nat):Prop:=∃o n c,v= .slice (some ⟨b,o,none⟩) n c
theorem aS (b b' o n c:Nat):aU (.slice (some ⟨b,o,none⟩) n c) b'↔b'=b:=by
 unfold aU;constructor
 ·rintro ⟨a,d,f,e⟩;cases e;rfl
 ·rintro rfl;exact ⟨_,_,_,rfl⟩
theorem dv (b n c:Nat):¬ aU (.slice none n c) b:=by rintro ⟨_,_,_,e⟩;cases e
theorem da.nil (H:AH) (sz:Nat):da H sz (.slice none 0 0) []:=⟨.inl ⟨rfl,rfl⟩,by simp⟩
theorem da.lt {H:AH} {sz b:Nat} {v:Value} {rows:List (List Value)} (h:da H sz v rows) (a:aU v b):b<H.nx:=by
 rcases h.is with⟨rfl,_⟩|⟨d,rfl,_,c⟩
 ·exact absurd a (dv _ _ _)
 ·rw [(aS _ _ _ _ _).1 a];exact AH.bk c
theorem da.shape {H:AH} {sz:Nat} {v:Value} {rows:List (List Value)} (h:da H sz v rows):∃a c,v= .slice a rows.length c:=by
 rcases h.is with⟨rfl,rfl⟩|⟨b,rfl,_⟩
 ·exact ⟨_,_,rfl⟩
 ·exact ⟨_,_,rfl⟩
theorem jc {sz:Nat}:∀{rows:List (List Value)} {i:Nat} {r:List Value},(∀r∈rows,r.length=sz)→rows[i]?=some r→((rows.flatten.drop (i*sz)).take sz)=r∧i*sz+sz≤rows.flatten.length
 |[],i,r,_,h=>by simp at h
 |x::rows,0,r,a,h=>by
  simp at h;subst h;have:=a x (by simp);simp [this]
 |x::rows,i+1,r,a,h=>by
  have b:=a x (by simp);have ih:=jc (fun q c=>a q (by simp [c])) (i:=i) (r:=r) (rows:=rows) (by simpa using h);rw [List.flatten_cons,Nat.succ_mul,apP,b];refine ⟨?_,by omega⟩;rw [show i*sz+sz=x.length+i*sz by omega,←List.drop_drop,List.drop_left];exact ih.1
theorem da.rows {H:AH} {sz:Nat} {v:Value} {rows:List (List Value)} (h:da H sz v rows):Rows H sz v rows:=by
 rcases h.is with⟨rfl,rfl⟩|⟨b,rfl,c,a⟩
 ·exact ⟨_,_,rfl,by simp⟩
 ·refine ⟨_,_,rfl,fun i r hi=>⟨b,0,rfl,?_⟩⟩
  obtain ⟨e,d⟩:=jc h.len hi;rw [bM a c (by simpa using d)]
  simpa using e
theorem da.mod {S:Nat→Prop} {H H':AH} {sz:Nat} {v:Value} {rows:List (List Value)} (h:da H sz v rows) (M:Mod S H H') (hs:∀b,aU v b→¬ S b):da H' sz v rows:=by
 refine ⟨?_,h.len⟩;rcases h.is with⟨rfl,rfl⟩|⟨b,rfl,c,a⟩
 ·exact .inl ⟨rfl,rfl⟩
 ·exact .inr ⟨b,rfl,by rw [M.n0];exact c,M.get (hs b ((aS _ _ _ _ _).2 rfl)) a⟩
theorem da.ext {H H':AH} {sz:Nat} {v:Value} {rows:List (List Value)} (h:da H sz v rows) (X:Ext H H'):da H' sz v rows:=h.mod (Mod.bU (S:=fun _=>False) X) (by simp)
theorem su {H:AH} {sz bytes:Nat} {s x:Value} {rows new:List (List Value)} (q:H.n0≤H.nx) (hs:da H sz s rows) (p:Rows H sz x new) (d:(rows.length+new.length)*bytes≤2^47) (l:rows.length+new.length<2^62):
 ∃g H',bL sz bytes H s x=some (g,H')∧da H' sz g (rows++new)∧Mod (aU s) H H'∧(∀b,aU g b→aU s b∨H.nx≤b)∧(new≠[]→∀b,aU g b→H.nx≤b):=by
 obtain ⟨n,a⟩:=p.src;have u:=p.FN
 have t:∀r∈rows++new,r.length=sz:=by
  intro r z;rcases ap0.1 z with h|h
  ·exact hs.len r h
  ·exact u r h
 by_cases e:new=[]
 ·subst e
  refine ⟨s,H,?_,by simpa using hs,Mod.refl _ _,fun b d=>.inl d,fun h=>absurd rfl h⟩;rcases hs.is with⟨rfl,rfl⟩|⟨b,rfl,m,j⟩
  ·simp [bL,a]
  ·simp [bL,a]
 have w:0<new.length:=List.length_pos_iff.2 e;have o:¬ new.length=0:=by omega
 have C:new.flatten.length=new.length*sz:=bW u
 by_cases i:rows=[]
 ·subst i
  simp only [List.length_nil,Nat.zero_add]at d l;refine ⟨.slice (some ⟨H.nx,0,none⟩) new.length new.length,H.alloc (.cells sz new.flatten),?_,⟨.inr ⟨H.nx,rfl,q,cx _ _⟩,t⟩,Mod.bU (Ext.alloc _ _),fun b d=>.inr (by rw [(aS _ _ _ _ _).1 d];exact apK _),fun _ b d=>by rw [(aS _ _ _ _ _).1 d];exact apK _⟩;rcases hs.is with⟨rfl,_⟩|⟨b,rfl,m,j⟩
  ·simp [bL,a,n,o,e,d,l,nb]
  ·simp [bL,a,n,o,e,d,l,nb]
 have v:0<rows.length:=List.length_pos_iff.2 i;rcases hs.is with⟨rfl,h⟩|⟨b,rfl,m,j⟩
 ·exact absurd h i
 have f:H.ldn ⟨b,0,none⟩ (rows.length*sz)=some rows.flatten:=by
  have:=bW hs.len;rw [bM j m (by omega),←this];simp only [List.drop_zero,List.take_length]
 have y:H.lz b sz=true:=by simp [AH.lz,j]
 have B:¬ rows.length+new.length≤rows.length:=by omega
 have A:¬ rows.length=0:=by omega
 refine ⟨.slice (some ⟨H.nx,0,none⟩) (rows++new).length (rows++new).length,(H.put b none).alloc (.cells sz (rows++new).flatten),?_,⟨.inr ⟨H.nx,rfl,q,?_⟩,t⟩,⟨rfl,ap7 _,fun c k hs=>?_⟩,fun c k=>.inr (by rw [(aS _ _ _ _ _).1 k];exact apK _),fun _ c k=>by rw [(aS _ _ _ _ _).1 k];exact apK _⟩
 ·simp [bL,a,n,o,e,i,d,l,B,A,m,y,f]
 ·exact cx (H.put b none) _
 ·rw [aS]at hs
  rw [AH.ey,if_neg (by rw [AH.DS];omega),AH.rG,if_neg hs]
theorem oN {H:AH} {sz bytes:Nat} {s x:Value} {rows new:List (List Value)} (g:H.n0≤H.nx) (hs:da H sz s rows) (f:Rows H sz x new) (h:(rows.length+new.length)*bytes≤2^47) (i:rows.length+new.length<2^62):
 ∃e H',bL sz bytes H s x=some (e,H')∧da H' sz e (rows++new)∧Mod (aU s) H H'∧∀b,aU e b→aU s b∨H.nx≤b:=by
 obtain ⟨e,H',a,b,c,d,_⟩:=su g hs f h i;exact ⟨e,H',a,b,c,d⟩
theorem k8 (z c:List Value) (h:c.length=z.length):aM z 0 c=c:=by
 have:aM z 0 c=c++z.drop c.length:=by cases z<;>rfl
 rw [this,List.drop_eq_nil_of_le (by omega)];simp
theorem mZ {sz:Nat} {z:List Value} {H:AH} {v:Value} (b:(aW v).length=sz) (c:cN v=false) (a:z.length=sz):
 pU 1 sz z H [(0,sz,v)]=some (.slice (some ⟨H.nx,0,none⟩) 1 1,H.alloc (.cells sz (aW v))):=by
 simp only [pU,jo,nb,b,a,c,Nat.zero_add,decide_true,apK,Bool.not_false,Bool.and_self,cond_true];rw [k8 _ _ (by omega)];rfl
theorem gF {H H1:AH} {sz bytes:Nat} {s:Value} {rows:List (List Value)} {r:List Value} (d:H.n0≤H.nx) (hs:da H sz s rows) (h:r.length=sz) (l:H.alloc (.cells sz r)=H1) (f:(rows.length+1)*bytes≤2^47) (j:rows.length+1<2^62):
 ∃a H',bL sz bytes H1 s (.slice (some ⟨H.nx,0,none⟩) 1 1)=some (a,H')∧da H' sz a (rows++[r])∧Mod (aU s) H H'∧(∀b,aU a b→H.nx≤b)∧H'.n0=H.n0∧H.nx≤H'.nx∧H'.n0≤H'.nx∧H1.n0=H.n0∧H.nx≤H1.nx∧H1.nx≤H'.nx:=by
 subst l;have X:=Ext.alloc H (.cells sz r)
 have g:Rows (H.alloc (.cells sz r)) sz (.slice (some ⟨H.nx,0,none⟩) 1 1) [r]:=⟨_,_,rfl,fun i q hi=>by
  cases i with
  |zero=>
   simp at hi;subst hi;refine ⟨H.nx,0,rfl,?_⟩;have:=ri d sz r;rw [h]at this
   simpa using this
  |succ i=>simp at hi⟩
 obtain ⟨a,H',e,o,M,_,k⟩:=su (bytes:=bytes) (X.wf d) (hs.ext X) g f j;have c:Mod (aU s) H H':=(Mod.bU X).trans M;exact ⟨a,H',e,o,c,fun b f=>ap2 X.nx (k (by simp) b f),c.n0,c.nx,c.wf d,X.n0,X.nx,M.nx⟩
structure Sub (G H:AH):Prop where
 n0:H.n0=G.n0
 nx:G.nx≤H.nx
 get:∀b x,G.get b=some x→H.get b=some x
theorem Sub.bU {G H:AH} (h:Ext G H):Sub G H:=⟨h.n0,h.nx,fun b x k=>h.get k⟩
theorem Sub.trans {a b c:AH} (h:Sub a b) (k:Sub b c):Sub a c:=⟨k.n0.trans h.n0,ap2 h.nx k.nx,fun x y e=>k.get x y (h.get x y e)⟩
theorem Sub.mod {S:Nat→Prop} {G H H':AH} (h:Sub G H) (M:Mod S H H') (hs:∀b,S b→G.get b=none):Sub G H':=
 ⟨M.n0.trans h.n0,ap2 h.nx M.nx,fun b x k=>M.get (fun q=>by rw [hs b q]at k;cases k) (h.get b x k)⟩
theorem Sub.JZ {G H H':AH} (h:Sub G H) (X:Ext H H'):Sub G H':=h.trans (Sub.bU X)
theorem Sub.ldn {G H:AH} (h:Sub G H) {a:Addr} {n:Nat} {vs:List Value} (k:G.ldn a n=some vs):H.ldn a n=some vs:=by
 obtain ⟨x,b⟩:=aqi.1 (dF k).1;rw [←k];exact eS (by rw [h.get _ _ b,b]) h.n0
theorem Sub.ld {G H:AH} (h:Sub G H) {a:Addr} {v:Value} (k:G.ld a=some v):H.ld a=some v:=aV.2 (h.ldn (aV.1 k))
theorem Rows.sub {H H':AH} (E:Sub H H') {sz:Nat} {v:Value} {rows:List (List Value)} (h:Rows H sz v rows):Rows H' sz v rows:=by
 obtain ⟨a,c,rfl,k⟩:=h.is;exact ⟨a,c,rfl,fun i r hi=>let⟨b,o,d,h2⟩:=k i r hi;⟨b,o,d,E.ldn h2⟩⟩
theorem ep.sub {H H':AH} (E:Sub H H') {v:Value} {l:List Int} (h:ep H v l):ep H' v l:=Rows.sub E h
def AH.tC (H:AH):List Nat→AH
 |[]=>H
 |b::l=>(H.put b none).tC l
theorem sw:∀(l:List Nat) (H:AH) (c:Nat),(H.tC l).get c=if c∈l then none else H.get c
 |[],H,c=>by simp [AH.tC]
 |b::l,H,c=>by
  rw [AH.tC,sw l,AH.rG];by_cases a:c∈l
  ·simp [a]
  ·by_cases h2:c=b<;>simp [a,h2]
theorem vq:∀(l:List Nat) (H:AH),(H.tC l).n0=H.n0
 |[],H=>rfl
 |b::l,H=>by rw [AH.tC,vq l];rfl
theorem vr:∀(l:List Nat) (H:AH),(H.tC l).nx=H.nx
 |[],H=>rfl
 |b::l,H=>by rw [AH.tC,vr l];rfl
theorem FP (l:List Nat) (H:AH):Sub (H.tC l) H:=⟨(vq l H).symm,by rw [vr];exact apK _,fun b x k=>by
 rw [sw]at k;split at k
 ·cases k
 ·exact k⟩
end
section
open Go
theorem xv {p:eD} (h:aC p.w p.vars=true):lG p.w p.vars p.body 1 0=eI p:=by
 unfold lG eI;rw [h,show decide ((1:Int)+bE p.body 0≤17)=decide (bE p.body 0≤16) by rw [aqc];simp;omega,show decide (0+aw p.body≤400)=decide (aw p.body≤400) by rw [aqc];simp];simp
theorem A8:eM [.int .i64 0,.int .i64 0] []=some (.agg #[.int .i64 0,.int .i64 0]):=rfl
theorem zy {p:eD} {c:List Value} {H:AH} (j:H.n0≤H.nx) (V:pT H c p):Ca E O 71 [.agg c.toArray] H (fun x H'=>x= .tuple #[.agg #[.int .i64 (if eI p=true then al p.body else 0),.int .i64 (if eI p=true then aw p.body else 0)],.bool (eI p)]∧Ext H H'):=by
 obtain ⟨vv,vb,Q,rfl,hi,I,G,U,W,Y⟩:=V.is;refine Ca.aJ (F:=Xt) rfl rfl rfl ?_;have e:=Ext.alloc H (.cells 3 [.int .i64 p.w,vv,vb]);have u:(H.alloc (.cells 3 [.int .i64 p.w,vv,vb])).ld ⟨H.nx,0,none⟩=some (.int .i64 p.w):=ai j rfl;have t:(H.alloc (.cells 3 [.int .i64 p.w,vv,vb])).ld ⟨H.nx,1,none⟩=some vv:=ai j rfl;have g:(H.alloc (.cells 3 [.int .i64 p.w,vv,vb])).ld ⟨H.nx,2,none⟩=some vb:=ai j rfl;have d:(H.alloc (.cells 3 [.int .i64 p.w,vv,vb])).ldn ⟨H.nx,0,none⟩ 3=some [.int .i64 p.w,vv,vb]:=bj j 3 rfl;generalize cA:H.alloc (.cells 3 [.int .i64 p.w,vv,vb])=f at e u t g d;have C:=e.wf j;have a:=Ext.alloc f (.cells 2 [.int .i64 0,.int .i64 0]);have K:=cx f (.cells 2 [.int .i64 0,.int .i64 0]);generalize iE:f.alloc (.cells 2 [.int .i64 0,.int .i64 0])=H2 at a K;have D:=a.wf C;have Z:H2.n0≤f.nx:=by rw [a.n0];exact C
 replace u:=a.ld u;replace t:=a.ld t;replace g:=a.ld g;replace d:=a.ldn d;have M:=e.trans a;simp (maxSteps:=9^7)-implicitDefEqProofs+contextual [-X.ev,Xt,cA,iE,u,t];apply ah
 ·(simp-implicitDefEqProofs [-X.ev];rfl)
 refine (AY D (I.ext M) G p.w).mono ?_;rintro x N ⟨rfl,b⟩;have J:=b.get K;have r:N.n0≤f.nx:=by rw [b.n0];exact Z
 have gM:=M.trans b;have T:=b.wf D
 cases s:aC p.w p.vars with
 |false=>
  have h2:eI p=false:=by simp [eI,s]
  obtain ⟨H4,P,v,yy,S,o⟩:=bV J r (k:=0) (vs:=[.int .i64 0,.int .i64 0]) (by simp);have i:=bM o (by rw [S];exact r) (k:=0) (n:=2) (by simp [aM]);have lE:Ext H H4:=(e.trans (Ext.refl _)).trans (((a.trans b).mod v (by rintro x rfl;exact apK _)));simp [aM]at i;simp (maxSteps:=9^7)-implicitDefEqProofs+contextual [-X.ev,s,h2,A8,P,i,lE]
 |true=>
  replace g:=b.ld g;replace d:=b.ldn d;simp (maxSteps:=9^7)-implicitDefEqProofs+contextual [-X.ev,d,g];apply ah
  ·(simp-implicitDefEqProofs [-X.ev];rfl)
  refine (FJ s G _ p.body vb Q f N 1 0 0 f.nx (apV _) T (a.trans b) (apK _) (I.ext e) Y (U.ext e) (W.ext e) J r (by omega) (by omega) (by omega)).mono ?_;rintro x H4 ⟨rfl,v,s',n',o,l⟩;rw [xv s]at l⊢;have m:H4.n0≤f.nx:=by rw [v.n0];exact r
  have L:Ext f H4:=(a.trans b).mod v (by rintro x rfl;exact apK _)
  cases h2:eI p with
  |false=>
   obtain ⟨H5,q,B,R,y,z⟩:=bV o m (k:=0) (vs:=[.int .i64 0,.int .i64 0]) (by simp);have h:=bM z (by rw [y];exact m) (k:=0) (n:=2) (by simp [aM]);have A:Ext H H5:=e.trans (L.mod B (by rintro x rfl;exact apK _));simp [aM]at h;simp (maxSteps:=9^7)-implicitDefEqProofs+contextual [-X.ev,A8,q,h,A]
  |true=>
   obtain ⟨rfl,rfl⟩:=l h2;have i:=bM o m (k:=0) (n:=2) (by simp);obtain ⟨H5,q,B,R,y,z⟩:=bV o m (k:=0) (vs:=[.int .i64 (0+al p.body),.int .i64 (0+aw p.body)]) (by simp);have h:=bM z (by rw [y];exact m) (k:=0) (n:=2) (by simp [aM]);have A:Ext H H5:=e.trans (L.mod B (by rintro x rfl;exact apK _));simp [aM]at i h q;simp (maxSteps:=9^7)-implicitDefEqProofs+contextual [-X.ev,i,q,h,A]
theorem CP {p:eD} {c:List Value} {H:AH} (f:H.n0≤H.nx) (g:pT H c p):Ca E O 32 [.agg c.toArray] H (fun x H'=>x= .int .i64 (if eI p=true then 0 else 30)∧Ext H H'):=by
 refine Ca.aJ (F:=W6) rfl rfl rfl ?_;have n:=g.len;have b:=Ext.alloc H (.cells c.length c);have d:(H.alloc (.cells c.length c)).ldn ⟨H.nx,0,none⟩ 3=some c:=bj f 3 (by assumption);generalize j:H.alloc (.cells c.length c)=s at b d;have e:=b.wf f;simp (maxSteps:=9^7)-implicitDefEqProofs+contextual [-X.ev,W6,j,d];apply ah
 ·(simp-implicitDefEqProofs [-X.ev];rfl)
 refine (zy e (g.ext b)).mono ?_;rintro x r ⟨rfl,h⟩;have i:=h.wf e;obtain ⟨q,a,k,l,m,o⟩:=fC i (z:=2) (c:=[.int .i64 0,.int .i64 0]) (vs:=[.int .i64 (if eI p=true then al p.body else 0),.int .i64 (if eI p=true then aw p.body else 0)]) rfl;have X:=b.trans (h.trans k)
 cases h2:eI p with
 |false=>
  simp only [h2,Bool.false_eq_true,if_false]at a;simp (maxSteps:=9^7)-implicitDefEqProofs+contextual [-X.ev,a,X]
 |true=>
  simp only [h2,if_true]at a;simp (maxSteps:=9^7)-implicitDefEqProofs+contextual [-X.ev,a,X]
def zz (sz bytes:Nat):AF:=⟨1,8,[.tmp 2],.seq (.cL [o 2 (.mv (.k (.slice none 0 0)))]) (.seq (.seq (.cL [o 3 (.mv (.t 0)),o 4 (.eqk 2 false (.t 3) (.k (.slice none 0 0)))]) (.cond (.t 4) (.seq (.cL [o 2 (.mv (.k (.slice none 0 0)))]) .ret) .skip)) (.seq (.cL [o 5 (.bsl 0 sz [] []),o 6 (.mv (.t 0)),o 7 (.app sz bytes (.t 5) (.t 6)),o 2 (.mv (.t 7))]) .ret))⟩
theorem kB {f sz bytes:Nat} (t:O f=none) (w:E f=some (zz sz bytes)) {H:AH} {v:Value} {rows:List (List Value)} (m:H.n0≤H.nx) (j:Rows H sz v rows) (d:rows.length*bytes≤2^47) (y:rows.length<2^62):
 Ca E O f [v] H (fun x H'=>da H' sz x rows∧Ext H H'∧∀b,aU x b→H.nx≤b):=by
 refine Ca.aJ t w rfl ?_;obtain ⟨a,c,i⟩:=j.len
 cases a with
 |none=>
  have s:rows=[]:=by
   obtain ⟨C,B,e,k⟩:=j.is;rw [i]at e;cases e
   cases rows with
   |nil=>rfl
   |cons r rows=>obtain ⟨b,o,e,_⟩:=k 0 r rfl;cases e
  subst s;simp (maxSteps:=9^7)-implicitDefEqProofs+contextual [-X.ev,zz,i];exact ⟨da.nil _ _,Ext.refl _,fun b d=>absurd d (dv _ _ _)⟩
 |some a=>
  have n:pU 0 sz [] H []=some (.slice (some ⟨H.nx,0,none⟩) 0 0,H.alloc (.cells sz [])):=rfl;have g:=Ext.alloc H (.cells sz [])
  have l:da (H.alloc (.cells sz [])) sz (.slice (some ⟨H.nx,0,none⟩) 0 0) []:=⟨.inr ⟨H.nx,rfl,m,cx _ _⟩,by simp⟩
  generalize H.alloc (.cells sz [])=F at n g l;obtain ⟨A,D,p,q,z,u⟩:=oN (bytes:=bytes) (g.wf m) l (j.ext g) (by simpa using d) (by simpa using y);rw [i]at p;simp (maxSteps:=9^7)-implicitDefEqProofs+contextual [-X.ev,zz,i,n,p];refine ⟨by simpa using q,g.mod z (by intro b d;rw [aS]at d;subst d;exact apK _),fun b d=>?_⟩;rcases u b d with h|h
  ·rw [aS]at h;subst h;exact apK _
  ·exact ap2 g.nx h
def bC (l:List Int):List (List Value):=l.map fun n=>[.int .i64 n]
theorem kC {H:AH} {v:Value} {l:List Int} (a:H.n0≤H.nx) (c:ep H v l) (d:l.length≤2^40):
 Ca E O 34 [v] H (fun x H'=>da H' 1 x (bC l)∧Ext H H'∧∀b,aU x b→H.nx≤b):=
 kB (sz:=1) (bytes:=8) rfl rfl a c (by simp [bC];omega) (by simp [bC];omega)
theorem da.ints {H:AH} {v:Value} {l:List Int} (h:da H 1 v (bC l)):ep H v l:=h.rows
theorem sx (l m:List Int):bC (l++m)=bC l++bC m:=by simp [bC]
theorem kD {w:Int} (c:1≤w∧w≤8) (a:Int):isWord w a=(!decide (a<0)&& !decide (2^w.toNat≤a)):=by
 have b:cg w=true:=by simp [cg,c]
 rw [isWord,b,Bool.true_and,aqc];simp
theorem zA {p:eD} {t:wu} {c d:List Value} {H:AH} (K:H.n0≤H.nx) (hp:pT H c p) (ht:xb H d t) (hP:eI p=true):
 Ca E O 33 [.agg c.toArray,.agg d.toArray] H (fun x H'=>x= .bool (jS p t)∧Ext H H'):=by
 obtain ⟨vv,vb,rb,rfl,hi,hv,uG,hr,hl,lP⟩:=hp.is;obtain ⟨vs,vp,rfl,ss,sp,l1,l2,_,_⟩:=ht.is;have N:aC p.w p.vars=true:=by simp [eI]at hP;exact hP.1
 have eh:1≤p.w∧p.w≤8:=⟨(aF N).1,(aF N).2.1⟩
 have kR:dY (p.vars.map (·.cells))≤48:=by
  rw [gE]at N;simp only [apJ,apS]at N;exact N.2.2.2.2
 refine Ca.aJ (F:=W7) rfl rfl rfl ?_;have X1:=Ext.alloc H (.cells 3 [.int .i64 p.w,vv,vb]);have v:(H.alloc (.cells 3 [.int .i64 p.w,vv,vb])).ld ⟨H.nx,0,none⟩=some (.int .i64 p.w):=ai K rfl;have d1:(H.alloc (.cells 3 [.int .i64 p.w,vv,vb])).ld ⟨H.nx,1,none⟩=some vv:=ai K rfl;have d2:(H.alloc (.cells 3 [.int .i64 p.w,vv,vb])).ld ⟨H.nx,2,none⟩=some vb:=ai K rfl;have d:(H.alloc (.cells 3 [.int .i64 p.w,vv,vb])).ldn ⟨H.nx,0,none⟩ 3=some [.int .i64 p.w,vv,vb]:=bj K 3 rfl;generalize cA:H.alloc (.cells 3 [.int .i64 p.w,vv,vb])=j at X1 v d1 d2 d;have Z:=X1.wf K;have S:=Ext.alloc j (.cells 2 [vs,vp]);have e0:(j.alloc (.cells 2 [vs,vp])).ld ⟨j.nx,0,none⟩=some vs:=ai Z rfl;have e1:(j.alloc (.cells 2 [vs,vp])).ld ⟨j.nx,1,none⟩=some vp:=ai Z rfl;have e:(j.alloc (.cells 2 [vs,vp])).ldn ⟨j.nx,0,none⟩ 2=some [vs,vp]:=bj Z 2 rfl;generalize iE:j.alloc (.cells 2 [vs,vp])=H2 at S e0 e1 e;have jL:=S.wf Z;replace v:=S.ld v;replace d1:=S.ld d1;have X:=X1.trans S;obtain ⟨a1,c1,lD⟩:=hv.len;obtain ⟨a2,c2,nG⟩:=ss.len;obtain ⟨a3,c3,Fj⟩:=sp.len;have D1:=d1;rw [lD]at D1;simp (maxSteps:=9^7)-implicitDefEqProofs+contextual [-X.ev,W7,cA,iE,D1];refine bZ (fun k g H'=>Ext H2 H'∧∃i:Nat,i+k=p.vars.length∧g.get 2= .pointer (some ⟨H.nx,0,none⟩)∧g.get 3= .pointer (some ⟨j.nx,0,none⟩)∧g.get 11=vv∧g.get 12= .int .i64 p.vars.length∧g.get 13= .int .i64 i∧g.get 5= .int .i64 (dY ((p.vars.take i).map (·.cells)))) ?_ p.vars.length ⟨Ext.refl _,0,by simp,by simp,by simp,by simp [lD],by simp,by simp,by simp [dY]⟩;rintro k g T ⟨A,i,hi,l,f3,f11,f12,f13,R⟩;have kn:=A.wf jL;have C:=X.trans A;replace v:=A.ld v;replace e0:=A.ld e0;replace e1:=A.ld e1;have kz:=uG.1;by_cases h:i<p.vars.length
 ·obtain ⟨y,hy⟩:∃y,p.vars[i]?=some y:=⟨_,apG h⟩
  obtain ⟨b,o,c',M,bK,_⟩:=(hv.ext C).at hy;rw [M]at f11;obtain ⟨G,Ud,m,Ue,Uf,q,Y⟩:=fg (H:=T) kn (z:=3) (c:=[.string ⟨#[]⟩,.int .i64 0,.int .i64 0]) (vs:=[.string y.name,.int .i64 y.level,.int .i64 y.cells]) rfl;have q0:G.ld ⟨T.nx,0,none⟩=some (.string y.name):=Y 0 _ rfl;have q1:G.ld ⟨T.nx,1,none⟩=some (.int .i64 y.level):=Y 1 _ rfl;have V:G.ld ⟨T.nx,2,none⟩=some (.int .i64 y.cells):=Y 2 _ rfl;clear Y;replace q:G.ldn ⟨T.nx,0,none⟩ 3=some [.string y.name,.int .i64 y.level,.int .i64 y.cells]:=q;have J0:=m.wf kn;simp (maxSteps:=9^7)-implicitDefEqProofs+contextual [-X.ev,l,f3,f11,f12,f13,R,h,bK,Vr.row,Ud,V];rw [aj (n:=(i:Int)+1) ⟨by omega,by omega⟩];refine ⟨k- 1,by omega,A.trans m,i+1,by omega,M.symm,by simp,?_⟩;rw [ap1];simp [dY,aqa,hy,List.foldl_append]
 have ht:p.vars.take i=p.vars:=apN (by omega);rw [ht]at R
 obtain ⟨F,hF⟩:∃F,jS p t=F:=⟨_,rfl⟩
 rw [hF];have YI:=e0;have B:=e1;rw [nG]at YI;rw [Fj]at B
 have DF:¬ ((t.store.length:Int)=dY (p.vars.map (·.cells))∧(t.bz.length:Int)≤16∧∀a∈t.store++t.bz,isWord p.w a=true)→F=false:=by
  intro q;rw [aqj,←hF];intro h;apply q;simp only [jS,ch,apJ,apS,apW]at h;refine ⟨h.1.1,by omega,fun a f=>?_⟩;rcases ap0.1 f with f|f
  ·exact h.1.2 a f
  ·exact h.2.2 a f
 by_cases I:(t.store.length:Int)=dY (p.vars.map (·.cells))
 case neg=>
  have u:F=false:=DF (fun q=>I q.1);simp (maxSteps:=9^7)-implicitDefEqProofs+contextual [-X.ev,l,f3,f11,f12,f13,R,h,YI,B,I,u,C]
 by_cases k2:(16:Int)<t.bz.length
 case pos=>
  have u:F=false:=DF (fun q=>by have:=q.2.1;omega);simp (maxSteps:=9^7)-implicitDefEqProofs+contextual [-X.ev,l,f3,f11,f12,f13,R,h,YI,B,I,k2,u,C]
 simp (maxSteps:=9^7)-implicitDefEqProofs+contextual [-X.ev,l,f3,f11,f12,f13,R,h,YI,B,I,k2];rw [nG]at ss;rw [Fj]at sp;apply ah
 ·(simp-implicitDefEqProofs [-X.ev];rfl)
 refine (kC kn (ss.ext C) (by omega)).mono ?_;rintro x G ⟨o4,m,k4⟩;have mK:=m.wf kn;have lE:=C.trans m;have q1:=aV.1 B;have V:=aV.1 (m.ld B);obtain ⟨s',H5,f,W,D,k5⟩:=oN (bytes:=8) mK o4 (sp.ext lE) (by simp [bC];omega) (by simp [bC];omega);have vu:Ext H H5:=C.trans (m.mod D k4);have rk:=D.wf mK;have W:da H5 1 s' (bC (t.store++t.bz)):=by rw [sx];exact W
 have hLl:((t.store++t.bz).length:Int)=t.store.length+t.bz.length:=by rw [apP];omega
 have s:∀(P:Int→Prop),(∀a∈t.store++t.bz,P a)→(∀a∈t.store,P a)∧∀a∈t.bz,P a:=fun P h=>⟨fun a f=>h a (by simp [f]),fun a f=>h a (by simp [f])⟩
 generalize t.store++t.bz=L at W DF hLl s;have i5:=W.ints;obtain ⟨as_,cs_,fS⟩:=i5.len;have nB:G.nx≤H5.nx:=D.nx
 have q3:H5.ldn ⟨j.nx,1,none⟩ 1=some [.slice a3 t.bz.length c3]:=D.ldn (a:=⟨j.nx,1,none⟩) (fun hb=>by
  have h1:=k4 _ hb
  have h2:=(AH.bk (aqi.1 (dF q1).1).choose_spec)
  dsimp only at h1 h2
  omega) V
 rw [fS]at f;simp (maxSteps:=9^7)-implicitDefEqProofs+contextual [-X.ev,f,aN,aD,aE,m.n0,m.nx,q1,V,q3,D.n0,nB]
 have RC:H5.ld ⟨H.nx,0,none⟩=some (.int .i64 p.w):=((A.trans (Ext.refl _)).trans (Ext.refl _)|>fun _=>(D.ld (a:=⟨H.nx,0,none⟩) (fun hb=>by
  have h1:=k4 _ hb
  have h2:=(AH.bk (aqi.1 (dF (aV.1 v)).1).choose_spec)
  dsimp only at h1 h2
  omega) (m.ld v)))
 have sh:=FF eh;have Rx:(L.length:Int)≤64:=by omega
 refine bZ (fun k g H'=>H'=H5∧∃i:Nat,i+k=L.length∧g.get 2= .pointer (some ⟨H.nx,0,none⟩)∧g.get 38=s'∧g.get 39= .int .i64 L.length∧g.get 40= .int .i64 i∧∀a∈L.take i,isWord p.w a=true) ?_ L.length ⟨rfl,0,by simp,by simp [l],by simp [fS],by simp,by simp,by simp⟩;rintro k' cB H' ⟨rfl,J,qG,l,f38,f39,f40,aH⟩;by_cases Q:J<L.length
 ·obtain ⟨n,hn⟩:∃n,L[J]?=some n:=⟨_,apG Q⟩
  obtain ⟨b,o,c',M,dP⟩:=i5.at hn;rw [M]at f38;have u:isWord p.w n=false→F=false:=fun z=>DF (fun q=>by have:=q.2.2 n (apL hn);rw [z]at this;cases this)
  rw [kD eh]at u;have wi:IntKind.i64.wrap ((J:Int)+1)=(J:Int)+1:=aj ⟨by omega,by omega⟩;by_cases U:n<0
  ·simp (maxSteps:=9^7)-implicitDefEqProofs+contextual [-X.ev,l,f38,f39,f40,Q,dP,RC,U,u,vu]
  by_cases z2:2^p.w.toNat≤n
  ·simp (maxSteps:=9^7)-implicitDefEqProofs+contextual [-X.ev,l,f38,f39,f40,Q,dP,RC,U,sh,z2,u,vu]
  simp (maxSteps:=9^7)-implicitDefEqProofs+contextual [-X.ev,l,f38,f39,f40,Q,dP,RC,U,sh,z2,wi];refine ⟨k'- 1,by omega,J+1,by omega,M.symm,by simp,fun z r=>?_⟩;rw [ap1,hn]at r;rcases ap0.1 r with r|r
  ·exact aH z r
  ·simp at r;subst r;rw [kD eh];simp [U,z2]
 ·have vj:F=true:=by
   rw [apN (by omega)]at aH;rw [←hF];simp only [jS,ch,apJ,apS,apW];exact ⟨⟨I,(s _ aH).1⟩,by omega,(s _ aH).2⟩
  simp (maxSteps:=9^7)-implicitDefEqProofs+contextual [-X.ev,l,f38,f39,f40,Q,vu,vj]
end
end Go.Proofs.YtppcmpmnglaleaaGreat.A
