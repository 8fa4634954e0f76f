/- Texts that stand one behind the other: S21, AbsQ, S22. -/
import Derived.Test.YtppcmpmnglaleaaGreatDoorG15
set_option linter.unusedVariables false
set_option linter.unusedSimpArgs false
set_option maxRecDepth 10000
namespace Go.Proofs.YtppcmpmnglaleaaGreatDoor.A
section
open Go
def kK (w:Int) (V:List Vr) (l:List bE) (deep nodes:Int):Bool:=decide (nodes+au l≤400)&&(decide (deep+a8 l 0≤17)&&fA w V l)
theorem jS {w:Int} {V:List Vr} {l:List bE} {deep nodes:Int}:kK w V l deep nodes=true↔nodes+au l≤400∧deep+a8 l 0≤17∧fA w V l=true:=by simp [kK]
theorem Lg {w:Int} {V:List Vr} (h:aA w V=true) (e:bV):vd w V 1 e=if fX w V 1 e=true then 0 else 20:=by simp [vd,h]
theorem GC {w:Int} {vv vb:Value} {V:List Vr} (hV:aA w V=true) (qg:nj V):∀(N:Nat) (l:List bE) (vl:Value) (rows:List (List Value)) (G H:AH) (deep stmts nodes:Int) (b:Nat),SizeOf.sizeOf l<N→H.n0≤H.nx→Ext G H→G.nx≤b→de G vv V→l.length<2^60→Rows G 5 vl rows→gE G rows l→
 H.get b=some (.cells 2 [.int .i64 stmts,.int .i64 nodes])→H.n0≤b→0≤stmts∧stmts≤nodes→nodes≤2000→1≤deep∧deep≤17→
 Ca E O 97 [.pointer (some ⟨b,0,none⟩),.agg #[.int .i64 w,vv,vb],vl,.int .i64 deep] H (fun x H'=>x= .bool (kK w V l deep nodes)∧Mod (fun x=>x=b) H H'∧∃C B,H'.get b=some (.cells 2 [.int .i64 C,.int .i64 B])∧(kK w V l deep nodes=true→C=stmts+aC l∧B=nodes+au l)):=by
 intro N
 induction N with
 |zero=>intro l vl rows G H deep stmts nodes b h;omega
 |succ N ih=>
  intro l vl rows G H deep stmts nodes b hN K GX gb hv hlen hr hl hb xA fy rO VE;have hbH:=AH.aQ hb;refine Ca.aV (F:=NM) rfl rfl rfl ?_
  obtain ⟨F,hF⟩:∃F,kK w V l deep nodes=F:=⟨_,rfl⟩
  rw [hF]
  have U:¬ (nodes+au l≤400∧deep+a8 l 0≤17∧fA w V l=true)→F=false:=by
   intro q;rw [arA,←hF];exact fun h=>q (jS.1 h)
  have X1:=Ext.alloc H (.cells 3 [.int .i64 w,vv,vb]);have d0:(H.alloc (.cells 3 [.int .i64 w,vv,vb])).ld ⟨H.nx,0,none⟩=some (.int .i64 w):=aj K rfl;have d1:(H.alloc (.cells 3 [.int .i64 w,vv,vb])).ld ⟨H.nx,1,none⟩=some vv:=aj K rfl;have d2:(H.alloc (.cells 3 [.int .i64 w,vv,vb])).ld ⟨H.nx,2,none⟩=some vb:=aj K rfl;have d:(H.alloc (.cells 3 [.int .i64 w,vv,vb])).ldn ⟨H.nx,0,none⟩ 3=some [.int .i64 w,vv,vb]:=a7 K 3 rfl;generalize cz:H.alloc (.cells 3 [.int .i64 w,vv,vb])=H1 at X1 d0 d1 d2 d;have bo:=X1.wf K;have gb1:=X1.get hb
  have Jq:∃C B:Int,H1.get b=some (.cells 2 [.int .i64 C,.int .i64 B]):=⟨_,_,gb1⟩
  have kb:H1.n0≤b:=by rw [X1.n0];exact xA
  have GX1:=GX.trans X1;have J:¬ H.nx=b:=by omega
  obtain ⟨a0,c0,lY⟩:=hr.len;rw [hl.length]at lY;have MX1:Mod (fun x=>x=b) H H1:=Mod.bN X1;by_cases z0:0<l.length∧16<deep
  case pos=>
   obtain ⟨z1,z2⟩:=z0
   have T:F=false:=U (by
    rintro ⟨_,q,_⟩
    obtain ⟨⟨op,n,args,g,s⟩,P⟩:∃y,l[0]?=some y:=⟨_,aqU z1⟩
    have:=km (k:=0) (aqZ P);have:=(kf g 0 (by omega)).1
    omega)
   simp (maxSteps:=9^7)-implicitDefEqProofs+contextual [-X.ev,NM,lY,cz,z1,z2,T,Jq,MX1]
  refine sg [.r,.r] (fun f H'=>H'=H1∧f.get 0= .pointer (some ⟨b,0,none⟩)∧f.get 2= .slice a0 l.length c0∧f.get 3= .int .i64 deep∧f.get 5= .pointer (some ⟨H.nx,0,none⟩)) rfl ?_ ?_
  case refine_2=>
   intro rest cF;simp only [NM,zO,zN]at cF;by_cases z1:0<l.length
   ·have z2:¬ 16<deep:=fun q=>z0 ⟨z1,q⟩
    simp (maxSteps:=9^7)-implicitDefEqProofs+contextual [-X.ev,NM,lY,cz,z1,z2,cF]
   ·simp (maxSteps:=9^7)-implicitDefEqProofs+contextual [-X.ev,NM,lY,cz,z1,cF]
  rintro f H' ⟨rfl,v,f2,u,t⟩;have gp:=bq l;simp (maxSteps:=9^7)-implicitDefEqProofs+contextual [-X.ev,NM,v,f2,u,t]
  refine ch (fun j f H2=>Mod (fun x=>x=b) H' H2∧∃i:Nat,i+j=l.length∧f.get 0= .pointer (some ⟨b,0,none⟩)∧f.get 3= .int .i64 deep∧f.get 5= .pointer (some ⟨H.nx,0,none⟩)∧f.get 20=vl∧f.get 21= .int .i64 l.length∧f.get 22= .int .i64 i∧
   H2.get b=some (.cells 2 [.int .i64 (stmts+aC (l.take i)),.int .i64 (nodes+au (l.take i))])∧nodes+au (l.take i)≤2000∧(0<i→nodes+au (l.take i)≤400)∧
   ∀op n args g s,bE.mk op n args g s∈l.take i→(deep+1+a8 g 0≤17∧deep+1+a8 s 0≤17)∧dY w V (.mk op n args g s)=true) ?_ l.length ⟨Mod.refl _ _,0,by simp,by simp [v],by simp [u],by simp [t],by simp [lY],by simp,by simp,by simpa [aC,au]using gb1,by simp [au];omega,by simp,by simp⟩
  rintro j f H2 ⟨Z,i,hi,v,u,t,f20,f21,f22,NW,hle,aeA,aH⟩;have M02:=MX1.trans Z;have jB:=Z.wf bo;have GX2:Ext G H2:=GX.mod M02 (by rintro x rfl;exact gb);have gT:H2.n0≤b:=by rw [Z.n0];exact kb
  have D0:=Z.ld (a:=⟨H.nx,0,none⟩) J d0;have D1:=Z.ld (a:=⟨H.nx,1,none⟩) J d1;have D:=Z.ldn (a:=⟨H.nx,0,none⟩) J d;by_cases h:i<l.length
  case neg=>
   have ht:l.take i=l:=aq1 (by omega);rw [ht]at aeA aH NW hle
   have S:F=decide (nodes+au l≤400):=by
    have p1:=Dy (l:=l) (k:=0) (m:=17- deep) (by omega) fun op n args g s hm=>by have:=(aH op n args g s hm).1;omega
    have p2:decide (deep+a8 l 0≤17)=true:=by simp;omega
    have p3:fA w V l=true:=jQ.2 fun e he=>by obtain ⟨op,n,args,g,s⟩:=e;exact (aH op n args g s he).2
    rw [←hF,kK,p2,p3];simp
   have l2:=aG NW gT (k:=1) rfl;simp (maxSteps:=9^7)-implicitDefEqProofs+contextual [-X.ev,v,u,t,f20,f21,f22,h,l2];exact ⟨S.symm,M02,_,_,NW,fun _=>⟨rfl,rfl⟩⟩
  obtain ⟨⟨op,n,args,g,s⟩,P⟩:∃y,l[i]?=some y:=⟨_,aqU h⟩
  have hs:=ot P;have oA:=aqZ P;have t1:=eE P;have t2:=jn P;have t3:=gp (i+1);have t4:=dj l i;have t5:=gp i;rw [bg]at t1;rw [aY]at t2;have u1:=a6 args;have u2:=cT g;have u3:=cT s;have u4:=aP g;have u5:=aP s;obtain ⟨b2,o2,c2,va,vt,ve,ra,rt,re,cD,bC,_,_,_,_,_,i1,o,i3,i4,i5,g1,g2,g3,g4,g5,g6⟩:=gE.row hr hl P;replace bC:=GX2.ldn bC;rw [cD]at f20;obtain ⟨aa,ca,fW⟩:=g1.len;obtain ⟨at_,ct,wB⟩:=g3.len;obtain ⟨ae,ce,tz⟩:=g5.len;rw [g2.length]at fW;rw [g4.length]at wB;rw [g6.length]at tz
  obtain ⟨nt,R⟩:∃nt,g.length=nt:=⟨_,rfl⟩
  obtain ⟨ne_,fm⟩:∃nt,s.length=nt:=⟨_,rfl⟩
  rw [R]at wB;rw [fm]at tz
  have YB:deep≤16:=by
   rcases Int.lt_or_le 16 deep with q|q
   ·exact absurd ⟨by omega,q⟩ z0
   ·exact q
  have lv:fA w V l=true→dY w V (.mk op n args g s)=true:=fun q=>jQ.1 q _ oA
  rw [dY,ua hV,R,fm]at lv;obtain ⟨H3,EI,X3,Gu,Gv,q,kV⟩:=dQ (H:=H2) jB (z:=5) (c:=[.int .i64 0,.int .i64 0,.slice none 0 0,.slice none 0 0,.slice none 0 0]) (vs:=[.int .i64 op,.int .i64 n,va,vt,ve]) rfl;have q0:H3.ld ⟨H2.nx,0,none⟩=some (.int .i64 op):=kV 0 _ rfl;have q1:H3.ld ⟨H2.nx,1,none⟩=some (.int .i64 n):=kV 1 _ rfl;have q2:H3.ld ⟨H2.nx,2,none⟩=some va:=kV 2 _ rfl;have q3:H3.ld ⟨H2.nx,3,none⟩=some vt:=kV 3 _ rfl;have q4:H3.ld ⟨H2.nx,4,none⟩=some ve:=kV 4 _ rfl;clear kV;replace q:H3.ldn ⟨H2.nx,0,none⟩ 5=some [.int .i64 op,.int .i64 n,va,vt,ve]:=q;have xy:=X3.wf jB;have Ld:=X3.get NW;have tm:H3.n0≤b:=by rw [X3.n0];exact gT
  have M:¬ H2.nx=b:=by have:=AH.aQ NW;omega
  obtain ⟨H4,s4,M4,yW,nm,Qs⟩:=bH Ld tm (k:=0) (vs:=[.int .i64 (stmts+aC (l.take i)+1)]) (by simp);have Qs:H4.get b=some (.cells 2 [.int .i64 (stmts+aC (l.take i)+1),.int .i64 (nodes+au (l.take i))]):=Qs;have ma:H4.n0≤b:=by rw [nm];exact tm
  obtain ⟨H5,s5,M5,NY,xB,Jx⟩:=bH Qs ma (k:=1) (vs:=[.int .i64 (nodes+au (l.take i)+1)]) (by simp);have Jx:H5.get b=some (.cells 2 [.int .i64 (stmts+aC (l.take i)+1),.int .i64 (nodes+au (l.take i)+1)]):=Jx;have wC:H5.n0≤b:=by rw [xB];exact ma
  have Tp:=M4.trans M5;have NZ:=(Mod.bN X3).trans Tp;have NX:=M02.trans NZ;have VH:Ext G H5:=GX.mod NX (by rintro x rfl;exact gb);have qt:=NX.wf K;have l3:=aG Ld tm (k:=0) rfl;have l4:=aG Qs ma (k:=1) rfl;have l5:=aG Jx wC (k:=1) rfl;have Q:=Tp.ldn (a:=⟨H2.nx,0,none⟩) M q;have Q0:=Tp.ld (a:=⟨H2.nx,0,none⟩) M q0;have Q2:=Tp.ld (a:=⟨H2.nx,2,none⟩) M q2;have Q3:=Tp.ld (a:=⟨H2.nx,3,none⟩) M q3;have Q4:=Tp.ld (a:=⟨H2.nx,4,none⟩) M q4;replace D0:=NZ.ld (a:=⟨H.nx,0,none⟩) J D0;replace D1:=NZ.ld (a:=⟨H.nx,1,none⟩) J D1;replace D:=NZ.ldn (a:=⟨H.nx,0,none⟩) J D
  have ex5:∃C B:Int,H5.get b=some (.cells 2 [.int .i64 C,.int .i64 B]):=⟨_,_,Jx⟩
  have w1:IntKind.i64.wrap (stmts+aC (l.take i)+1)=stmts+aC (l.take i)+1:=ai ⟨by omega,by omega⟩;have w2:IntKind.i64.wrap (nodes+au (l.take i)+1)=nodes+au (l.take i)+1:=ai ⟨by omega,by omega⟩;have ZR:=Q2;rw [fW]at ZR;by_cases k1:400<nodes+au (l.take i)+1
  ·have T:F=false:=U (by rintro ⟨q,_⟩;omega)
   simp (maxSteps:=9^7)-implicitDefEqProofs+contextual [-X.ev,v,u,t,f20,f21,f22,h,bC,EI,l3,s4,w1,l4,s5,w2,l5,k1,T,bh,aL,aM,ex5,NX]
  simp (maxSteps:=9^7)-implicitDefEqProofs+contextual [-X.ev,v,u,t,f20,f21,f22,h,bC,EI,l3,s4,w1,l4,s5,w2,l5,k1,D,Q,ZR];apply ah
  ·(simp-implicitDefEqProofs [-X.ev];rfl)
  refine (GA qt (hv.ext VH)).mono ?_;rintro x H6 ⟨rfl,A⟩;have Dz:=A.wf qt;have GX6:=VH.trans A;have M06:=NX.trans (Mod.bN A);have gb6:=A.get Jx;have Gy:H6.n0≤b:=by rw [A.n0];exact wC
  have ex6:∃C B:Int,H6.get b=some (.cells 2 [.int .i64 C,.int .i64 B]):=⟨_,_,gb6⟩
  have r0:=A.ld Q0;have r2:=A.ld Q2;have r3:=A.ld Q3;have r4:=A.ld Q4;replace D0:=A.ld D0;replace D1:=A.ld D1;replace D:=A.ldn D;have Q2n:=bf.1 ZR;have r2n:=bf.1 (A.ld ZR);by_cases k2:mN V op n=args.length
  case neg=>
   have T:F=false:=U (by rintro ⟨_,_,q⟩;have:=lv q;simp [k2]at this);simp (maxSteps:=9^7)-implicitDefEqProofs+contextual [-X.ev,k2,T,bh,aL,aM,ex6,M06,Q2n,r2n,A.n0,A.nx]
  have T:sj op nt ne_=false→F=false:=fun z=>U (by rintro ⟨_,_,q⟩;have:=lv q;simp [z]at this)
  refine VA 1 [.r] (fun f H'=>H'=H6∧sj op nt ne_=true∧f.get 0= .pointer (some ⟨b,0,none⟩)∧f.get 3= .int .i64 deep∧f.get 5= .pointer (some ⟨H.nx,0,none⟩)∧f.get 10= .pointer (some ⟨H2.nx,0,none⟩)∧f.get 20= .slice (some ⟨b2,o2,none⟩) l.length c2∧f.get 21= .int .i64 l.length∧f.get 22= .int .i64 i) rfl ?_ ?_
  case refine_2=>
   intro rest cF;rw [wB]at r3;rw [tz]at r4;simp only [xq,zO,zN]at cF;simp (maxSteps:=9^7)-implicitDefEqProofs+contextual [-X.ev,u6,sj,k2,T,bh,aL,aM,ex6,M06,Q2n,r2n,A.n0,A.nx,r0,r3,r4,cF,v,u,t,f20,f21,f22]
  simp only [xq,zO,zN,Br,K9,K8];rintro bP H' ⟨rfl,k3,v,u,t,f10,f20,f21,f22⟩;rw [fW]at r2;simp (maxSteps:=9^7)-implicitDefEqProofs+contextual [-X.ev,v,u,t,f10,f20,f21,f22,r2]
  refine ch (fun j2 f H7=>Mod (fun x=>x=b) H' H7∧∃o:Nat,o+j2=args.length∧f.get 0= .pointer (some ⟨b,0,none⟩)∧f.get 3= .int .i64 deep∧f.get 5= .pointer (some ⟨H.nx,0,none⟩)∧f.get 10= .pointer (some ⟨H2.nx,0,none⟩)∧f.get 20= .slice (some ⟨b2,o2,none⟩) l.length c2∧f.get 21= .int .i64 l.length∧f.get 22= .int .i64 i∧
   f.get 80=va∧f.get 81= .int .i64 args.length∧f.get 82= .int .i64 o∧
   H7.get b=some (.cells 2 [.int .i64 (stmts+aC (l.take i)+1),.int .i64 (nodes+au (l.take i)+1+aq (args.take o))])∧aq (args.take o)≤400*o∧
   ∀e∈args.take o,fX w V 1 e=true) ?_ args.length ⟨Mod.refl _ _,0,by simp,by simp [v],by simp [u],by simp [t],by simp [f10],by simp [f20],by simp [f21],by simp [f22],by simp [fW],by simp,by simp,by simpa [aq]using gb6,by simp [aq],by simp⟩
  rintro j2 f H7 ⟨L,o,DA,v,u,t,f10,f20,f21,f22,f80,f81,f82,Tn,aeE,GD⟩;have ZS:=M06.trans L;have Tq:=ZS.wf K;have GX7:Ext G H7:=GX.mod ZS (by rintro x rfl;exact gb);have GF:H7.n0≤b:=by rw [L.n0];exact Gy
  have T9:(args.length:Int)≤2:=by rw [←k2];exact GB V op n
  have D0':=L.ld (a:=⟨H.nx,0,none⟩) J D0;have D1':=L.ld (a:=⟨H.nx,1,none⟩) J D1;have D':=L.ldn (a:=⟨H.nx,0,none⟩) J D;by_cases h2:o<args.length
  ·obtain ⟨y,zo⟩:∃y,args[o]?=some y:=⟨_,aqU h2⟩
   obtain ⟨b3,o3,c3,va3,r,Np,GG,rfl,lW⟩:=fU.row g1 g2 zo;replace GG:=GX7.ldn GG;rw [Np]at f80;obtain ⟨H8,sH8,Y,amq,aeJ,p,VJ⟩:=dQ (H:=H7) Tq (z:=4) (c:=[.int .i64 0,.int .i64 0,.int .i64 0,.slice none 0 0]) (vs:=[.int .i64 y.op,.int .i64 y.n,.int .i64 y.cp,va3]) rfl;have p0:H8.ld ⟨H7.nx,0,none⟩=some (.int .i64 y.op):=VJ 0 _ rfl;have p1:H8.ld ⟨H7.nx,1,none⟩=some (.int .i64 y.n):=VJ 1 _ rfl;have p2:H8.ld ⟨H7.nx,2,none⟩=some (.int .i64 y.cp):=VJ 2 _ rfl;have p3:H8.ld ⟨H7.nx,3,none⟩=some va3:=VJ 3 _ rfl;clear VJ;replace p:H8.ldn ⟨H7.nx,0,none⟩ 4=some [.int .i64 y.op,.int .i64 y.n,.int .i64 y.cp,va3]:=p;have aeK:=Y.wf Tq;replace D0':=Y.ld D0';replace D1':=Y.ld D1';have VK:=GX7.trans Y;have ZT:=Y.get Tn;simp (maxSteps:=9^7)-implicitDefEqProofs+contextual [-X.ev,v,u,t,f10,f20,f21,f22,f80,f81,f82,h2,GG,sH8,D0',D1',p];apply ah
   ·(simp-implicitDefEqProofs [-X.ev];rfl)
   refine (Dx (k:=1) aeK (hv.ext VK) qg (lW.ext VK)).mono ?_;rintro x H9 ⟨rfl,X9⟩;rw [Lg hV];have ZU:=ZS.trans ((Mod.bN Y).trans (Mod.bN X9));have Tr:=X9.get ZT
   have W:∃C B:Int,H9.get b=some (.cells 2 [.int .i64 C,.int .i64 B]):=⟨_,_,Tr⟩
   cases k4:fX w V 1 y with
   |false=>
    have S:F=false:=U (by
     rintro ⟨_,_,q⟩;have:=lv q;simp only [aqX,ara]at this;have:=this.2.2.2 y (aqZ zo)
     rw [k4]at this;cases this)
    simp (maxSteps:=9^7)-implicitDefEqProofs+contextual [-X.ev,k4,S,W,ZU]
   |true=>
    have hb9:H9.n0≤b:=by rw [X9.n0,aeJ];exact GF
    have l9:=aG Tr hb9 (k:=1) rfl;have l9n:=bf.1 l9;have ams:av y≤400:=by simp [fX]at k4;exact k4.1
    have amt:=dR y;replace p:=X9.ldn p;have hw9:=ZU.wf K;have GX9:=VK.trans X9;simp (maxSteps:=9^7)-implicitDefEqProofs+contextual [-X.ev,k4,v,u,t,f10,f20,f21,f22,f80,f81,f82,l9,p];apply ah
    ·(simp-implicitDefEqProofs [-X.ev];rfl)
    refine (tY _ y _ H9 (aq9 _) hw9 (lW.ext GX9) (by omega)).mono ?_;rintro x yX ⟨rfl,VM⟩;have VN:=VM.get Tr;have VP:yX.n0≤b:=by rw [VM.n0];exact hb9
    have s1:=gK zo;have aeN:=bf.1 (aG VN VP (k:=1) rfl);obtain ⟨ZV,s11,ZW,VQ,VR,Qv⟩:=bH VN VP (k:=1) (vs:=[.int .i64 (nodes+au (l.take i)+1+aq (args.take o)+av y)]) (by simp);have Qv:ZV.get b=some (.cells 2 [.int .i64 (stmts+aC (l.take i)+1),.int .i64 (nodes+au (l.take i)+1+aq (args.take o)+av y)]):=Qv;have s2:=bY args o;have wr:IntKind.i64.wrap (nodes+au (l.take i)+1+aq (args.take o)+av y)=nodes+au (l.take i)+1+aq (args.take o)+av y:=ai ⟨by omega,by omega⟩;have wi:IntKind.i64.wrap ((o:Int)+1)=(o:Int)+1:=ai ⟨by omega,by omega⟩;simp (maxSteps:=9^7)-implicitDefEqProofs+contextual [-X.ev,v,u,t,f10,f20,f21,f22,f80,f81,f82,wr,s11,bh,aL,aM,l9n,aeN,VM.n0,VM.nx,VR,VQ,wi];refine ⟨j2- 1,by omega,L.trans ((Mod.bN (Y.trans (X9.trans VM))).trans ZW),o+1,by omega,Np.symm,by simp,?_,by omega,fun z I=>?_⟩
    ·rw [Qv,s1]
     rw [show nodes+au (l.take i)+1+aq (args.take o)+av y=nodes+au (l.take i)+1+(aq (args.take o)+av y) by omega]
    ·rw [arf,zo]at I
     rcases are.1 I with I|I
     ·exact GD z I
     ·simp at I;subst I;exact k4
  ·have ht:args.take o=args:=aq1 (by omega)
   rw [ht]at aeE GD Tn;have GF:=GF;have q3':=L.ld (a:=⟨H2.nx,3,none⟩) M r3;have q4':=L.ld (a:=⟨H2.nx,4,none⟩) M r4;have wd:IntKind.i64.wrap (deep+1)=deep+1:=ai ⟨by omega,by omega⟩;simp (maxSteps:=9^7)-implicitDefEqProofs+contextual [-X.ev,v,u,t,f10,f20,f21,f22,f80,f81,f82,h2,D',q3',wd];have ka:aq args≤800:=by omega
   apply ah
   ·(simp-implicitDefEqProofs [-X.ev];rfl)
   refine (ih g vt rt G H7 (deep+1) (stmts+aC (l.take i)+1) (nodes+au (l.take i)+1+aq args) b (by omega) Tq GX7 gb hv i4 g3 g4 Tn GF (by omega) (by omega) (by omega)).mono ?_;rintro x H8 ⟨rfl,M8,C,B,ZT,hl8⟩;have ZX:=ZS.trans M8
   have ex8:∃C B:Int,H8.get b=some (.cells 2 [.int .i64 C,.int .i64 B]):=⟨_,_,ZT⟩
   cases k5:kK w V g (deep+1) (nodes+au (l.take i)+1+aq args)with
   |false=>
    have S:F=false:=U (by
     rintro ⟨q1,q2,q⟩;have:=lv q;simp only [aqX]at this;have r1:=this.2.1;have r2:=km (k:=0) oA;have:kK w V g (deep+1) (nodes+au (l.take i)+1+aq args)=true:=jS.2 ⟨by omega,by omega,r1⟩
     rw [k5]at this;cases this)
    simp (maxSteps:=9^7)-implicitDefEqProofs+contextual [-X.ev,v,u,t,S,ex8,ZX]
   |true=>
    obtain ⟨rfl,rfl⟩:=hl8 k5;have k5':=jS.1 k5;have fD:=ZX.wf K;have VK:Ext G H8:=GX.mod ZX (by rintro x rfl;exact gb);have VS:H8.n0≤b:=by rw [M8.n0];exact GF
    have D8:=M8.ldn (a:=⟨H.nx,0,none⟩) J D';have q48:=M8.ld (a:=⟨H2.nx,4,none⟩) M q4';simp (maxSteps:=9^7)-implicitDefEqProofs+contextual [-X.ev,v,u,t,f10,f20,f21,f22,D8,q48,wd];apply ah
    ·(simp-implicitDefEqProofs [-X.ev];rfl)
    refine (ih s ve re G H8 (deep+1) (stmts+aC (l.take i)+1+aC g) (nodes+au (l.take i)+1+aq args+au g) b (by omega) fD VK gb hv i5 g5 g6 ZT VS (by omega) (by omega) (by omega)).mono ?_;rintro x H9 ⟨rfl,M9,C,B,Tr,hl9⟩;have ZU:=ZX.trans M9
    have W:∃C B:Int,H9.get b=some (.cells 2 [.int .i64 C,.int .i64 B]):=⟨_,_,Tr⟩
    cases k6:kK w V s (deep+1) (nodes+au (l.take i)+1+aq args+au g)with
    |false=>
     have S:F=false:=U (by
      rintro ⟨q1,q2,q⟩;have:=lv q;simp only [aqX]at this;have r1:=this.2.2.1;have r2:=km (k:=0) oA;have:kK w V s (deep+1) (nodes+au (l.take i)+1+aq args+au g)=true:=jS.2 ⟨by omega,by omega,r1⟩
      rw [k6]at this;cases this)
     simp (maxSteps:=9^7)-implicitDefEqProofs+contextual [-X.ev,v,u,t,S,W,ZU]
    |true=>
     obtain ⟨rfl,rfl⟩:=hl9 k6;have k6':=jS.1 k6;have wi:IntKind.i64.wrap ((i:Int)+1)=(i:Int)+1:=ai ⟨by omega,by omega⟩;simp (maxSteps:=9^7)-implicitDefEqProofs+contextual [-X.ev,v,u,t,f10,f20,f21,f22,wi];refine ⟨j- 1,by omega,Z.trans (NZ.trans ((Mod.bN A).trans (L.trans (M8.trans M9)))),i+1,by omega,cD.symm,by simp,?_,by omega,fun _=>by omega,?_⟩
     ·rw [Tr,t1,t2]
      rw [show stmts+aC (l.take i)+1+aC g+aC s=stmts+(aC (l.take i)+(1+aC g+aC s)) by omega,show nodes+au (l.take i)+1+aq args+au g+au s=nodes+(au (l.take i)+(1+aq args+au g+au s)) by omega]
     ·intro op' B NN Ve Vf I
      rw [arf,P]at I;rcases are.1 I with I|I
      ·exact aH _ _ _ _ _ I
      ·simp only [Option.toList_some,List.mem_singleton]at I
       cases I;refine ⟨⟨by omega,by omega⟩,?_⟩;rw [dY,ua hV,R,fm];simp only [k2,k3,k5'.2.2,k6'.2.2,decide_true,Bool.true_and,ara];exact GD
open Go
theorem mO {c:Nat}:∀{a b x y:List Value},aK c a=some x→aK c b=some y→aK c (a++b)=some (x++y)
 |[],b,x,y,h,k=>by simp [aK]at h;subst h;simpa using k
 |v::a,b,x,y,h,k=>by
  simp only [aK]at h;split at h
  case h_2=>cases h
  rename_i z m d e;cases h;have:=mO e k;simp only [List.cons_append,aK,d,this]
theorem zT {H:AH} {b o n m:Nat} {x y:List Value} (h:H.ldn ⟨b,o,none⟩ n=some x) (k:H.ldn ⟨b,o+n,none⟩ m=some y):H.ldn ⟨b,o,none⟩ (n+m)=some (x++y):=by
 unfold AH.ldn at h k⊢;dsimp only at h k⊢
 cases a:H.get b with
 |none=>simp [a]at h
 |some z=>
  cases z with
  |map es=>simp [a]at h
  |cells z c=>
   simp only [a]at h k⊢;obtain ⟨g,h⟩:=aw h;obtain ⟨f,k⟩:=aw k;simp only [aq6]at g f
   have e:(c.drop o).take (n+m)=(c.drop o).take n++(c.drop (o+n)).take m:=by
    rw [List.take_add,List.drop_drop]
   rw [show decide (o+(n+m)≤c.length)=true by simp;omega,cond_true,e]
   cases d:decide (b<H.n0)with
   |false=>
    rw [d]at h k;simp only [cond_false,aqV]at h k⊢;rw [h,k]
   |true=>
    rw [d]at h k;simp only [cond_true]at h k⊢;exact mO h k
theorem Rows.GH {H:AH} {sz:Nat} {v:Value} {rows:List (List Value)} (h:Rows H sz v rows):∀r∈rows,r.length=sz:=by
 intro r a;obtain ⟨i,hi,rfl⟩:=List.mem_iff_getElem.1 a;obtain ⟨b,o,c,e,d⟩:=h.at (aqU hi);exact (cW d).2
theorem bZ {sz:Nat}:∀{rows:List (List Value)},(∀r∈rows,r.length=sz)→rows.flatten.length=rows.length*sz
 |[],_=>by simp
 |r::rows,h=>by
  rw [List.flatten_cons,aq3,h r (by simp),bZ fun q a=>h q (by simp [a]),List.length_cons,Nat.succ_mul];omega
theorem Rows.whole {H:AH} {sz b o c:Nat} {rows:List (List Value)} (h:Rows H sz (.slice (some ⟨b,o,none⟩) rows.length c) rows):∀k,k≤rows.length→0<k→H.ldn ⟨b,o,none⟩ (k*sz)=some (rows.take k).flatten:=by
 intro k
 induction k with
 |zero=>intro _ h;omega
 |succ k ih=>
  intro g _;obtain ⟨l,f,j,e,a⟩:=h.at (i:=k) (aqU (by omega));cases e;rw [arf,aqU (by omega),List.flatten_append];by_cases d:k=0
  ·subst d
   simpa using a
  ·have:=zT (ih (by omega) (by omega)) a
   rw [show(k+1)*sz=k*sz+sz by rw [Nat.succ_mul],this];simp only [Option.toList_some,List.flatten_cons,List.flatten_nil,List.append_nil]
theorem Rows.src {H:AH} {sz:Nat} {v:Value} {rows:List (List Value)} (h:Rows H sz v rows):pq H sz v=some rows.flatten∧mA v=some rows.length:=by
 obtain ⟨a,c,rfl,k⟩:=h.is;refine ⟨?_,rfl⟩
 by_cases e:rows=[]
 ·subst e
  cases a<;>simp [pq]
 ·have d:0<rows.length:=List.length_pos_iff.2 e
  obtain ⟨b,o,rfl,h2⟩:=k 0 _ (aqU d);have:=Rows.whole (H:=H) (sz:=sz) (b:=b) (o:=o) (c:=c) (rows:=rows) ⟨_,_,rfl,k⟩ rows.length (aqY _) d;simp only [pq,nb];rw [show decide (rows.length=0)=false by simp [e],cond_false,this,List.take_length]
structure dE (H:AH) (sz:Nat) (v:Value) (rows:List (List Value)):Prop where
 is:(v= .slice none 0 0∧rows=[])∨∃b,v= .slice (some ⟨b,0,none⟩) rows.length rows.length∧H.n0≤b∧H.get b=some (.cells sz rows.flatten)
 len:∀r∈rows,r.length=sz
def aS (v:Value) (b:Nat):Prop:=∃o n c,v= .slice (some ⟨b,o,none⟩) n c
theorem ba (b b' o n c:Nat):aS (.slice (some ⟨b,o,none⟩) n c) b'↔b'=b:=by
 unfold aS;constructor
 ·rintro ⟨a,d,f,e⟩;cases e;rfl
 ·rintro rfl;exact ⟨_,_,_,rfl⟩
theorem dG (b n c:Nat):¬ aS (.slice none n c) b:=by rintro ⟨_,_,_,e⟩;cases e
theorem dE.nil (H:AH) (sz:Nat):dE H sz (.slice none 0 0) []:=⟨.inl ⟨rfl,rfl⟩,by simp⟩
theorem dE.lt {H:AH} {sz b:Nat} {v:Value} {rows:List (List Value)} (h:dE H sz v rows) (a:aS v b):b<H.nx:=by
 rcases h.is with⟨rfl,_⟩|⟨d,rfl,_,c⟩
 ·exact absurd a (dG _ _ _)
 ·rw [(ba _ _ _ _ _).1 a];exact AH.aQ c
theorem dE.shape {H:AH} {sz:Nat} {v:Value} {rows:List (List Value)} (h:dE H sz v rows):∃a c,v= .slice a rows.length c:=by
 rcases h.is with⟨rfl,rfl⟩|⟨b,rfl,_⟩
 ·exact ⟨_,_,rfl⟩
 ·exact ⟨_,_,rfl⟩
theorem iu {sz:Nat}:∀{rows:List (List Value)} {i:Nat} {r:List Value},(∀r∈rows,r.length=sz)→rows[i]?=some r→((rows.flatten.drop (i*sz)).take sz)=r∧i*sz+sz≤rows.flatten.length
 |[],i,r,_,h=>by simp at h
 |x::rows,0,r,a,h=>by
  simp at h;subst h;have:=a x (by simp);simp [this]
 |x::rows,i+1,r,a,h=>by
  have b:=a x (by simp);have ih:=iu (fun q c=>a q (by simp [c])) (i:=i) (r:=r) (rows:=rows) (by simpa using h);rw [List.flatten_cons,Nat.succ_mul,aq3,b];refine ⟨?_,by omega⟩;rw [show i*sz+sz=x.length+i*sz by omega,←List.drop_drop,List.drop_left];exact ih.1
theorem dE.rows {H:AH} {sz:Nat} {v:Value} {rows:List (List Value)} (h:dE H sz v rows):Rows H sz v rows:=by
 rcases h.is with⟨rfl,rfl⟩|⟨b,rfl,c,a⟩
 ·exact ⟨_,_,rfl,by simp⟩
 ·refine ⟨_,_,rfl,fun i r hi=>⟨b,0,rfl,?_⟩⟩
  obtain ⟨e,d⟩:=iu h.len hi;rw [bB a c (by simpa using d)]
  simpa using e
theorem dE.mod {S:Nat→Prop} {H H':AH} {sz:Nat} {v:Value} {rows:List (List Value)} (h:dE H sz v rows) (M:Mod S H H') (a:∀b,aS v b→¬ S b):dE H' sz v rows:=by
 refine ⟨?_,h.len⟩;rcases h.is with⟨rfl,rfl⟩|⟨b,rfl,d,c⟩
 ·exact .inl ⟨rfl,rfl⟩
 ·exact .inr ⟨b,rfl,by rw [M.n0];exact d,M.get (a b ((ba _ _ _ _ _).2 rfl)) c⟩
theorem dE.ext {H H':AH} {sz:Nat} {v:Value} {rows:List (List Value)} (h:dE H sz v rows) (X:Ext H H'):dE H' sz v rows:=h.mod (Mod.bN (S:=fun _=>False) X) (by simp)
theorem sk {H:AH} {sz bytes:Nat} {s x:Value} {rows new:List (List Value)} (t:H.n0≤H.nx) (e:dE H sz s rows) (q:Rows H sz x new) (d:(rows.length+new.length)*bytes≤2^47) (m:rows.length+new.length<2^62):
 ∃i H',bc sz bytes H s x=some (i,H')∧dE H' sz i (rows++new)∧Mod (aS s) H H'∧(∀b,aS i b→aS s b∨H.nx≤b)∧(new≠[]→∀b,aS i b→H.nx≤b):=by
 obtain ⟨o,a⟩:=q.src;have v:=q.GH
 have u:∀r∈rows++new,r.length=sz:=by
  intro r A;rcases are.1 A with h|h
  ·exact e.len r h
  ·exact v r h
 by_cases f:new=[]
 ·subst f
  refine ⟨s,H,?_,by simpa using e,Mod.refl _ _,fun b d=>.inl d,fun h=>absurd rfl h⟩;rcases e.is with⟨rfl,rfl⟩|⟨b,rfl,n,k⟩
  ·simp [bc,a]
  ·simp [bc,a]
 have y:0<new.length:=List.length_pos_iff.2 f;have p:¬ new.length=0:=by omega
 have D:new.flatten.length=new.length*sz:=bZ v
 by_cases j:rows=[]
 ·subst j
  simp only [List.length_nil,Nat.zero_add]at d m;refine ⟨.slice (some ⟨H.nx,0,none⟩) new.length new.length,H.alloc (.cells sz new.flatten),?_,⟨.inr ⟨H.nx,rfl,t,cg _ _⟩,u⟩,Mod.bN (Ext.alloc _ _),fun b d=>.inr (by rw [(ba _ _ _ _ _).1 d];exact aqY _),fun _ b d=>by rw [(ba _ _ _ _ _).1 d];exact aqY _⟩;rcases e.is with⟨rfl,_⟩|⟨b,rfl,n,k⟩
  ·simp [bc,a,o,p,f,d,m,nb]
  ·simp [bc,a,o,p,f,d,m,nb]
 have w:0<rows.length:=List.length_pos_iff.2 j;rcases e.is with⟨rfl,h⟩|⟨b,rfl,n,k⟩
 ·exact absurd h j
 have g:H.ldn ⟨b,0,none⟩ (rows.length*sz)=some rows.flatten:=by
  have:=bZ e.len;rw [bB k n (by omega),←this];simp only [List.drop_zero,List.take_length]
 have z:H.j9 b sz=true:=by simp [AH.j9,k]
 have C:¬ rows.length+new.length≤rows.length:=by omega
 have B:¬ rows.length=0:=by omega
 refine ⟨.slice (some ⟨H.nx,0,none⟩) (rows++new).length (rows++new).length,(H.put b none).alloc (.cells sz (rows++new).flatten),?_,⟨.inr ⟨H.nx,rfl,t,?_⟩,u⟩,⟨rfl,arn _,fun c l e=>?_⟩,fun c l=>.inr (by rw [(ba _ _ _ _ _).1 l];exact aqY _),fun _ c l=>by rw [(ba _ _ _ _ _).1 l];exact aqY _⟩
 ·simp [bc,a,o,p,f,j,d,m,C,B,n,z,g]
 ·exact cg (H.put b none) _
 ·rw [ba]at e
  rw [AH.dx,if_neg (by rw [AH.ER];omega),AH.rq,if_neg e]
theorem Bx {H:AH} {sz bytes:Nat} {s x:Value} {rows new:List (List Value)} (g:H.n0≤H.nx) (h:dE H sz s rows) (f:Rows H sz x new) (i:(rows.length+new.length)*bytes≤2^47) (j:rows.length+new.length<2^62):
 ∃e H',bc sz bytes H s x=some (e,H')∧dE H' sz e (rows++new)∧Mod (aS s) H H'∧∀b,aS e b→aS s b∨H.nx≤b:=by
 obtain ⟨e,H',a,b,c,d,_⟩:=sk g h f i j;exact ⟨e,H',a,b,c,d⟩
theorem gq (z c:List Value) (h:c.length=z.length):aI z 0 c=c:=by
 have:aI z 0 c=c++z.drop c.length:=by cases z<;>rfl
 rw [this,List.drop_eq_nil_of_le (by omega)];simp
theorem xD {sz:Nat} {z:List Value} {H:AH} {v:Value} (b:(aR v).length=sz) (c:cw v=false) (a:z.length=sz):
 mB 1 sz z H [(0,sz,v)]=some (.slice (some ⟨H.nx,0,none⟩) 1 1,H.alloc (.cells sz (aR v))):=by
 simp only [mB,iG,nb,b,a,c,Nat.zero_add,decide_true,aqY,Bool.not_false,Bool.and_self,cond_true];rw [gq _ _ (by omega)];rfl
theorem jT {H H1:AH} {sz bytes:Nat} {s:Value} {rows:List (List Value)} {r:List Value} (d:H.n0≤H.nx) (h:dE H sz s rows) (j:r.length=sz) (m:H.alloc (.cells sz r)=H1) (f:(rows.length+1)*bytes≤2^47) (l:rows.length+1<2^62):
 ∃a H',bc sz bytes H1 s (.slice (some ⟨H.nx,0,none⟩) 1 1)=some (a,H')∧dE H' sz a (rows++[r])∧Mod (aS s) H H'∧(∀b,aS a b→H.nx≤b)∧H'.n0=H.n0∧H.nx≤H'.nx∧H'.n0≤H'.nx∧H1.n0=H.n0∧H.nx≤H1.nx∧H1.nx≤H'.nx:=by
 subst m;have X:=Ext.alloc H (.cells sz r)
 have g:Rows (H.alloc (.cells sz r)) sz (.slice (some ⟨H.nx,0,none⟩) 1 1) [r]:=⟨_,_,rfl,fun i q hi=>by
  cases i with
  |zero=>
   simp at hi;subst hi;refine ⟨H.nx,0,rfl,?_⟩;have:=qX d sz r;rw [j]at this
   simpa using this
  |succ i=>simp at hi⟩
 obtain ⟨a,H',e,o,M,_,k⟩:=sk (bytes:=bytes) (X.wf d) (h.ext X) g f l;have c:Mod (aS s) H H':=(Mod.bN X).trans M;exact ⟨a,H',e,o,c,fun b f=>arh X.nx (k (by simp) b f),c.n0,c.nx,c.wf d,X.n0,X.nx,M.nx⟩
structure Sub (G H:AH):Prop where
 n0:H.n0=G.n0
 nx:G.nx≤H.nx
 get:∀b x,G.get b=some x→H.get b=some x
theorem Sub.bN {G H:AH} (h:Ext G H):Sub G H:=⟨h.n0,h.nx,fun b x k=>h.get k⟩
theorem Sub.trans {a b c:AH} (h:Sub a b) (k:Sub b c):Sub a c:=⟨k.n0.trans h.n0,arh h.nx k.nx,fun x y e=>k.get x y (h.get x y e)⟩
theorem Sub.mod {S:Nat→Prop} {G H H':AH} (h:Sub G H) (M:Mod S H H') (a:∀b,S b→G.get b=none):Sub G H':=
 ⟨M.n0.trans h.n0,arh h.nx M.nx,fun b x k=>M.get (fun q=>by rw [a b q]at k;cases k) (h.get b x k)⟩
theorem Sub.Qx {G H H':AH} (h:Sub G H) (X:Ext H H'):Sub G H':=h.trans (Sub.bN X)
theorem Sub.ldn {G H:AH} (h:Sub G H) {a:Addr} {n:Nat} {vs:List Value} (k:G.ldn a n=some vs):H.ldn a n=some vs:=by
 obtain ⟨x,b⟩:=arz.1 (cW k).1;rw [←k];exact eC (by rw [h.get _ _ b,b]) h.n0
theorem Sub.ld {G H:AH} (h:Sub G H) {a:Addr} {v:Value} (k:G.ld a=some v):H.ld a=some v:=bf.2 (h.ldn (bf.1 k))
theorem Rows.sub {H H':AH} (E:Sub H H') {sz:Nat} {v:Value} {rows:List (List Value)} (h:Rows H sz v rows):Rows H' sz v rows:=by
 obtain ⟨a,c,rfl,k⟩:=h.is;exact ⟨a,c,rfl,fun i r hi=>let⟨b,o,d,h2⟩:=k i r hi;⟨b,o,d,E.ldn h2⟩⟩
theorem fT.sub {H H':AH} (E:Sub H H') {v:Value} {l:List Int} (h:fT H v l):fT H' v l:=Rows.sub E h
def AH.tC (H:AH):List Nat→AH
 |[]=>H
 |b::l=>(H.put b none).tC l
theorem sn:∀(l:List Nat) (H:AH) (c:Nat),(H.tC l).get c=if c∈l then none else H.get c
 |[],H,c=>by simp [AH.tC]
 |b::l,H,c=>by
  rw [AH.tC,sn l,AH.rq];by_cases a:c∈l
  ·simp [a]
  ·by_cases h2:c=b<;>simp [a,h2]
theorem vg:∀(l:List Nat) (H:AH),(H.tC l).n0=H.n0
 |[],H=>rfl
 |b::l,H=>by rw [AH.tC,vg l];rfl
theorem vh:∀(l:List Nat) (H:AH),(H.tC l).nx=H.nx
 |[],H=>rfl
 |b::l,H=>by rw [AH.tC,vh l];rfl
theorem GJ (l:List Nat) (H:AH):Sub (H.tC l) H:=⟨(vg l H).symm,by rw [vh];exact aqY _,fun b x k=>by
 rw [sn]at k;split at k
 ·cases k
 ·exact k⟩
end
section
open Go
theorem xE {p:bw} (h:aA p.w p.vars=true):kK p.w p.vars p.body 1 0=bj p:=by
 unfold kK bj;rw [h,show decide ((1:Int)+a8 p.body 0≤17)=decide (a8 p.body 0≤16) by rw [art];simp;omega,show decide (0+au p.body≤400)=decide (au p.body≤400) by rw [art];simp];simp
theorem By:eD [.int .i64 0,.int .i64 0] []=some (.agg #[.int .i64 0,.int .i64 0]):=rfl
theorem zU {p:bw} {c:List Value} {H:AH} (j:H.n0≤H.nx) (V:pD H c p):Ca E O 68 [.agg c.toArray] H (fun x H'=>x= .tuple #[.agg #[.int .i64 (if bj p=true then aC p.body else 0),.int .i64 (if bj p=true then au p.body else 0)],.bool (bj p)]∧Ext H H'):=by
 obtain ⟨vv,vb,Q,rfl,hi,I,G,U,W,Y⟩:=V.is;refine Ca.aV (F:=Y7) rfl rfl rfl ?_;have e:=Ext.alloc H (.cells 3 [.int .i64 p.w,vv,vb]);have u:(H.alloc (.cells 3 [.int .i64 p.w,vv,vb])).ld ⟨H.nx,0,none⟩=some (.int .i64 p.w):=aj j rfl;have t:(H.alloc (.cells 3 [.int .i64 p.w,vv,vb])).ld ⟨H.nx,1,none⟩=some vv:=aj j rfl;have g:(H.alloc (.cells 3 [.int .i64 p.w,vv,vb])).ld ⟨H.nx,2,none⟩=some vb:=aj j rfl;have d:(H.alloc (.cells 3 [.int .i64 p.w,vv,vb])).ldn ⟨H.nx,0,none⟩ 3=some [.int .i64 p.w,vv,vb]:=a7 j 3 rfl;generalize cz:H.alloc (.cells 3 [.int .i64 p.w,vv,vb])=f at e u t g d;have C:=e.wf j;have a:=Ext.alloc f (.cells 2 [.int .i64 0,.int .i64 0]);have K:=cg f (.cells 2 [.int .i64 0,.int .i64 0]);generalize kl:f.alloc (.cells 2 [.int .i64 0,.int .i64 0])=H2 at a K;have D:=a.wf C;have Z:H2.n0≤f.nx:=by rw [a.n0];exact C
 replace u:=a.ld u;replace t:=a.ld t;replace g:=a.ld g;replace d:=a.ldn d;have M:=e.trans a;simp (maxSteps:=9^7)-implicitDefEqProofs+contextual [-X.ev,Y7,cz,kl,u,t];apply ah
 ·(simp-implicitDefEqProofs [-X.ev];rfl)
 refine (Bu D (I.ext M) G p.w).mono ?_;rintro x N ⟨rfl,b⟩;have J:=b.get K;have r:N.n0≤f.nx:=by rw [b.n0];exact Z
 have jg:=M.trans b;have T:=b.wf D
 cases s:aA p.w p.vars with
 |false=>
  have h2:bj p=false:=by simp [bj,s]
  obtain ⟨H4,P,v,yW,S,o⟩:=bH J r (k:=0) (vs:=[.int .i64 0,.int .i64 0]) (by simp);have i:=bB o (by rw [S];exact r) (k:=0) (n:=2) (by simp [aI]);have qY:Ext H H4:=(e.trans (Ext.refl _)).trans (((a.trans b).mod v (by rintro x rfl;exact aqY _)));simp [aI]at i;simp (maxSteps:=9^7)-implicitDefEqProofs+contextual [-X.ev,s,h2,By,P,i,qY]
 |true=>
  replace g:=b.ld g;replace d:=b.ldn d;simp (maxSteps:=9^7)-implicitDefEqProofs+contextual [-X.ev,d,g];apply ah
  ·(simp-implicitDefEqProofs [-X.ev];rfl)
  refine (GC s G _ p.body vb Q f N 1 0 0 f.nx (aq9 _) T (a.trans b) (aqY _) (I.ext e) Y (U.ext e) (W.ext e) J r (by omega) (by omega) (by omega)).mono ?_;rintro x H4 ⟨rfl,v,s',n',o,l⟩;rw [xE s]at l⊢;have m:H4.n0≤f.nx:=by rw [v.n0];exact r
  have L:Ext f H4:=(a.trans b).mod v (by rintro x rfl;exact aqY _)
  cases h2:bj p with
  |false=>
   obtain ⟨H5,q,B,R,y,z⟩:=bH o m (k:=0) (vs:=[.int .i64 0,.int .i64 0]) (by simp);have h:=bB z (by rw [y];exact m) (k:=0) (n:=2) (by simp [aI]);have A:Ext H H5:=e.trans (L.mod B (by rintro x rfl;exact aqY _));simp [aI]at h;simp (maxSteps:=9^7)-implicitDefEqProofs+contextual [-X.ev,By,q,h,A]
  |true=>
   obtain ⟨rfl,rfl⟩:=l h2;have i:=bB o m (k:=0) (n:=2) (by simp);obtain ⟨H5,q,B,R,y,z⟩:=bH o m (k:=0) (vs:=[.int .i64 (0+aC p.body),.int .i64 (0+au p.body)]) (by simp);have h:=bB z (by rw [y];exact m) (k:=0) (n:=2) (by simp [aI]);have A:Ext H H5:=e.trans (L.mod B (by rintro x rfl;exact aqY _));simp [aI]at i h q;simp (maxSteps:=9^7)-implicitDefEqProofs+contextual [-X.ev,i,q,h,A]
theorem pF {p:bw} {c:List Value} {H:AH} (f:H.n0≤H.nx) (g:pD H c p):Ca E O 37 [.agg c.toArray] H (fun x H'=>x= .int .i64 (if bj p=true then 0 else 30)∧Ext H H'):=by
 refine Ca.aV (F:=a37) rfl rfl rfl ?_;have n:=g.len;have b:=Ext.alloc H (.cells c.length c);have d:(H.alloc (.cells c.length c)).ldn ⟨H.nx,0,none⟩ 3=some c:=a7 f 3 (by assumption);generalize j:H.alloc (.cells c.length c)=s at b d;have e:=b.wf f;simp (maxSteps:=9^7)-implicitDefEqProofs+contextual [-X.ev,a37,j,d];apply ah
 ·(simp-implicitDefEqProofs [-X.ev];rfl)
 refine (zU e (g.ext b)).mono ?_;rintro x r ⟨rfl,h⟩;have i:=h.wf e;obtain ⟨q,a,k,l,m,o⟩:=iq i (z:=2) (c:=[.int .i64 0,.int .i64 0]) (vs:=[.int .i64 (if bj p=true then aC p.body else 0),.int .i64 (if bj p=true then au p.body else 0)]) rfl;have X:=b.trans (h.trans k)
 cases h2:bj p with
 |false=>
  simp only [h2,Bool.false_eq_true,if_false]at a;simp (maxSteps:=9^7)-implicitDefEqProofs+contextual [-X.ev,a,X]
 |true=>
  simp only [h2,if_true]at a;simp (maxSteps:=9^7)-implicitDefEqProofs+contextual [-X.ev,a,X]
def zV (sz bytes:Nat):AF:=⟨1,8,[.tmp 2],.seq (.bG [o 2 (.mv (.k (.slice none 0 0)))]) (.seq (.seq (.bG [o 3 (.mv (.t 0)),o 4 (.eqk 2 false (.t 3) (.k (.slice none 0 0)))]) (.cond (.t 4) (.seq (.bG [o 2 (.mv (.k (.slice none 0 0)))]) .ret) .skip)) (.seq (.bG [o 5 (.bsl 0 sz [] []),o 6 (.mv (.t 0)),o 7 (.app sz bytes (.t 5) (.t 6)),o 2 (.mv (.t 7))]) .ret))⟩
theorem mb {f sz bytes:Nat} (t:O f=none) (w:E f=some (zV sz bytes)) {H:AH} {v:Value} {rows:List (List Value)} (m:H.n0≤H.nx) (j:Rows H sz v rows) (d:rows.length*bytes≤2^47) (y:rows.length<2^62):
 Ca E O f [v] H (fun x H'=>dE H' sz x rows∧Ext H H'∧∀b,aS x b→H.nx≤b):=by
 refine Ca.aV t w rfl ?_;obtain ⟨a,c,i⟩:=j.len
 cases a with
 |none=>
  have s:rows=[]:=by
   obtain ⟨C,B,e,k⟩:=j.is;rw [i]at e;cases e
   cases rows with
   |nil=>rfl
   |cons r rows=>obtain ⟨b,o,e,_⟩:=k 0 r rfl;cases e
  subst s;simp (maxSteps:=9^7)-implicitDefEqProofs+contextual [-X.ev,zV,i];exact ⟨dE.nil _ _,Ext.refl _,fun b d=>absurd d (dG _ _ _)⟩
 |some a=>
  have n:mB 0 sz [] H []=some (.slice (some ⟨H.nx,0,none⟩) 0 0,H.alloc (.cells sz [])):=rfl;have g:=Ext.alloc H (.cells sz [])
  have l:dE (H.alloc (.cells sz [])) sz (.slice (some ⟨H.nx,0,none⟩) 0 0) []:=⟨.inr ⟨H.nx,rfl,m,cg _ _⟩,by simp⟩
  generalize H.alloc (.cells sz [])=F at n g l;obtain ⟨A,D,p,q,z,u⟩:=Bx (bytes:=bytes) (g.wf m) l (j.ext g) (by simpa using d) (by simpa using y);rw [i]at p;simp (maxSteps:=9^7)-implicitDefEqProofs+contextual [-X.ev,zV,i,n,p];refine ⟨by simpa using q,g.mod z (by intro b d;rw [ba]at d;subst d;exact aqY _),fun b d=>?_⟩;rcases u b d with h|h
  ·rw [ba]at h;subst h;exact aqY _
  ·exact arh g.nx h
def bI (l:List Int):List (List Value):=l.map fun n=>[.int .i64 n]
theorem jU {H:AH} {v:Value} {l:List Int} (a:H.n0≤H.nx) (c:fT H v l) (d:l.length≤2^40):
 Ca E O 70 [v] H (fun x H'=>dE H' 1 x (bI l)∧Ext H H'∧∀b,aS x b→H.nx≤b):=
 mb (sz:=1) (bytes:=8) rfl rfl a c (by simp [bI];omega) (by simp [bI];omega)
theorem dE.ints {H:AH} {v:Value} {l:List Int} (h:dE H 1 v (bI l)):fT H v l:=h.rows
theorem so (l m:List Int):bI (l++m)=bI l++bI m:=by simp [bI]
theorem jV {w:Int} (c:1≤w∧w≤8) (a:Int):isWord w a=(!decide (a<0)&& !decide (2^w.toNat≤a)):=by
 have b:bl w=true:=by simp [bl,c]
 rw [isWord,b,Bool.true_and,art];simp
theorem sq {p:bw} {t:eY} {c d:List Value} {H:AH} (K:H.n0≤H.nx) (hp:pD H c p) (ht:xj H d t) (hP:bj p=true):
 Ca E O 69 [.agg c.toArray,.agg d.toArray] H (fun x H'=>x= .bool (iO p t)∧Ext H H'):=by
 obtain ⟨vv,vb,rb,rfl,hi,hv,yR,hr,hl,lq⟩:=hp.is;obtain ⟨vs,vp,rfl,ss,sp,l1,l2,_,_⟩:=ht.is;have N:aA p.w p.vars=true:=by simp [bj]at hP;exact hP.1
 have fD:1≤p.w∧p.w≤8:=⟨(aF N).1,(aF N).2.1⟩
 have kc:df (p.vars.map (·.cells))≤48:=by
  rw [fN]at N;simp only [aqX,aq6]at N;exact N.2.2.2.2
 refine Ca.aV (F:=Y8) rfl rfl rfl ?_;have X1:=Ext.alloc H (.cells 3 [.int .i64 p.w,vv,vb]);have v:(H.alloc (.cells 3 [.int .i64 p.w,vv,vb])).ld ⟨H.nx,0,none⟩=some (.int .i64 p.w):=aj K rfl;have d1:(H.alloc (.cells 3 [.int .i64 p.w,vv,vb])).ld ⟨H.nx,1,none⟩=some vv:=aj K rfl;have d2:(H.alloc (.cells 3 [.int .i64 p.w,vv,vb])).ld ⟨H.nx,2,none⟩=some vb:=aj K rfl;have d:(H.alloc (.cells 3 [.int .i64 p.w,vv,vb])).ldn ⟨H.nx,0,none⟩ 3=some [.int .i64 p.w,vv,vb]:=a7 K 3 rfl;generalize cz:H.alloc (.cells 3 [.int .i64 p.w,vv,vb])=j at X1 v d1 d2 d;have Z:=X1.wf K;have S:=Ext.alloc j (.cells 2 [vs,vp]);have e0:(j.alloc (.cells 2 [vs,vp])).ld ⟨j.nx,0,none⟩=some vs:=aj Z rfl;have e1:(j.alloc (.cells 2 [vs,vp])).ld ⟨j.nx,1,none⟩=some vp:=aj Z rfl;have e:(j.alloc (.cells 2 [vs,vp])).ldn ⟨j.nx,0,none⟩ 2=some [vs,vp]:=a7 Z 2 rfl;generalize kl:j.alloc (.cells 2 [vs,vp])=H2 at S e0 e1 e;have iP:=S.wf Z;replace v:=S.ld v;replace d1:=S.ld d1;have X:=X1.trans S;obtain ⟨a1,c1,kU⟩:=hv.len;obtain ⟨a2,c2,wy⟩:=ss.len;obtain ⟨a3,c3,N0⟩:=sp.len;have D1:=d1;rw [kU]at D1;simp (maxSteps:=9^7)-implicitDefEqProofs+contextual [-X.ev,Y8,cz,kl,D1];refine ch (fun k g H'=>Ext H2 H'∧∃i:Nat,i+k=p.vars.length∧g.get 2= .pointer (some ⟨H.nx,0,none⟩)∧g.get 3= .pointer (some ⟨j.nx,0,none⟩)∧g.get 11=vv∧g.get 12= .int .i64 p.vars.length∧g.get 13= .int .i64 i∧g.get 5= .int .i64 (df ((p.vars.take i).map (·.cells)))) ?_ p.vars.length ⟨Ext.refl _,0,by simp,by simp,by simp,by simp [kU],by simp,by simp,by simp [df]⟩;rintro k g T ⟨A,i,hi,l,f3,f11,f12,f13,R⟩;have pj:=A.wf iP;have C:=X.trans A;replace v:=A.ld v;replace e0:=A.ld e0;replace e1:=A.ld e1;have lY:=yR.1;by_cases h:i<p.vars.length
 ·obtain ⟨y,hy⟩:∃y,p.vars[i]?=some y:=⟨_,aqU h⟩
  obtain ⟨b,o,c',M,bC,_⟩:=(hv.ext C).at hy;rw [M]at f11;obtain ⟨G,sH4,m,aeR,aeS,q,Y⟩:=dQ (H:=T) pj (z:=3) (c:=[.string ⟨#[]⟩,.int .i64 0,.int .i64 0]) (vs:=[.string y.name,.int .i64 y.level,.int .i64 y.cells]) rfl;have q0:G.ld ⟨T.nx,0,none⟩=some (.string y.name):=Y 0 _ rfl;have q1:G.ld ⟨T.nx,1,none⟩=some (.int .i64 y.level):=Y 1 _ rfl;have V:G.ld ⟨T.nx,2,none⟩=some (.int .i64 y.cells):=Y 2 _ rfl;clear Y;replace q:G.ldn ⟨T.nx,0,none⟩ 3=some [.string y.name,.int .i64 y.level,.int .i64 y.cells]:=q;have VT:=m.wf pj;simp (maxSteps:=9^7)-implicitDefEqProofs+contextual [-X.ev,l,f3,f11,f12,f13,R,h,bC,Vr.row,sH4,V];rw [ai (n:=(i:Int)+1) ⟨by omega,by omega⟩];refine ⟨k- 1,by omega,A.trans m,i+1,by omega,M.symm,by simp,?_⟩;rw [arf];simp [df,arq,hy,List.foldl_append]
 have ht:p.vars.take i=p.vars:=aq1 (by omega);rw [ht]at R
 obtain ⟨F,hF⟩:∃F,iO p t=F:=⟨_,rfl⟩
 rw [hF];have ZZ:=e0;have B:=e1;rw [wy]at ZZ;rw [N0]at B
 have EJ:¬ ((t.store.length:Int)=df (p.vars.map (·.cells))∧(t.bM.length:Int)≤16∧∀a∈t.store++t.bM,isWord p.w a=true)→F=false:=by
  intro q;rw [arA,←hF];intro h;apply q;simp only [iO,bK,aqX,aq6,ara]at h;refine ⟨h.1.1,by omega,fun a f=>?_⟩;rcases are.1 f with f|f
  ·exact h.1.2 a f
  ·exact h.2.2 a f
 by_cases I:(t.store.length:Int)=df (p.vars.map (·.cells))
 case neg=>
  have u:F=false:=EJ (fun q=>I q.1);simp (maxSteps:=9^7)-implicitDefEqProofs+contextual [-X.ev,l,f3,f11,f12,f13,R,h,ZZ,B,I,u,C]
 by_cases k2:(16:Int)<t.bM.length
 case pos=>
  have u:F=false:=EJ (fun q=>by have:=q.2.1;omega);simp (maxSteps:=9^7)-implicitDefEqProofs+contextual [-X.ev,l,f3,f11,f12,f13,R,h,ZZ,B,I,k2,u,C]
 simp (maxSteps:=9^7)-implicitDefEqProofs+contextual [-X.ev,l,f3,f11,f12,f13,R,h,ZZ,B,I,k2];rw [wy]at ss;rw [N0]at sp;apply ah
 ·(simp-implicitDefEqProofs [-X.ev];rfl)
 refine (jU pj (ss.ext C) (by omega)).mono ?_;rintro x G ⟨o4,m,k4⟩;have qq:=m.wf pj;have qY:=C.trans m;have q1:=bf.1 B;have V:=bf.1 (m.ld B);obtain ⟨s',H5,f,W,D,k5⟩:=Bx (bytes:=8) qq o4 (sp.ext qY) (by simp [bI];omega) (by simp [bI];omega);have GK:Ext H H5:=C.trans (m.mod D k4);have qt:=D.wf qq;have W:dE H5 1 s' (bI (t.store++t.bM)):=by rw [so];exact W
 have hLl:((t.store++t.bM).length:Int)=t.store.length+t.bM.length:=by rw [aq3];omega
 have s:∀(P:Int→Prop),(∀a∈t.store++t.bM,P a)→(∀a∈t.store,P a)∧∀a∈t.bM,P a:=fun P h=>⟨fun a f=>h a (by simp [f]),fun a f=>h a (by simp [f])⟩
 generalize t.store++t.bM=L at W EJ hLl s;have i5:=W.ints;obtain ⟨as_,cs_,wv⟩:=i5.len;have ik:G.nx≤H5.nx:=D.nx
 have q3:H5.ldn ⟨j.nx,1,none⟩ 1=some [.slice a3 t.bM.length c3]:=D.ldn (a:=⟨j.nx,1,none⟩) (fun hb=>by
  have h1:=k4 _ hb
  have h2:=(AH.aQ (arz.1 (cW q1).1).choose_spec)
  dsimp only at h1 h2
  omega) V
 rw [wv]at f;simp (maxSteps:=9^7)-implicitDefEqProofs+contextual [-X.ev,f,bh,aL,aM,m.n0,m.nx,q1,V,q3,D.n0,ik]
 have Ts:H5.ld ⟨H.nx,0,none⟩=some (.int .i64 p.w):=((A.trans (Ext.refl _)).trans (Ext.refl _)|>fun _=>(D.ld (a:=⟨H.nx,0,none⟩) (fun hb=>by
  have h1:=k4 _ hb
  have h2:=(AH.aQ (arz.1 (cW (bf.1 v)).1).choose_spec)
  dsimp only at h1 h2
  omega) (m.ld v)))
 have sh:=xz fD;have To:(L.length:Int)≤64:=by omega
 refine ch (fun k g H'=>H'=H5∧∃i:Nat,i+k=L.length∧g.get 2= .pointer (some ⟨H.nx,0,none⟩)∧g.get 38=s'∧g.get 39= .int .i64 L.length∧g.get 40= .int .i64 i∧∀a∈L.take i,isWord p.w a=true) ?_ L.length ⟨rfl,0,by simp,by simp [l],by simp [wv],by simp,by simp,by simp⟩;rintro k' bP H' ⟨rfl,J,qE,l,f38,f39,f40,aH⟩;by_cases Q:J<L.length
 ·obtain ⟨n,hn⟩:∃n,L[J]?=some n:=⟨_,aqU Q⟩
  obtain ⟨b,o,c',M,fg⟩:=i5.at hn;rw [M]at f38;have u:isWord p.w n=false→F=false:=fun z=>EJ (fun q=>by have:=q.2.2 n (aqZ hn);rw [z]at this;cases this)
  rw [jV fD]at u;have wi:IntKind.i64.wrap ((J:Int)+1)=(J:Int)+1:=ai ⟨by omega,by omega⟩;by_cases U:n<0
  ·simp (maxSteps:=9^7)-implicitDefEqProofs+contextual [-X.ev,l,f38,f39,f40,Q,fg,Ts,U,u,GK]
  by_cases z2:2^p.w.toNat≤n
  ·simp (maxSteps:=9^7)-implicitDefEqProofs+contextual [-X.ev,l,f38,f39,f40,Q,fg,Ts,U,sh,z2,u,GK]
  simp (maxSteps:=9^7)-implicitDefEqProofs+contextual [-X.ev,l,f38,f39,f40,Q,fg,Ts,U,sh,z2,wi];refine ⟨k'- 1,by omega,J+1,by omega,M.symm,by simp,fun z r=>?_⟩;rw [arf,hn]at r;rcases are.1 r with r|r
  ·exact aH z r
  ·simp at r;subst r;rw [jV fD];simp [U,z2]
 ·have zQ:F=true:=by
   rw [aq1 (by omega)]at aH;rw [←hF];simp only [iO,bK,aqX,aq6,ara];exact ⟨⟨I,(s _ aH).1⟩,by omega,(s _ aH).2⟩
  simp (maxSteps:=9^7)-implicitDefEqProofs+contextual [-X.ev,l,f38,f39,f40,Q,GK,zQ]
theorem DB {p:bw} {t:eY} {c d:List Value} {H:AH} (m:H.n0≤H.nx) (i:pD H c p) (n:xj H d t):
 Ca E O 38 [.agg c.toArray,.agg d.toArray] H (fun x H'=>x= .int .i64 (fV p 0 t)∧Ext H H'):=by
 refine Ca.aV (F:=YY) rfl rfl rfl ?_;have z:=i.len;have y:d.length=2:=by obtain ⟨v,w,e,_⟩:=n.is;rw [e];rfl
 have j:=Ext.alloc H (.cells c.length c);have q:(H.alloc (.cells c.length c)).ldn ⟨H.nx,0,none⟩ 3=some c:=a7 m 3 (by assumption);generalize u:H.alloc (.cells c.length c)=h at j q;have l:=j.wf m;have g:=Ext.alloc h (.cells d.length d);have r:(h.alloc (.cells d.length d)).ldn ⟨h.nx,0,none⟩ 2=some d:=a7 l 2 (by assumption);generalize s:h.alloc (.cells d.length d)=C at g r;have k:=g.wf l;replace q:=g.ldn q;have X:=j.trans g;simp (maxSteps:=9^7)-implicitDefEqProofs+contextual [-X.ev,YY,u,s,q];apply ah
 ·(simp-implicitDefEqProofs [-X.ev];rfl)
 refine (pF k (i.ext X)).mono ?_;rintro x B ⟨rfl,f⟩;replace q:=f.ldn q;replace r:=f.ldn r;have a:=X.trans f
 cases b:bj p with
 |false=>
  simp (maxSteps:=9^7)-implicitDefEqProofs+contextual [-X.ev,b,fV,a]
 |true=>
  simp (maxSteps:=9^7)-implicitDefEqProofs+contextual [-X.ev,q,r];apply ah
  ·(simp-implicitDefEqProofs [-X.ev];rfl)
  refine (sq (f.wf k) (i.ext a) (n.ext a) b).mono ?_;rintro x A ⟨rfl,o⟩
  cases h2:iO p t with
  |false=>
   simp (maxSteps:=9^7)-implicitDefEqProofs+contextual [-X.ev,b,h2,fV,a.trans o]
  |true=>
   simp (maxSteps:=9^7)-implicitDefEqProofs+contextual [-X.ev,b,h2,fV,a.trans o]
end
end Go.Proofs.YtppcmpmnglaleaaGreatDoor.A
