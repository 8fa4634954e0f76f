/- Texts that stand one behind the other: S21, AbsQ, S22. -/
import Derived.Test.YtppcmpmnglaleaaGreatDoorG15
set_option linter.unusedVariables false
set_option linter.unusedSimpArgs false
set_option maxRecDepth 10000
namespace Go.Proofs.YtppcmpmnglaleaaGreatDoor.A
section
open Go
def lq (w:Int) (V:List Vr) (l:List bh) (deep nodes:Int):Bool:=decide (nodes+au l≤400)&&(decide (deep+bk l 0≤17)&&fv w V l)
theorem kj {w:Int} {V:List Vr} {l:List bh} {deep nodes:Int}:lq w V l deep nodes=true↔nodes+au l≤400∧deep+bk l 0≤17∧fv w V l=true:=by simp [lq]
theorem Ll {w:Int} {V:List Vr} (h:aA w V=true) (e:bQ):vL w V 1 e=if gh w V 1 e=true then 0 else 20:=by simp [vL,h]
theorem GB {w:Int} {vv vb:Value} {V:List Vr} (hV:aA w V=true) (pU:nL V):∀(N:Nat) (l:List bh) (vl:Value) (rows:List (List Value)) (G H:AH) (deep stmts nodes:Int) (b:Nat),SizeOf.sizeOf l<N→H.n0≤H.nx→Ext G H→G.nx≤b→dh G vv V→l.length<2^60→Rows G 5 vl rows→gN G rows l→
 H.get b=some (.cells 2 [.int .i64 stmts,.int .i64 nodes])→H.n0≤b→0≤stmts∧stmts≤nodes→nodes≤2000→1≤deep∧deep≤17→
 Ca E O 97 [.pointer (some ⟨b,0,none⟩),.agg #[.int .i64 w,vv,vb],vl,.int .i64 deep] H (fun x H'=>x= .bool (lq w V l deep nodes)∧Mod (fun x=>x=b) H H'∧∃C B,H'.get b=some (.cells 2 [.int .i64 C,.int .i64 B])∧(lq w V l deep nodes=true→C=stmts+aC l∧B=nodes+au l)):=by
 intro N
 induction N with
 |zero=>intro l vl rows G H deep stmts nodes b h;omega
 |succ N ih=>
  intro l vl rows G H deep stmts nodes b hN K GX gb hv hlen hr hl hb xR gv qF VM;have hbH:=AH.aS hb;refine Ca.aW (F:=NQ) rfl rfl rfl ?_
  obtain ⟨F,hF⟩:∃F,lq w V l deep nodes=F:=⟨_,rfl⟩
  rw [hF]
  have EA:¬ (nodes+au l≤400∧deep+bk l 0≤17∧fv w V l=true)→F=false:=by
   intro q;rw [ark,←hF];exact fun h=>q (kj.1 h)
  have X1:=Ext.alloc H (.cells 3 [.int .i64 w,vv,vb]);have d0:(H.alloc (.cells 3 [.int .i64 w,vv,vb])).ld ⟨H.nx,0,none⟩=some (.int .i64 w):=aj K rfl;have d1:(H.alloc (.cells 3 [.int .i64 w,vv,vb])).ld ⟨H.nx,1,none⟩=some vv:=aj K rfl;have d2:(H.alloc (.cells 3 [.int .i64 w,vv,vb])).ld ⟨H.nx,2,none⟩=some vb:=aj K rfl;have d:(H.alloc (.cells 3 [.int .i64 w,vv,vb])).ldn ⟨H.nx,0,none⟩ 3=some [.int .i64 w,vv,vb]:=bj K 3 rfl;generalize cF:H.alloc (.cells 3 [.int .i64 w,vv,vb])=H1 at X1 d0 d1 d2 d;have bD:=X1.wf K;have gb1:=X1.get hb
  have Jq:∃C B:Int,H1.get b=some (.cells 2 [.int .i64 C,.int .i64 B]):=⟨_,_,gb1⟩
  have lK:H1.n0≤b:=by rw [X1.n0];exact xR
  have GX1:=GX.trans X1;have J:¬ H.nx=b:=by omega
  obtain ⟨a0,c0,lT⟩:=hr.len;rw [hl.length]at lT;have MX1:Mod (fun x=>x=b) H H1:=Mod.bT X1;by_cases z0:0<l.length∧16<deep
  case pos=>
   obtain ⟨z1,z2⟩:=z0
   have nJ:F=false:=EA (by
    rintro ⟨_,q,_⟩
    obtain ⟨⟨op,n,args,g,s⟩,W⟩:∃y,l[0]?=some y:=⟨_,aqG z1⟩
    have:=kM (k:=0) (aqL W);have:=(kH g 0 (by omega)).1
    omega)
   simp (maxSteps:=9^7)-implicitDefEqProofs+contextual [-X.ev,NQ,lT,cF,z1,z2,nJ,Jq,MX1]
  refine sL [.r,.r] (fun f H'=>H'=H1∧f.get 0= .pointer (some ⟨b,0,none⟩)∧f.get 2= .slice a0 l.length c0∧f.get 3= .int .i64 deep∧f.get 5= .pointer (some ⟨H.nx,0,none⟩)) rfl ?_ ?_
  case refine_2=>
   intro rest cn;simp only [NQ,Aa,zZ]at cn;by_cases z1:0<l.length
   ·have z2:¬ 16<deep:=fun q=>z0 ⟨z1,q⟩
    simp (maxSteps:=9^7)-implicitDefEqProofs+contextual [-X.ev,NQ,lT,cF,z1,z2,cn]
   ·simp (maxSteps:=9^7)-implicitDefEqProofs+contextual [-X.ev,NQ,lT,cF,z1,cn]
  rintro f H' ⟨rfl,v,f2,u,t⟩;have gp:=a8 l;simp (maxSteps:=9^7)-implicitDefEqProofs+contextual [-X.ev,NQ,v,f2,u,t]
  refine cm (fun j f H2=>Mod (fun x=>x=b) H' H2∧∃i:Nat,i+j=l.length∧f.get 0= .pointer (some ⟨b,0,none⟩)∧f.get 3= .int .i64 deep∧f.get 5= .pointer (some ⟨H.nx,0,none⟩)∧f.get 20=vl∧f.get 21= .int .i64 l.length∧f.get 22= .int .i64 i∧
   H2.get b=some (.cells 2 [.int .i64 (stmts+aC (l.take i)),.int .i64 (nodes+au (l.take i))])∧nodes+au (l.take i)≤2000∧(0<i→nodes+au (l.take i)≤400)∧
   ∀op n args g s,bh.mk op n args g s∈l.take i→(deep+1+bk g 0≤17∧deep+1+bk s 0≤17)∧eL w V (.mk op n args g s)=true) ?_ l.length ⟨Mod.refl _ _,0,by simp,by simp [v],by simp [u],by simp [t],by simp [lT],by simp,by simp,by simpa [aC,au]using gb1,by simp [au];omega,by simp,by simp⟩
  rintro j f H2 ⟨M2,i,hi,v,u,t,f20,f21,f22,N1,hle,aeK,aH⟩;have M02:=MX1.trans M2;have jS:=M2.wf bD;have GX2:Ext G H2:=GX.mod M02 (by rintro x rfl;exact gb);have iP:H2.n0≤b:=by rw [M2.n0];exact lK
  have D0:=M2.ld (a:=⟨H.nx,0,none⟩) J d0;have D1:=M2.ld (a:=⟨H.nx,1,none⟩) J d1;have D:=M2.ldn (a:=⟨H.nx,0,none⟩) J d;by_cases h:i<l.length
  case neg=>
   have ht:l.take i=l:=aqN (by omega);rw [ht]at aeK aH N1 hle
   have Z:F=decide (nodes+au l≤400):=by
    have p1:=DE (l:=l) (k:=0) (m:=17- deep) (by omega) fun op n args g s hm=>by have:=(aH op n args g s hm).1;omega
    have p2:decide (deep+bk l 0≤17)=true:=by simp;omega
    have p3:fv w V l=true:=kg.2 fun e he=>by obtain ⟨op,n,args,g,s⟩:=e;exact (aH op n args g s he).2
    rw [←hF,lq,p2,p3];simp
   have l2:=aG N1 iP (k:=1) rfl;simp (maxSteps:=9^7)-implicitDefEqProofs+contextual [-X.ev,v,u,t,f20,f21,f22,h,l2];exact ⟨Z.symm,M02,_,_,N1,fun _=>⟨rfl,rfl⟩⟩
  obtain ⟨⟨op,n,args,g,s⟩,W⟩:∃y,l[i]?=some y:=⟨_,aqG h⟩
  have hs:=oR W;have oV:=aqL W;have t1:=dX W;have t2:=jG W;have t3:=gp (i+1);have t4:=dq l i;have t5:=gp i;rw [bc]at t1;rw [bu]at t2;have u1:=a6 args;have u2:=cz g;have u3:=cz s;have u4:=bf g;have u5:=bf s;obtain ⟨b2,o2,c2,va,vt,ve,ra,rt,re,cx,bL,_,_,_,_,_,i1,o,i3,i4,i5,g1,g2,g3,g4,g5,g6⟩:=gN.row hr hl W;replace bL:=GX2.ldn bL;rw [cx]at f20;obtain ⟨aa,ca,gg⟩:=g1.len;obtain ⟨at_,ct,wS⟩:=g3.len;obtain ⟨ae,ce,tV⟩:=g5.len;rw [g2.length]at gg;rw [g4.length]at wS;rw [g6.length]at tV
  obtain ⟨nt,Y⟩:∃nt,g.length=nt:=⟨_,rfl⟩
  obtain ⟨ne_,fW⟩:∃nt,s.length=nt:=⟨_,rfl⟩
  rw [Y]at wS;rw [fW]at tV
  have YP:deep≤16:=by
   rcases Int.lt_or_le 16 deep with q|q
   ·exact absurd ⟨by omega,q⟩ z0
   ·exact q
  have qb:fv w V l=true→eL w V (.mk op n args g s)=true:=fun q=>kg.1 q _ oV
  rw [eL,uz hV,Y,fW]at qb;obtain ⟨H3,Ez,X3,Gt,Gu,q,lF⟩:=dZ (H:=H2) jS (z:=5) (c:=[.int .i64 0,.int .i64 0,.slice none 0 0,.slice none 0 0,.slice none 0 0]) (vs:=[.int .i64 op,.int .i64 n,va,vt,ve]) rfl;have q0:H3.ld ⟨H2.nx,0,none⟩=some (.int .i64 op):=lF 0 _ rfl;have q1:H3.ld ⟨H2.nx,1,none⟩=some (.int .i64 n):=lF 1 _ rfl;have q2:H3.ld ⟨H2.nx,2,none⟩=some va:=lF 2 _ rfl;have q3:H3.ld ⟨H2.nx,3,none⟩=some vt:=lF 3 _ rfl;have q4:H3.ld ⟨H2.nx,4,none⟩=some ve:=lF 4 _ rfl;clear lF;replace q:H3.ldn ⟨H2.nx,0,none⟩ 5=some [.int .i64 op,.int .i64 n,va,vt,ve]:=q;have xQ:=X3.wf jS;have Lj:=X3.get N1;have tN:H3.n0≤b:=by rw [X3.n0];exact iP
  have U:¬ H2.nx=b:=by have:=AH.aS N1;omega
  obtain ⟨H4,s4,M4,y9,nN,QA⟩:=bR Lj tN (k:=0) (vs:=[.int .i64 (stmts+aC (l.take i)+1)]) (by simp);have QA:H4.get b=some (.cells 2 [.int .i64 (stmts+aC (l.take i)+1),.int .i64 (nodes+au (l.take i))]):=QA;have mK:H4.n0≤b:=by rw [nN];exact tN
  obtain ⟨H5,s5,M5,N4,xS,Jx⟩:=bR QA mK (k:=1) (vs:=[.int .i64 (nodes+au (l.take i)+1)]) (by simp);have Jx:H5.get b=some (.cells 2 [.int .i64 (stmts+aC (l.take i)+1),.int .i64 (nodes+au (l.take i)+1)]):=Jx;have wT:H5.n0≤b:=by rw [xS];exact mK
  have Tr:=M4.trans M5;have N5:=(Mod.bT X3).trans Tr;have N3:=M02.trans N5;have VQ:Ext G H5:=GX.mod N3 (by rintro x rfl;exact gb);have qP:=N3.wf K;have l3:=aG Lj tN (k:=0) rfl;have l4:=aG QA mK (k:=1) rfl;have l5:=aG Jx wT (k:=1) rfl;have Q:=Tr.ldn (a:=⟨H2.nx,0,none⟩) U q;have Q0:=Tr.ld (a:=⟨H2.nx,0,none⟩) U q0;have Q2:=Tr.ld (a:=⟨H2.nx,2,none⟩) U q2;have Q3:=Tr.ld (a:=⟨H2.nx,3,none⟩) U q3;have Q4:=Tr.ld (a:=⟨H2.nx,4,none⟩) U q4;replace D0:=N5.ld (a:=⟨H.nx,0,none⟩) J D0;replace D1:=N5.ld (a:=⟨H.nx,1,none⟩) J D1;replace D:=N5.ldn (a:=⟨H.nx,0,none⟩) J D
  have ex5:∃C B:Int,H5.get b=some (.cells 2 [.int .i64 C,.int .i64 B]):=⟨_,_,Jx⟩
  have w1:IntKind.i64.wrap (stmts+aC (l.take i)+1)=stmts+aC (l.take i)+1:=ai ⟨by omega,by omega⟩;have w2:IntKind.i64.wrap (nodes+au (l.take i)+1)=nodes+au (l.take i)+1:=ai ⟨by omega,by omega⟩;have M:=Q2;rw [gg]at M;by_cases k1:400<nodes+au (l.take i)+1
  ·have nJ:F=false:=EA (by rintro ⟨q,_⟩;omega)
   simp (maxSteps:=9^7)-implicitDefEqProofs+contextual [-X.ev,v,u,t,f20,f21,f22,h,bL,Ez,l3,s4,w1,l4,s5,w2,l5,k1,nJ,bq,aM,aN,ex5,N3]
  simp (maxSteps:=9^7)-implicitDefEqProofs+contextual [-X.ev,v,u,t,f20,f21,f22,h,bL,Ez,l3,s4,w1,l4,s5,w2,l5,k1,D,Q,M];apply ah
  ·(simp-implicitDefEqProofs [-X.ev];rfl)
  refine (Gz qP (hv.ext VQ)).mono ?_;rintro x H6 ⟨rfl,A⟩;have DF:=A.wf qP;have GX6:=VQ.trans A;have M06:=N3.trans (Mod.bT A);have gb6:=A.get Jx;have Gx:H6.n0≤b:=by rw [A.n0];exact wT
  have ex6:∃C B:Int,H6.get b=some (.cells 2 [.int .i64 C,.int .i64 B]):=⟨_,_,gb6⟩
  have r0:=A.ld Q0;have r2:=A.ld Q2;have r3:=A.ld Q3;have r4:=A.ld Q4;replace D0:=A.ld D0;replace D1:=A.ld D1;replace D:=A.ldn D;have Q2n:=bo.1 M;have r2n:=bo.1 (A.ld M);by_cases k2:nz V op n=args.length
  case neg=>
   have nJ:F=false:=EA (by rintro ⟨_,_,q⟩;have:=qb q;simp [k2]at this);simp (maxSteps:=9^7)-implicitDefEqProofs+contextual [-X.ev,k2,nJ,bq,aM,aN,ex6,M06,Q2n,r2n,A.n0,A.nx]
  have nJ:sN op nt ne_=false→F=false:=fun z=>EA (by rintro ⟨_,_,q⟩;have:=qb q;simp [z]at this)
  refine VG 1 [.r] (fun f H'=>H'=H6∧sN op nt ne_=true∧f.get 0= .pointer (some ⟨b,0,none⟩)∧f.get 3= .int .i64 deep∧f.get 5= .pointer (some ⟨H.nx,0,none⟩)∧f.get 10= .pointer (some ⟨H2.nx,0,none⟩)∧f.get 20= .slice (some ⟨b2,o2,none⟩) l.length c2∧f.get 21= .int .i64 l.length∧f.get 22= .int .i64 i) rfl ?_ ?_
  case refine_2=>
   intro rest cn;rw [wS]at r3;rw [tV]at r4;simp only [xM,Aa,zZ]at cn;simp (maxSteps:=9^7)-implicitDefEqProofs+contextual [-X.ev,vI,sN,k2,nJ,bq,aM,aN,ex6,M06,Q2n,r2n,A.n0,A.nx,r0,r3,r4,cn,v,u,t,f20,f21,f22]
  simp only [xM,Aa,zZ,Bz,Ld,Lc];rintro bK H' ⟨rfl,k3,v,u,t,f10,f20,f21,f22⟩;rw [gg]at r2;simp (maxSteps:=9^7)-implicitDefEqProofs+contextual [-X.ev,v,u,t,f10,f20,f21,f22,r2]
  refine cm (fun j2 f H7=>Mod (fun x=>x=b) H' H7∧∃o:Nat,o+j2=args.length∧f.get 0= .pointer (some ⟨b,0,none⟩)∧f.get 3= .int .i64 deep∧f.get 5= .pointer (some ⟨H.nx,0,none⟩)∧f.get 10= .pointer (some ⟨H2.nx,0,none⟩)∧f.get 20= .slice (some ⟨b2,o2,none⟩) l.length c2∧f.get 21= .int .i64 l.length∧f.get 22= .int .i64 i∧
   f.get 80=va∧f.get 81= .int .i64 args.length∧f.get 82= .int .i64 o∧
   H7.get b=some (.cells 2 [.int .i64 (stmts+aC (l.take i)+1),.int .i64 (nodes+au (l.take i)+1+ar (args.take o))])∧ar (args.take o)≤400*o∧
   ∀e∈args.take o,gh w V 1 e=true) ?_ args.length ⟨Mod.refl _ _,0,by simp,by simp [v],by simp [u],by simp [t],by simp [f10],by simp [f20],by simp [f21],by simp [f22],by simp [gg],by simp,by simp,by simpa [ar]using gb6,by simp [ar],by simp⟩
  rintro j2 f H7 ⟨P,o,DG,v,u,t,f10,f20,f21,f22,f80,f81,f82,Tp,aeO,GC⟩;have T:=M06.trans P;have Ts:=T.wf K;have GX7:Ext G H7:=GX.mod T (by rintro x rfl;exact gb);have GD:H7.n0≤b:=by rw [P.n0];exact Gx
  have Uc:(args.length:Int)≤2:=by rw [←k2];exact GA V op n
  have D0':=P.ld (a:=⟨H.nx,0,none⟩) J D0;have D1':=P.ld (a:=⟨H.nx,1,none⟩) J D1;have D':=P.ldn (a:=⟨H.nx,0,none⟩) J D;by_cases h2:o<args.length
  ·obtain ⟨y,zB⟩:∃y,args[o]?=some y:=⟨_,aqG h2⟩
   obtain ⟨b3,o3,c3,va3,r,Nv,GF,rfl,mG⟩:=fY.row g1 g2 zB;replace GF:=GX7.ldn GF;rw [Nv]at f80;obtain ⟨H8,sH8,X8,amq,aeT,p,VR⟩:=dZ (H:=H7) Ts (z:=4) (c:=[.int .i64 0,.int .i64 0,.int .i64 0,.slice none 0 0]) (vs:=[.int .i64 y.op,.int .i64 y.n,.int .i64 y.cp,va3]) rfl;have p0:H8.ld ⟨H7.nx,0,none⟩=some (.int .i64 y.op):=VR 0 _ rfl;have p1:H8.ld ⟨H7.nx,1,none⟩=some (.int .i64 y.n):=VR 1 _ rfl;have p2:H8.ld ⟨H7.nx,2,none⟩=some (.int .i64 y.cp):=VR 2 _ rfl;have p3:H8.ld ⟨H7.nx,3,none⟩=some va3:=VR 3 _ rfl;clear VR;replace p:H8.ldn ⟨H7.nx,0,none⟩ 4=some [.int .i64 y.op,.int .i64 y.n,.int .i64 y.cp,va3]:=p;have aeU:=X8.wf Ts;replace D0':=X8.ld D0';replace D1':=X8.ld D1';have VS:=GX7.trans X8;have L:=X8.get Tp;simp (maxSteps:=9^7)-implicitDefEqProofs+contextual [-X.ev,v,u,t,f10,f20,f21,f22,f80,f81,f82,h2,GF,sH8,D0',D1',p];apply ah
   ·(simp-implicitDefEqProofs [-X.ev];rfl)
   refine (DD (k:=1) aeU (hv.ext VS) pU (mG.ext VS)).mono ?_;rintro x H9 ⟨rfl,X9⟩;rw [Ll hV];have R:=T.trans ((Mod.bT X8).trans (Mod.bT X9));have Tt:=X9.get L
   have ex9:∃C B:Int,H9.get b=some (.cells 2 [.int .i64 C,.int .i64 B]):=⟨_,_,Tt⟩
   cases k4:gh w V 1 y with
   |false=>
    have Z:F=false:=EA (by
     rintro ⟨_,_,q⟩;have:=qb q;simp only [aqJ,aqW]at this;have:=this.2.2.2 y (aqL zB)
     rw [k4]at this;cases this)
    simp (maxSteps:=9^7)-implicitDefEqProofs+contextual [-X.ev,k4,Z,ex9,R]
   |true=>
    have hb9:H9.n0≤b:=by rw [X9.n0,aeT];exact GD
    have l9:=aG Tt hb9 (k:=1) rfl;have l9n:=bo.1 l9;have ams:av y≤400:=by simp [gh]at k4;exact k4.1
    have amt:=ec y;replace p:=X9.ldn p;have hw9:=R.wf K;have GX9:=VS.trans X9;simp (maxSteps:=9^7)-implicitDefEqProofs+contextual [-X.ev,k4,v,u,t,f10,f20,f21,f22,f80,f81,f82,l9,p];apply ah
    ·(simp-implicitDefEqProofs [-X.ev];rfl)
    refine (uw _ y _ H9 (aqV _) hw9 (mG.ext GX9) (by omega)).mono ?_;rintro x zd ⟨rfl,VT⟩;have VU:=VT.get Tt;have VV:zd.n0≤b:=by rw [VT.n0];exact hb9
    have s1:=fw zB;have aeX:=bo.1 (aG VU VV (k:=1) rfl);obtain ⟨H11,s11,M11,VW,VX,QD⟩:=bR VU VV (k:=1) (vs:=[.int .i64 (nodes+au (l.take i)+1+ar (args.take o)+av y)]) (by simp);have QD:H11.get b=some (.cells 2 [.int .i64 (stmts+aC (l.take i)+1),.int .i64 (nodes+au (l.take i)+1+ar (args.take o)+av y)]):=QD;have s2:=bO args o;have wr:IntKind.i64.wrap (nodes+au (l.take i)+1+ar (args.take o)+av y)=nodes+au (l.take i)+1+ar (args.take o)+av y:=ai ⟨by omega,by omega⟩;have wi:IntKind.i64.wrap ((o:Int)+1)=(o:Int)+1:=ai ⟨by omega,by omega⟩;simp (maxSteps:=9^7)-implicitDefEqProofs+contextual [-X.ev,v,u,t,f10,f20,f21,f22,f80,f81,f82,wr,s11,bq,aM,aN,l9n,aeX,VT.n0,VT.nx,VX,VW,wi];refine ⟨j2- 1,by omega,P.trans ((Mod.bT (X8.trans (X9.trans VT))).trans M11),o+1,by omega,Nv.symm,by simp,?_,by omega,fun z I=>?_⟩
    ·rw [QD,s1]
     rw [show nodes+au (l.take i)+1+ar (args.take o)+av y=nodes+au (l.take i)+1+(ar (args.take o)+av y) by omega]
    ·rw [aq1,zB]at I
     rcases aq0.1 I with I|I
     ·exact GC z I
     ·simp at I;subst I;exact k4
  ·have ht:args.take o=args:=aqN (by omega)
   rw [ht]at aeO GC Tp;have GD:=GD;have q3':=P.ld (a:=⟨H2.nx,3,none⟩) U r3;have q4':=P.ld (a:=⟨H2.nx,4,none⟩) U r4;have wd:IntKind.i64.wrap (deep+1)=deep+1:=ai ⟨by omega,by omega⟩;simp (maxSteps:=9^7)-implicitDefEqProofs+contextual [-X.ev,v,u,t,f10,f20,f21,f22,f80,f81,f82,h2,D',q3',wd];have ka:ar args≤800:=by omega
   apply ah
   ·(simp-implicitDefEqProofs [-X.ev];rfl)
   refine (ih g vt rt G H7 (deep+1) (stmts+aC (l.take i)+1) (nodes+au (l.take i)+1+ar args) b (by omega) Ts GX7 gb hv i4 g3 g4 Tp GD (by omega) (by omega) (by omega)).mono ?_;rintro x H8 ⟨rfl,M8,C,B,L,hl8⟩;have S:=T.trans M8
   have ex8:∃C B:Int,H8.get b=some (.cells 2 [.int .i64 C,.int .i64 B]):=⟨_,_,L⟩
   cases k5:lq w V g (deep+1) (nodes+au (l.take i)+1+ar args)with
   |false=>
    have Z:F=false:=EA (by
     rintro ⟨q1,q2,q⟩;have:=qb q;simp only [aqJ]at this;have r1:=this.2.1;have r2:=kM (k:=0) oV;have:lq w V g (deep+1) (nodes+au (l.take i)+1+ar args)=true:=kj.2 ⟨by omega,by omega,r1⟩
     rw [k5]at this;cases this)
    simp (maxSteps:=9^7)-implicitDefEqProofs+contextual [-X.ev,v,u,t,Z,ex8,S]
   |true=>
    obtain ⟨rfl,rfl⟩:=hl8 k5;have k5':=kj.1 k5;have fR:=S.wf K;have VS:Ext G H8:=GX.mod S (by rintro x rfl;exact gb);have VY:H8.n0≤b:=by rw [M8.n0];exact GD
    have D8:=M8.ldn (a:=⟨H.nx,0,none⟩) J D';have q48:=M8.ld (a:=⟨H2.nx,4,none⟩) U q4';simp (maxSteps:=9^7)-implicitDefEqProofs+contextual [-X.ev,v,u,t,f10,f20,f21,f22,D8,q48,wd];apply ah
    ·(simp-implicitDefEqProofs [-X.ev];rfl)
    refine (ih s ve re G H8 (deep+1) (stmts+aC (l.take i)+1+aC g) (nodes+au (l.take i)+1+ar args+au g) b (by omega) fR VS gb hv i5 g5 g6 L VY (by omega) (by omega) (by omega)).mono ?_;rintro x H9 ⟨rfl,M9,C,B,Tt,hl9⟩;have R:=S.trans M9
    have ex9:∃C B:Int,H9.get b=some (.cells 2 [.int .i64 C,.int .i64 B]):=⟨_,_,Tt⟩
    cases k6:lq w V s (deep+1) (nodes+au (l.take i)+1+ar args+au g)with
    |false=>
     have Z:F=false:=EA (by
      rintro ⟨q1,q2,q⟩;have:=qb q;simp only [aqJ]at this;have r1:=this.2.2.1;have r2:=kM (k:=0) oV;have:lq w V s (deep+1) (nodes+au (l.take i)+1+ar args+au g)=true:=kj.2 ⟨by omega,by omega,r1⟩
      rw [k6]at this;cases this)
     simp (maxSteps:=9^7)-implicitDefEqProofs+contextual [-X.ev,v,u,t,Z,ex9,R]
    |true=>
     obtain ⟨rfl,rfl⟩:=hl9 k6;have k6':=kj.1 k6;have wi:IntKind.i64.wrap ((i:Int)+1)=(i:Int)+1:=ai ⟨by omega,by omega⟩;simp (maxSteps:=9^7)-implicitDefEqProofs+contextual [-X.ev,v,u,t,f10,f20,f21,f22,wi];refine ⟨j- 1,by omega,M2.trans (N5.trans ((Mod.bT A).trans (P.trans (M8.trans M9)))),i+1,by omega,cx.symm,by simp,?_,by omega,fun _=>by omega,?_⟩
     ·rw [Tt,t1,t2]
      rw [show stmts+aC (l.take i)+1+aC g+aC s=stmts+(aC (l.take i)+(1+aC g+aC s)) by omega,show nodes+au (l.take i)+1+ar args+au g+au s=nodes+(au (l.take i)+(1+ar args+au g+au s)) by omega]
     ·intro op' B NT Vm Vo I
      rw [aq1,W]at I;rcases aq0.1 I with I|I
      ·exact aH _ _ _ _ _ I
      ·simp only [Option.toList_some,List.mem_singleton]at I
       cases I;refine ⟨⟨by omega,by omega⟩,?_⟩;rw [eL,uz hV,Y,fW];simp only [k2,k3,k5'.2.2,k6'.2.2,decide_true,Bool.true_and,aqW];exact GC
open Go
theorem nA {c:Nat}:∀{a b x y:List Value},aL c a=some x→aL c b=some y→aL c (a++b)=some (x++y)
 |[],b,x,y,h,k=>by simp [aL]at h;subst h;simpa using k
 |v::a,b,x,y,h,k=>by
  simp only [aL]at h;split at h
  case h_2=>cases h
  rename_i z m d e;cases h;have:=nA e k;simp only [List.cons_append,aL,d,this]
theorem Ad {H:AH} {b o n m:Nat} {x y:List Value} (h:H.ldn ⟨b,o,none⟩ n=some x) (k:H.ldn ⟨b,o+n,none⟩ m=some y):H.ldn ⟨b,o,none⟩ (n+m)=some (x++y):=by
 unfold AH.ldn at h k⊢;dsimp only at h k⊢
 cases a:H.get b with
 |none=>simp [a]at h
 |some z=>
  cases z with
  |map es=>simp [a]at h
  |cells z c=>
   simp only [a]at h k⊢;obtain ⟨g,h⟩:=aw h;obtain ⟨f,k⟩:=aw k;simp only [aqS]at g f
   have e:(c.drop o).take (n+m)=(c.drop o).take n++(c.drop (o+n)).take m:=by
    rw [List.take_add,List.drop_drop]
   rw [show decide (o+(n+m)≤c.length)=true by simp;omega,cond_true,e]
   cases d:decide (b<H.n0)with
   |false=>
    rw [d]at h k;simp only [cond_false,aqH]at h k⊢;rw [h,k]
   |true=>
    rw [d]at h k;simp only [cond_true]at h k⊢;exact nA h k
theorem Rows.GG {H:AH} {sz:Nat} {v:Value} {rows:List (List Value)} (h:Rows H sz v rows):∀r∈rows,r.length=sz:=by
 intro r a;obtain ⟨i,hi,rfl⟩:=List.mem_iff_getElem.1 a;obtain ⟨b,o,c,e,d⟩:=h.at (aqG hi);exact (db d).2
theorem cg {sz:Nat}:∀{rows:List (List Value)},(∀r∈rows,r.length=sz)→rows.flatten.length=rows.length*sz
 |[],_=>by simp
 |r::rows,h=>by
  rw [List.flatten_cons,aqP,h r (by simp),cg fun q a=>h q (by simp [a]),List.length_cons,Nat.succ_mul];omega
theorem Rows.whole {H:AH} {sz b o c:Nat} {rows:List (List Value)} (h:Rows H sz (.slice (some ⟨b,o,none⟩) rows.length c) rows):∀k,k≤rows.length→0<k→H.ldn ⟨b,o,none⟩ (k*sz)=some (rows.take k).flatten:=by
 intro k
 induction k with
 |zero=>intro _ h;omega
 |succ k ih=>
  intro g _;obtain ⟨l,f,j,e,d⟩:=h.at (i:=k) (aqG (by omega));cases e;rw [aq1,aqG (by omega),List.flatten_append];by_cases a:k=0
  ·subst a
   simpa using d
  ·have:=Ad (ih (by omega) (by omega)) d
   rw [show(k+1)*sz=k*sz+sz by rw [Nat.succ_mul],this];simp only [Option.toList_some,List.flatten_cons,List.flatten_nil,List.append_nil]
theorem Rows.src {H:AH} {sz:Nat} {v:Value} {rows:List (List Value)} (h:Rows H sz v rows):pQ H sz v=some rows.flatten∧mZ v=some rows.length:=by
 obtain ⟨a,c,rfl,k⟩:=h.is;refine ⟨?_,rfl⟩
 by_cases e:rows=[]
 ·subst e
  cases a<;>simp [pQ]
 ·have d:0<rows.length:=List.length_pos_iff.2 e
  obtain ⟨b,o,rfl,h2⟩:=k 0 _ (aqG d);have:=Rows.whole (H:=H) (sz:=sz) (b:=b) (o:=o) (c:=c) (rows:=rows) ⟨_,_,rfl,k⟩ rows.length (aqK _) d;simp only [pQ,nb];rw [show decide (rows.length=0)=false by simp [e],cond_false,this,List.take_length]
structure dK (H:AH) (sz:Nat) (v:Value) (rows:List (List Value)):Prop where
 is:(v= .slice none 0 0∧rows=[])∨∃b,v= .slice (some ⟨b,0,none⟩) rows.length rows.length∧H.n0≤b∧H.get b=some (.cells sz rows.flatten)
 len:∀r∈rows,r.length=sz
def aR (v:Value) (b:Nat):Prop:=∃o n c,v= .slice (some ⟨b,o,none⟩) n c
theorem bl (b b' o n c:Nat):aR (.slice (some ⟨b,o,none⟩) n c) b'↔b'=b:=by
 unfold aR;constructor
 ·rintro ⟨a,d,f,e⟩;cases e;rfl
 ·rintro rfl;exact ⟨_,_,_,rfl⟩
theorem dL (b n c:Nat):¬ aR (.slice none n c) b:=by rintro ⟨_,_,_,e⟩;cases e
theorem dK.nil (H:AH) (sz:Nat):dK H sz (.slice none 0 0) []:=⟨.inl ⟨rfl,rfl⟩,by simp⟩
theorem dK.lt {H:AH} {sz b:Nat} {v:Value} {rows:List (List Value)} (h:dK H sz v rows) (a:aR v b):b<H.nx:=by
 rcases h.is with⟨rfl,_⟩|⟨d,rfl,_,c⟩
 ·exact absurd a (dL _ _ _)
 ·rw [(bl _ _ _ _ _).1 a];exact AH.aS c
theorem dK.shape {H:AH} {sz:Nat} {v:Value} {rows:List (List Value)} (h:dK H sz v rows):∃a c,v= .slice a rows.length c:=by
 rcases h.is with⟨rfl,rfl⟩|⟨b,rfl,_⟩
 ·exact ⟨_,_,rfl⟩
 ·exact ⟨_,_,rfl⟩
theorem iL {sz:Nat}:∀{rows:List (List Value)} {i:Nat} {r:List Value},(∀r∈rows,r.length=sz)→rows[i]?=some r→((rows.flatten.drop (i*sz)).take sz)=r∧i*sz+sz≤rows.flatten.length
 |[],i,r,_,h=>by simp at h
 |x::rows,0,r,a,h=>by
  simp at h;subst h;have:=a x (by simp);simp [this]
 |x::rows,i+1,r,a,h=>by
  have b:=a x (by simp);have ih:=iL (fun q c=>a q (by simp [c])) (i:=i) (r:=r) (rows:=rows) (by simpa using h);rw [List.flatten_cons,Nat.succ_mul,aqP,b];refine ⟨?_,by omega⟩;rw [show i*sz+sz=x.length+i*sz by omega,←List.drop_drop,List.drop_left];exact ih.1
theorem dK.rows {H:AH} {sz:Nat} {v:Value} {rows:List (List Value)} (h:dK H sz v rows):Rows H sz v rows:=by
 rcases h.is with⟨rfl,rfl⟩|⟨b,rfl,c,a⟩
 ·exact ⟨_,_,rfl,by simp⟩
 ·refine ⟨_,_,rfl,fun i r hi=>⟨b,0,rfl,?_⟩⟩
  obtain ⟨e,d⟩:=iL h.len hi;rw [bH a c (by simpa using d)]
  simpa using e
theorem dK.mod {S:Nat→Prop} {H H':AH} {sz:Nat} {v:Value} {rows:List (List Value)} (h:dK H sz v rows) (M:Mod S H H') (hs:∀b,aR v b→¬ S b):dK H' sz v rows:=by
 refine ⟨?_,h.len⟩;rcases h.is with⟨rfl,rfl⟩|⟨b,rfl,c,a⟩
 ·exact .inl ⟨rfl,rfl⟩
 ·exact .inr ⟨b,rfl,by rw [M.n0];exact c,M.get (hs b ((bl _ _ _ _ _).2 rfl)) a⟩
theorem dK.ext {H H':AH} {sz:Nat} {v:Value} {rows:List (List Value)} (h:dK H sz v rows) (X:Ext H H'):dK H' sz v rows:=h.mod (Mod.bT (S:=fun _=>False) X) (by simp)
theorem sO {H:AH} {sz bytes:Nat} {s x:Value} {rows new:List (List Value)} (q:H.n0≤H.nx) (hs:dK H sz s rows) (p:Rows H sz x new) (d:(rows.length+new.length)*bytes≤2^47) (m:rows.length+new.length<2^62):
 ∃i H',bm sz bytes H s x=some (i,H')∧dK H' sz i (rows++new)∧Mod (aR s) H H'∧(∀b,aR i b→aR s b∨H.nx≤b)∧(new≠[]→∀b,aR i b→H.nx≤b):=by
 obtain ⟨o,a⟩:=p.src;have u:=p.GG
 have t:∀r∈rows++new,r.length=sz:=by
  intro r z;rcases aq0.1 z with h|h
  ·exact hs.len r h
  ·exact u r h
 by_cases f:new=[]
 ·subst f
  refine ⟨s,H,?_,by simpa using hs,Mod.refl _ _,fun b d=>.inl d,fun h=>absurd rfl h⟩;rcases hs.is with⟨rfl,rfl⟩|⟨b,rfl,n,k⟩
  ·simp [bm,a]
  ·simp [bm,a]
 have w:0<new.length:=List.length_pos_iff.2 f;have e:¬ new.length=0:=by omega
 have C:new.flatten.length=new.length*sz:=cg u
 by_cases j:rows=[]
 ·subst j
  simp only [List.length_nil,Nat.zero_add]at d m;refine ⟨.slice (some ⟨H.nx,0,none⟩) new.length new.length,H.alloc (.cells sz new.flatten),?_,⟨.inr ⟨H.nx,rfl,q,cq _ _⟩,t⟩,Mod.bT (Ext.alloc _ _),fun b d=>.inr (by rw [(bl _ _ _ _ _).1 d];exact aqK _),fun _ b d=>by rw [(bl _ _ _ _ _).1 d];exact aqK _⟩;rcases hs.is with⟨rfl,_⟩|⟨b,rfl,n,k⟩
  ·simp [bm,a,o,e,f,d,m,nb]
  ·simp [bm,a,o,e,f,d,m,nb]
 have v:0<rows.length:=List.length_pos_iff.2 j;rcases hs.is with⟨rfl,h⟩|⟨b,rfl,n,k⟩
 ·exact absurd h j
 have g:H.ldn ⟨b,0,none⟩ (rows.length*sz)=some rows.flatten:=by
  have:=cg hs.len;rw [bH k n (by omega),←this];simp only [List.drop_zero,List.take_length]
 have y:H.kD b sz=true:=by simp [AH.kD,k]
 have B:¬ rows.length+new.length≤rows.length:=by omega
 have A:¬ rows.length=0:=by omega
 refine ⟨.slice (some ⟨H.nx,0,none⟩) (rows++new).length (rows++new).length,(H.put b none).alloc (.cells sz (rows++new).flatten),?_,⟨.inr ⟨H.nx,rfl,q,?_⟩,t⟩,⟨rfl,aq7 _,fun c l hs=>?_⟩,fun c l=>.inr (by rw [(bl _ _ _ _ _).1 l];exact aqK _),fun _ c l=>by rw [(bl _ _ _ _ _).1 l];exact aqK _⟩
 ·simp [bm,a,o,e,f,j,d,m,B,A,n,y,g]
 ·exact cq (H.put b none) _
 ·rw [bl]at hs
  rw [AH.dF,if_neg (by rw [AH.EK];omega),AH.rV,if_neg hs]
theorem BF {H:AH} {sz bytes:Nat} {s x:Value} {rows new:List (List Value)} (g:H.n0≤H.nx) (hs:dK H sz s rows) (f:Rows H sz x new) (h:(rows.length+new.length)*bytes≤2^47) (i:rows.length+new.length<2^62):
 ∃e H',bm sz bytes H s x=some (e,H')∧dK H' sz e (rows++new)∧Mod (aR s) H H'∧∀b,aR e b→aR s b∨H.nx≤b:=by
 obtain ⟨e,H',a,b,c,d,_⟩:=sO g hs f h i;exact ⟨e,H',a,b,c,d⟩
theorem gG (z c:List Value) (h:c.length=z.length):aJ z 0 c=c:=by
 have:aJ z 0 c=c++z.drop c.length:=by cases z<;>rfl
 rw [this,List.drop_eq_nil_of_le (by omega)];simp
theorem vM {sz:Nat} {z:List Value} {H:AH} {v:Value} (b:(aT v).length=sz) (c:cC v=false) (a:z.length=sz):
 ng 1 sz z H [(0,sz,v)]=some (.slice (some ⟨H.nx,0,none⟩) 1 1,H.alloc (.cells sz (aT v))):=by
 simp only [ng,iX,nb,b,a,c,Nat.zero_add,decide_true,aqK,Bool.not_false,Bool.and_self,cond_true];rw [gG _ _ (by omega)];rfl
theorem ji {H H1:AH} {sz bytes:Nat} {s:Value} {rows:List (List Value)} {r:List Value} (d:H.n0≤H.nx) (hs:dK H sz s rows) (h:r.length=sz) (l:H.alloc (.cells sz r)=H1) (f:(rows.length+1)*bytes≤2^47) (j:rows.length+1<2^62):
 ∃a H',bm sz bytes H1 s (.slice (some ⟨H.nx,0,none⟩) 1 1)=some (a,H')∧dK H' sz a (rows++[r])∧Mod (aR s) H H'∧(∀b,aR a b→H.nx≤b)∧H'.n0=H.n0∧H.nx≤H'.nx∧H'.n0≤H'.nx∧H1.n0=H.n0∧H.nx≤H1.nx∧H1.nx≤H'.nx:=by
 subst l;have X:=Ext.alloc H (.cells sz r)
 have g:Rows (H.alloc (.cells sz r)) sz (.slice (some ⟨H.nx,0,none⟩) 1 1) [r]:=⟨_,_,rfl,fun i q hi=>by
  cases i with
  |zero=>
   simp at hi;subst hi;refine ⟨H.nx,0,rfl,?_⟩;have:=rD d sz r;rw [h]at this
   simpa using this
  |succ i=>simp at hi⟩
 obtain ⟨a,H',e,o,M,_,k⟩:=sO (bytes:=bytes) (X.wf d) (hs.ext X) g f j;have c:Mod (aR s) H H':=(Mod.bT X).trans M;exact ⟨a,H',e,o,c,fun b f=>aq2 X.nx (k (by simp) b f),c.n0,c.nx,c.wf d,X.n0,X.nx,M.nx⟩
structure Sub (G H:AH):Prop where
 n0:H.n0=G.n0
 nx:G.nx≤H.nx
 get:∀b x,G.get b=some x→H.get b=some x
theorem Sub.bT {G H:AH} (h:Ext G H):Sub G H:=⟨h.n0,h.nx,fun b x k=>h.get k⟩
theorem Sub.trans {a b c:AH} (h:Sub a b) (k:Sub b c):Sub a c:=⟨k.n0.trans h.n0,aq2 h.nx k.nx,fun x y e=>k.get x y (h.get x y e)⟩
theorem Sub.mod {S:Nat→Prop} {G H H':AH} (h:Sub G H) (M:Mod S H H') (hs:∀b,S b→G.get b=none):Sub G H':=
 ⟨M.n0.trans h.n0,aq2 h.nx M.nx,fun b x k=>M.get (fun q=>by rw [hs b q]at k;cases k) (h.get b x k)⟩
theorem Sub.QF {G H H':AH} (h:Sub G H) (X:Ext H H'):Sub G H':=h.trans (Sub.bT X)
theorem Sub.ldn {G H:AH} (h:Sub G H) {a:Addr} {n:Nat} {vs:List Value} (k:G.ldn a n=some vs):H.ldn a n=some vs:=by
 obtain ⟨x,b⟩:=arj.1 (db k).1;rw [←k];exact eR (by rw [h.get _ _ b,b]) h.n0
theorem Sub.ld {G H:AH} (h:Sub G H) {a:Addr} {v:Value} (k:G.ld a=some v):H.ld a=some v:=bo.2 (h.ldn (bo.1 k))
theorem Rows.sub {H H':AH} (E:Sub H H') {sz:Nat} {v:Value} {rows:List (List Value)} (h:Rows H sz v rows):Rows H' sz v rows:=by
 obtain ⟨a,c,rfl,k⟩:=h.is;exact ⟨a,c,rfl,fun i r hi=>let⟨b,o,d,h2⟩:=k i r hi;⟨b,o,d,E.ldn h2⟩⟩
theorem fb.sub {H H':AH} (E:Sub H H') {v:Value} {l:List Int} (h:fb H v l):fb H' v l:=Rows.sub E h
def AH.tY (H:AH):List Nat→AH
 |[]=>H
 |b::l=>(H.put b none).tY l
theorem sQ:∀(l:List Nat) (H:AH) (c:Nat),(H.tY l).get c=if c∈l then none else H.get c
 |[],H,c=>by simp [AH.tY]
 |b::l,H,c=>by
  rw [AH.tY,sQ l,AH.rV];by_cases a:c∈l
  ·simp [a]
  ·by_cases h2:c=b<;>simp [a,h2]
theorem vN:∀(l:List Nat) (H:AH),(H.tY l).n0=H.n0
 |[],H=>rfl
 |b::l,H=>by rw [AH.tY,vN l];rfl
theorem vO:∀(l:List Nat) (H:AH),(H.tY l).nx=H.nx
 |[],H=>rfl
 |b::l,H=>by rw [AH.tY,vO l];rfl
theorem GI (l:List Nat) (H:AH):Sub (H.tY l) H:=⟨(vN l H).symm,by rw [vO];exact aqK _,fun b x k=>by
 rw [sQ]at k;split at k
 ·cases k
 ·exact k⟩
end
section
open Go
theorem xU {p:bC} (h:aA p.w p.vars=true):lq p.w p.vars p.body 1 0=bw p:=by
 unfold lq bw;rw [h,show decide ((1:Int)+bk p.body 0≤17)=decide (bk p.body 0≤16) by rw [arc];simp;omega,show decide (0+au p.body≤400)=decide (au p.body≤400) by rw [arc];simp];simp
theorem BG:eS [.int .i64 0,.int .i64 0] []=some (.agg #[.int .i64 0,.int .i64 0]):=rfl
theorem Ae {p:bC} {c:List Value} {H:AH} (j:H.n0≤H.nx) (V:p9 H c p):Ca E O 68 [.agg c.toArray] H (fun x H'=>x= .tuple #[.agg #[.int .i64 (if bw p=true then aC p.body else 0),.int .i64 (if bw p=true then au p.body else 0)],.bool (bw p)]∧Ext H H'):=by
 obtain ⟨vv,vb,Q,rfl,hi,I,G,U,W,Y⟩:=V.is;refine Ca.aW (F:=Zq) rfl rfl rfl ?_;have e:=Ext.alloc H (.cells 3 [.int .i64 p.w,vv,vb]);have u:(H.alloc (.cells 3 [.int .i64 p.w,vv,vb])).ld ⟨H.nx,0,none⟩=some (.int .i64 p.w):=aj j rfl;have t:(H.alloc (.cells 3 [.int .i64 p.w,vv,vb])).ld ⟨H.nx,1,none⟩=some vv:=aj j rfl;have g:(H.alloc (.cells 3 [.int .i64 p.w,vv,vb])).ld ⟨H.nx,2,none⟩=some vb:=aj j rfl;have d:(H.alloc (.cells 3 [.int .i64 p.w,vv,vb])).ldn ⟨H.nx,0,none⟩ 3=some [.int .i64 p.w,vv,vb]:=bj j 3 rfl;generalize cF:H.alloc (.cells 3 [.int .i64 p.w,vv,vb])=f at e u t g d;have C:=e.wf j;have a:=Ext.alloc f (.cells 2 [.int .i64 0,.int .i64 0]);have K:=cq f (.cells 2 [.int .i64 0,.int .i64 0]);generalize j0:f.alloc (.cells 2 [.int .i64 0,.int .i64 0])=H2 at a K;have D:=a.wf C;have Z:H2.n0≤f.nx:=by rw [a.n0];exact C
 replace u:=a.ld u;replace t:=a.ld t;replace g:=a.ld g;replace d:=a.ldn d;have M:=e.trans a;simp (maxSteps:=9^7)-implicitDefEqProofs+contextual [-X.ev,Zq,cF,j0,u,t];apply ah
 ·(simp-implicitDefEqProofs [-X.ev];rfl)
 refine (BC D (I.ext M) G p.w).mono ?_;rintro x N ⟨rfl,b⟩;have J:=b.get K;have r:N.n0≤f.nx:=by rw [b.n0];exact Z
 have jw:=M.trans b;have T:=b.wf D
 cases s:aA p.w p.vars with
 |false=>
  have h2:bw p=false:=by simp [bw,s]
  obtain ⟨H4,P,v,y9,S,o⟩:=bR J r (k:=0) (vs:=[.int .i64 0,.int .i64 0]) (by simp);have i:=bH o (by rw [S];exact r) (k:=0) (n:=2) (by simp [aJ]);have rF:Ext H H4:=(e.trans (Ext.refl _)).trans (((a.trans b).mod v (by rintro x rfl;exact aqK _)));simp [aJ]at i;simp (maxSteps:=9^7)-implicitDefEqProofs+contextual [-X.ev,s,h2,BG,P,i,rF]
 |true=>
  replace g:=b.ld g;replace d:=b.ldn d;simp (maxSteps:=9^7)-implicitDefEqProofs+contextual [-X.ev,d,g];apply ah
  ·(simp-implicitDefEqProofs [-X.ev];rfl)
  refine (GB s G _ p.body vb Q f N 1 0 0 f.nx (aqV _) T (a.trans b) (aqK _) (I.ext e) Y (U.ext e) (W.ext e) J r (by omega) (by omega) (by omega)).mono ?_;rintro x H4 ⟨rfl,v,s',n',o,l⟩;rw [xU s]at l⊢;have m:H4.n0≤f.nx:=by rw [v.n0];exact r
  have L:Ext f H4:=(a.trans b).mod v (by rintro x rfl;exact aqK _)
  cases h2:bw p with
  |false=>
   obtain ⟨H5,q,B,R,y,z⟩:=bR o m (k:=0) (vs:=[.int .i64 0,.int .i64 0]) (by simp);have h:=bH z (by rw [y];exact m) (k:=0) (n:=2) (by simp [aJ]);have A:Ext H H5:=e.trans (L.mod B (by rintro x rfl;exact aqK _));simp [aJ]at h;simp (maxSteps:=9^7)-implicitDefEqProofs+contextual [-X.ev,BG,q,h,A]
  |true=>
   obtain ⟨rfl,rfl⟩:=l h2;have i:=bH o m (k:=0) (n:=2) (by simp);obtain ⟨H5,q,B,R,y,z⟩:=bR o m (k:=0) (vs:=[.int .i64 (0+aC p.body),.int .i64 (0+au p.body)]) (by simp);have h:=bH z (by rw [y];exact m) (k:=0) (n:=2) (by simp [aJ]);have A:Ext H H5:=e.trans (L.mod B (by rintro x rfl;exact aqK _));simp [aJ]at i h q;simp (maxSteps:=9^7)-implicitDefEqProofs+contextual [-X.ev,i,q,h,A]
theorem qc {p:bC} {c:List Value} {H:AH} (f:H.n0≤H.nx) (g:p9 H c p):Ca E O 37 [.agg c.toArray] H (fun x H'=>x= .int .i64 (if bw p=true then 0 else 30)∧Ext H H'):=by
 refine Ca.aW (F:=a37) rfl rfl rfl ?_;have n:=g.len;have b:=Ext.alloc H (.cells c.length c);have d:(H.alloc (.cells c.length c)).ldn ⟨H.nx,0,none⟩ 3=some c:=bj f 3 (by assumption);generalize j:H.alloc (.cells c.length c)=s at b d;have e:=b.wf f;simp (maxSteps:=9^7)-implicitDefEqProofs+contextual [-X.ev,a37,j,d];apply ah
 ·(simp-implicitDefEqProofs [-X.ev];rfl)
 refine (Ae e (g.ext b)).mono ?_;rintro x r ⟨rfl,h⟩;have i:=h.wf e;obtain ⟨q,a,k,l,m,o⟩:=iK i (z:=2) (c:=[.int .i64 0,.int .i64 0]) (vs:=[.int .i64 (if bw p=true then aC p.body else 0),.int .i64 (if bw p=true then au p.body else 0)]) rfl;have X:=b.trans (h.trans k)
 cases h2:bw p with
 |false=>
  simp only [h2,Bool.false_eq_true,if_false]at a;simp (maxSteps:=9^7)-implicitDefEqProofs+contextual [-X.ev,a,X]
 |true=>
  simp only [h2,if_true]at a;simp (maxSteps:=9^7)-implicitDefEqProofs+contextual [-X.ev,a,X]
def Af (sz bytes:Nat):AF:=⟨1,8,[.tmp 2],.seq (.bI [o 2 (.mv (.k (.slice none 0 0)))]) (.seq (.seq (.bI [o 3 (.mv (.t 0)),o 4 (.eqk 2 false (.t 3) (.k (.slice none 0 0)))]) (.cond (.t 4) (.seq (.bI [o 2 (.mv (.k (.slice none 0 0)))]) .ret) .skip)) (.seq (.bI [o 5 (.bsl 0 sz [] []),o 6 (.mv (.t 0)),o 7 (.app sz bytes (.t 5) (.t 6)),o 2 (.mv (.t 7))]) .ret))⟩
theorem mL {f sz bytes:Nat} (t:O f=none) (w:E f=some (Af sz bytes)) {H:AH} {v:Value} {rows:List (List Value)} (m:H.n0≤H.nx) (j:Rows H sz v rows) (d:rows.length*bytes≤2^47) (y:rows.length<2^62):
 Ca E O f [v] H (fun x H'=>dK H' sz x rows∧Ext H H'∧∀b,aR x b→H.nx≤b):=by
 refine Ca.aW t w rfl ?_;obtain ⟨a,c,i⟩:=j.len
 cases a with
 |none=>
  have s:rows=[]:=by
   obtain ⟨C,B,e,k⟩:=j.is;rw [i]at e;cases e
   cases rows with
   |nil=>rfl
   |cons r rows=>obtain ⟨b,o,e,_⟩:=k 0 r rfl;cases e
  subst s;simp (maxSteps:=9^7)-implicitDefEqProofs+contextual [-X.ev,Af,i];exact ⟨dK.nil _ _,Ext.refl _,fun b d=>absurd d (dL _ _ _)⟩
 |some a=>
  have n:ng 0 sz [] H []=some (.slice (some ⟨H.nx,0,none⟩) 0 0,H.alloc (.cells sz [])):=rfl;have g:=Ext.alloc H (.cells sz [])
  have l:dK (H.alloc (.cells sz [])) sz (.slice (some ⟨H.nx,0,none⟩) 0 0) []:=⟨.inr ⟨H.nx,rfl,m,cq _ _⟩,by simp⟩
  generalize H.alloc (.cells sz [])=F at n g l;obtain ⟨A,D,p,q,z,u⟩:=BF (bytes:=bytes) (g.wf m) l (j.ext g) (by simpa using d) (by simpa using y);rw [i]at p;simp (maxSteps:=9^7)-implicitDefEqProofs+contextual [-X.ev,Af,i,n,p];refine ⟨by simpa using q,g.mod z (by intro b d;rw [bl]at d;subst d;exact aqK _),fun b d=>?_⟩;rcases u b d with h|h
  ·rw [bl]at h;subst h;exact aqK _
  ·exact aq2 g.nx h
def bg (l:List Int):List (List Value):=l.map fun n=>[.int .i64 n]
theorem kl {H:AH} {v:Value} {l:List Int} (a:H.n0≤H.nx) (c:fb H v l) (d:l.length≤2^40):
 Ca E O 70 [v] H (fun x H'=>dK H' 1 x (bg l)∧Ext H H'∧∀b,aR x b→H.nx≤b):=
 mL (sz:=1) (bytes:=8) rfl rfl a c (by simp [bg];omega) (by simp [bg];omega)
theorem dK.ints {H:AH} {v:Value} {l:List Int} (h:dK H 1 v (bg l)):fb H v l:=h.rows
theorem sR (l m:List Int):bg (l++m)=bg l++bg m:=by simp [bg]
theorem km {w:Int} (c:1≤w∧w≤8) (a:Int):isWord w a=(!decide (a<0)&& !decide (2^w.toNat≤a)):=by
 have b:bA w=true:=by simp [bA,c]
 rw [isWord,b,Bool.true_and,arc];simp
theorem sS {p:bC} {t:gA} {c d:List Value} {H:AH} (M:H.n0≤H.nx) (hp:p9 H c p) (ht:xH H d t) (hP:bw p=true):
 Ca E O 69 [.agg c.toArray,.agg d.toArray] H (fun x H'=>x= .bool (jg p t)∧Ext H H'):=by
 obtain ⟨vv,vb,rb,rfl,hi,hv,y6,hr,hl,mH⟩:=hp.is;obtain ⟨vs,vp,rfl,ss,sp,l1,l2,_,_⟩:=ht.is;have Q:aA p.w p.vars=true:=by simp [bw]at hP;exact hP.1
 have fR:1≤p.w∧p.w≤8:=⟨(aP Q).1,(aP Q).2.1⟩
 have kE:cT (p.vars.map (·.cells))≤48:=by
  rw [fQ]at Q;simp only [aqJ,aqS]at Q;exact Q.2.2.2.2
 refine Ca.aW (F:=Zr) rfl rfl rfl ?_;have X1:=Ext.alloc H (.cells 3 [.int .i64 p.w,vv,vb]);have A:(H.alloc (.cells 3 [.int .i64 p.w,vv,vb])).ld ⟨H.nx,0,none⟩=some (.int .i64 p.w):=aj M rfl;have d1:(H.alloc (.cells 3 [.int .i64 p.w,vv,vb])).ld ⟨H.nx,1,none⟩=some vv:=aj M rfl;have d2:(H.alloc (.cells 3 [.int .i64 p.w,vv,vb])).ld ⟨H.nx,2,none⟩=some vb:=aj M rfl;have d:(H.alloc (.cells 3 [.int .i64 p.w,vv,vb])).ldn ⟨H.nx,0,none⟩ 3=some [.int .i64 p.w,vv,vb]:=bj M 3 rfl;generalize cF:H.alloc (.cells 3 [.int .i64 p.w,vv,vb])=j at X1 A d1 d2 d;have bD:=X1.wf M;have T:=Ext.alloc j (.cells 2 [vs,vp]);have e0:(j.alloc (.cells 2 [vs,vp])).ld ⟨j.nx,0,none⟩=some vs:=aj bD rfl;have e1:(j.alloc (.cells 2 [vs,vp])).ld ⟨j.nx,1,none⟩=some vp:=aj bD rfl;have e:(j.alloc (.cells 2 [vs,vp])).ldn ⟨j.nx,0,none⟩ 2=some [vs,vp]:=bj bD 2 rfl;generalize j0:j.alloc (.cells 2 [vs,vp])=H2 at T e0 e1 e;have jh:=T.wf bD;replace A:=T.ld A;replace d1:=T.ld d1;have X:=X1.trans T;obtain ⟨a1,c1,lh⟩:=hv.len;obtain ⟨a2,c2,ui⟩:=ss.len;obtain ⟨a3,c3,N6⟩:=sp.len;have D1:=d1;rw [lh]at D1;simp (maxSteps:=9^7)-implicitDefEqProofs+contextual [-X.ev,Zr,cF,j0,D1];refine cm (fun k g H'=>Ext H2 H'∧∃i:Nat,i+k=p.vars.length∧g.get 2= .pointer (some ⟨H.nx,0,none⟩)∧g.get 3= .pointer (some ⟨j.nx,0,none⟩)∧g.get 11=vv∧g.get 12= .int .i64 p.vars.length∧g.get 13= .int .i64 i∧g.get 5= .int .i64 (cT ((p.vars.take i).map (·.cells)))) ?_ p.vars.length ⟨Ext.refl _,0,by simp,by simp,by simp,by simp [lh],by simp,by simp,by simp [cT]⟩;rintro k g U ⟨B,i,hi,l,f3,f11,f12,f13,S⟩;have pN:=B.wf jh;have D:=X.trans B;replace A:=B.ld A;replace e0:=B.ld e0;replace e1:=B.ld e1;have lT:=y6.1;by_cases h:i<p.vars.length
 ·obtain ⟨y,hy⟩:∃y,p.vars[i]?=some y:=⟨_,aqG h⟩
  obtain ⟨b,o,c',N,bL,_⟩:=(hv.ext D).at hy;rw [N]at f11;obtain ⟨I,sH4,m,ae0,ae1,q,Z⟩:=dZ (H:=U) pN (z:=3) (c:=[.string ⟨#[]⟩,.int .i64 0,.int .i64 0]) (vs:=[.string y.name,.int .i64 y.level,.int .i64 y.cells]) rfl;have q0:I.ld ⟨U.nx,0,none⟩=some (.string y.name):=Z 0 _ rfl;have q1:I.ld ⟨U.nx,1,none⟩=some (.int .i64 y.level):=Z 1 _ rfl;have W:I.ld ⟨U.nx,2,none⟩=some (.int .i64 y.cells):=Z 2 _ rfl;clear Z;replace q:I.ldn ⟨U.nx,0,none⟩ 3=some [.string y.name,.int .i64 y.level,.int .i64 y.cells]:=q;have VZ:=m.wf pN;simp (maxSteps:=9^7)-implicitDefEqProofs+contextual [-X.ev,l,f3,f11,f12,f13,S,h,bL,Vr.row,sH4,W];rw [ai (n:=(i:Int)+1) ⟨by omega,by omega⟩];refine ⟨k- 1,by omega,B.trans m,i+1,by omega,N.symm,by simp,?_⟩;rw [aq1];simp [cT,ara,hy,List.foldl_append]
 have ht:p.vars.take i=p.vars:=aqN (by omega);rw [ht]at S
 obtain ⟨F,hF⟩:∃F,jg p t=F:=⟨_,rfl⟩
 rw [hF];have r:=e0;have C:=e1;rw [ui]at r;rw [N6]at C
 have EA:¬ ((t.store.length:Int)=cT (p.vars.map (·.cells))∧(t.cd.length:Int)≤16∧∀a∈t.store++t.cd,isWord p.w a=true)→F=false:=by
  intro q;rw [ark,←hF];intro h;apply q;simp only [jg,bB,aqJ,aqS,aqW]at h;refine ⟨h.1.1,by omega,fun a f=>?_⟩;rcases aq0.1 f with f|f
  ·exact h.1.2 a f
  ·exact h.2.2 a f
 by_cases J:(t.store.length:Int)=cT (p.vars.map (·.cells))
 case neg=>
  have v:F=false:=EA (fun q=>J q.1);simp (maxSteps:=9^7)-implicitDefEqProofs+contextual [-X.ev,l,f3,f11,f12,f13,S,h,r,C,J,v,D]
 by_cases k2:(16:Int)<t.cd.length
 case pos=>
  have v:F=false:=EA (fun q=>by have:=q.2.1;omega);simp (maxSteps:=9^7)-implicitDefEqProofs+contextual [-X.ev,l,f3,f11,f12,f13,S,h,r,C,J,k2,v,D]
 simp (maxSteps:=9^7)-implicitDefEqProofs+contextual [-X.ev,l,f3,f11,f12,f13,S,h,r,C,J,k2];rw [ui]at ss;rw [N6]at sp;apply ah
 ·(simp-implicitDefEqProofs [-X.ev];rfl)
 refine (kl pN (ss.ext D) (by omega)).mono ?_;rintro x I ⟨o4,m,k4⟩;have qO:=m.wf pN;have rF:=D.trans m;have q1:=bo.1 C;have W:=bo.1 (m.ld C);obtain ⟨s',H5,f,Y,G,k5⟩:=BF (bytes:=8) qO o4 (sp.ext rF) (by simp [bg];omega) (by simp [bg];omega);have GJ:Ext H H5:=D.trans (m.mod G k4);have qP:=G.wf qO;have Y:dK H5 1 s' (bg (t.store++t.cd)):=by rw [sR];exact Y
 have hLl:((t.store++t.cd).length:Int)=t.store.length+t.cd.length:=by rw [aqP];omega
 have u:∀(P:Int→Prop),(∀a∈t.store++t.cd,P a)→(∀a∈t.store,P a)∧∀a∈t.cd,P a:=fun P h=>⟨fun a f=>h a (by simp [f]),fun a f=>h a (by simp [f])⟩
 generalize t.store++t.cd=L at Y EA hLl u;have i5:=Y.ints;obtain ⟨as_,cs_,gM⟩:=i5.len;have iI:I.nx≤H5.nx:=G.nx
 have q3:H5.ldn ⟨j.nx,1,none⟩ 1=some [.slice a3 t.cd.length c3]:=G.ldn (a:=⟨j.nx,1,none⟩) (fun hb=>by
  have h1:=k4 _ hb
  have h2:=(AH.aS (arj.1 (db q1).1).choose_spec)
  dsimp only at h1 h2
  omega) W
 rw [gM]at f;simp (maxSteps:=9^7)-implicitDefEqProofs+contextual [-X.ev,f,bq,aM,aN,m.n0,m.nx,q1,W,q3,G.n0,iI]
 have Tu:H5.ld ⟨H.nx,0,none⟩=some (.int .i64 p.w):=((B.trans (Ext.refl _)).trans (Ext.refl _)|>fun _=>(G.ld (a:=⟨H.nx,0,none⟩) (fun hb=>by
  have h1:=k4 _ hb
  have h2:=(AH.aS (arj.1 (db (bo.1 A)).1).choose_spec)
  dsimp only at h1 h2
  omega) (m.ld A)))
 have sh:=uy fR;have Tq:(L.length:Int)≤64:=by omega
 refine cm (fun k g H'=>H'=H5∧∃i:Nat,i+k=L.length∧g.get 2= .pointer (some ⟨H.nx,0,none⟩)∧g.get 38=s'∧g.get 39= .int .i64 L.length∧g.get 40= .int .i64 i∧∀a∈L.take i,isWord p.w a=true) ?_ L.length ⟨rfl,0,by simp,by simp [l],by simp [gM],by simp,by simp,by simp⟩;rintro k' bK H' ⟨rfl,K,pS,l,f38,f39,f40,aH⟩;by_cases R:K<L.length
 ·obtain ⟨n,hn⟩:∃n,L[K]?=some n:=⟨_,aqG R⟩
  obtain ⟨b,o,c',N,eQ⟩:=i5.at hn;rw [N]at f38;have v:isWord p.w n=false→F=false:=fun z=>EA (fun q=>by have:=q.2.2 n (aqL hn);rw [z]at this;cases this)
  rw [km fR]at v;have wi:IntKind.i64.wrap ((K:Int)+1)=(K:Int)+1:=ai ⟨by omega,by omega⟩;by_cases V:n<0
  ·simp (maxSteps:=9^7)-implicitDefEqProofs+contextual [-X.ev,l,f38,f39,f40,R,eQ,Tu,V,v,GJ]
  by_cases z2:2^p.w.toNat≤n
  ·simp (maxSteps:=9^7)-implicitDefEqProofs+contextual [-X.ev,l,f38,f39,f40,R,eQ,Tu,V,sh,z2,v,GJ]
  simp (maxSteps:=9^7)-implicitDefEqProofs+contextual [-X.ev,l,f38,f39,f40,R,eQ,Tu,V,sh,z2,wi];refine ⟨k'- 1,by omega,K+1,by omega,N.symm,by simp,fun z s=>?_⟩;rw [aq1,hn]at s;rcases aq0.1 s with s|s
  ·exact aH z s
  ·simp at s;subst s;rw [km fR];simp [V,z2]
 ·have Ac:F=true:=by
   rw [aqN (by omega)]at aH;rw [←hF];simp only [jg,bB,aqJ,aqS,aqW];exact ⟨⟨J,(u _ aH).1⟩,by omega,(u _ aH).2⟩
  simp (maxSteps:=9^7)-implicitDefEqProofs+contextual [-X.ev,l,f38,f39,f40,R,GJ,Ac]
theorem DH {p:bC} {t:gA} {c d:List Value} {H:AH} (m:H.n0≤H.nx) (i:p9 H c p) (n:xH H d t):
 Ca E O 38 [.agg c.toArray,.agg d.toArray] H (fun x H'=>x= .int .i64 (gC p 0 t)∧Ext H H'):=by
 refine Ca.aW (F:=Ze) rfl rfl rfl ?_;have z:=i.len;have y:d.length=2:=by obtain ⟨v,w,e,_⟩:=n.is;rw [e];rfl
 have j:=Ext.alloc H (.cells c.length c);have q:(H.alloc (.cells c.length c)).ldn ⟨H.nx,0,none⟩ 3=some c:=bj m 3 (by assumption);generalize u:H.alloc (.cells c.length c)=h at j q;have l:=j.wf m;have g:=Ext.alloc h (.cells d.length d);have r:(h.alloc (.cells d.length d)).ldn ⟨h.nx,0,none⟩ 2=some d:=bj l 2 (by assumption);generalize s:h.alloc (.cells d.length d)=C at g r;have k:=g.wf l;replace q:=g.ldn q;have X:=j.trans g;simp (maxSteps:=9^7)-implicitDefEqProofs+contextual [-X.ev,Ze,u,s,q];apply ah
 ·(simp-implicitDefEqProofs [-X.ev];rfl)
 refine (qc k (i.ext X)).mono ?_;rintro x B ⟨rfl,f⟩;replace q:=f.ldn q;replace r:=f.ldn r;have a:=X.trans f
 cases b:bw p with
 |false=>
  simp (maxSteps:=9^7)-implicitDefEqProofs+contextual [-X.ev,b,gC,a]
 |true=>
  simp (maxSteps:=9^7)-implicitDefEqProofs+contextual [-X.ev,q,r];apply ah
  ·(simp-implicitDefEqProofs [-X.ev];rfl)
  refine (sS (f.wf k) (i.ext a) (n.ext a) b).mono ?_;rintro x A ⟨rfl,o⟩
  cases h2:jg p t with
  |false=>
   simp (maxSteps:=9^7)-implicitDefEqProofs+contextual [-X.ev,b,h2,gC,a.trans o]
  |true=>
   simp (maxSteps:=9^7)-implicitDefEqProofs+contextual [-X.ev,b,h2,gC,a.trans o]
end
end Go.Proofs.YtppcmpmnglaleaaGreatDoor.A
