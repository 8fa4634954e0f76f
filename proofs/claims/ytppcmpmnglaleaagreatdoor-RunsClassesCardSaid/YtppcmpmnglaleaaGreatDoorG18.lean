/- Texts that stand one behind the other: S36, S37, S38, S39, S40, S41, S42, S43, S44, S45, S46, S47. -/
import Derived.Test.YtppcmpmnglaleaaGreatDoorG17
set_option linter.unusedVariables false
set_option linter.unusedSimpArgs false
set_option maxRecDepth 10000
namespace Go.Proofs.YtppcmpmnglaleaaGreatDoor.A
section
open Go
theorem Gk {l:List bF} {s:Value} {rows:List (List Value)} {H:AH} (Y:H.n0≤H.nx) (K:Rows H 5 s rows) (M:je H rows l) (L:l.length<2^40) (mP:av l<2^60):
 Ca E O 146 [s] H (fun x H'=>x= .int .i64 (ar l)∧Ext H H'):=by
 refine Ca.aR (F:=a146) rfl rfl rfl ?_;obtain ⟨p0,c0,p⟩:=K.len;rw [M.length]at p;simp (maxSteps:=9^7)-implicitDefEqProofs+contextual [-X.ev,a146,p];refine cn (fun k j H'=>Ext H H'∧∃i:Nat,i+k=l.length∧j.get 6=s∧j.get 7= .int .i64 l.length∧j.get 8= .int .i64 i∧j.get 3= .int .i64 (ar (l.take i))) ?_ l.length ⟨Ext.refl _,0,by simp,by simp [p],by simp,by simp,by simp [ar]⟩;rintro k j a ⟨m,i,hi,A,v,u,r⟩;have I:=m.wf Y;have bt:=aK l;by_cases h:i<l.length
 ·obtain ⟨y,t⟩:∃y,l[i]?=some y:=⟨_,avg h⟩
  have t1:=fR t;have t2:=aV l (i+1);have t3:=aV l i;have u1:=gV t;have u2:=cy l i;have u3:=cy l (i+1);obtain ⟨e,f,G,C,D⟩:=y;obtain ⟨b,o,c',qz,qA,qB,Z4,Z5,Z6,J,Z,_,_,_,_,_,U,T,S,R,Q,g1,g2,g3,g4,g5,g6⟩:=je.row (K.ext m) (je.ext m M) t;have V:pF a [.int .i64 e,.int .i64 f,qz,qA,qB] (.mk e f G C D):=.mk U T S R Q g1 g2 g3 g4 g5 g6;have w:=A;rw [J]at w;obtain ⟨d,P,B,Jk,Jl,q,g⟩:=eZ (H:=a) I (z:=5) (c:=[.int .i64 0,.int .i64 0,.slice none 0 0,.slice none 0 0,.slice none 0 0]) (vs:=[.int .i64 e,.int .i64 f,qz,qA,qB]) rfl;have q0:d.ld ⟨a.nx,0,none⟩=some (.int .i64 e):=g 0 _ rfl;have q1:d.ld ⟨a.nx,1,none⟩=some (.int .i64 f):=g 1 _ rfl;have q2:d.ld ⟨a.nx,2,none⟩=some qz:=g 2 _ rfl;have q3:d.ld ⟨a.nx,3,none⟩=some qA:=g 3 _ rfl;have q4:d.ld ⟨a.nx,4,none⟩=some qB:=g 4 _ rfl;clear g;replace q:d.ldn ⟨a.nx,0,none⟩ 5=some [.int .i64 e,.int .i64 f,qz,qA,qB]:=q;have W:=B.wf I;have N:IntKind.i64.wrap (ar (l.take i)+bg (.mk e f G C D))=ar (l.take (i+1)):=by rw [ai ⟨by omega,by omega⟩];omega
  simp (maxSteps:=9^7)-implicitDefEqProofs+contextual [-X.ev,w,r,v,u,h,Z,P,q];apply ah
  ·(simp-implicitDefEqProofs [-X.ev];rfl)
  refine (DV _ _ _ d (avv _) W (pF.ext B V) (by omega)).mono ?_;rintro x H4 ⟨rfl,X4⟩;simp (maxSteps:=9^7)-implicitDefEqProofs+contextual [-X.ev,w,r,v,u,N];rw [ai (n:=(i:Int)+1) ⟨by omega,by omega⟩];exact ⟨k- 1,by omega,(m.trans B).trans X4,i+1,by omega,J.symm,by simp,rfl⟩
 rw [avn (by omega)]at r;rw [p]at A;simp (maxSteps:=9^7)-implicitDefEqProofs+contextual [-X.ev,A,r,v,u,h];exact m
theorem OU {H:AH} {m:Nat} {d:Value} {rest:List Value} {rows:List (List Value)} {a:Option Addr} {n c:Nat} {k:Int} (M:H.n0≤H.nx) (i:H.get m=some (.cells 14 (d::rest))) (B:H.n0≤m) (p:gN H 2 d rows) (f:¬ aX d m) (g:rows.length≤2^40):
 Ca E O 105 [.pointer (some ⟨m,0,none⟩),.slice a n c,.int .i64 k] H (fun x H'=>∃e,H'.get m=some (.cells 14 (e::rest))∧gN H' 2 e (if n=0 then rows else rows++[[.slice a n c,.int .i64 k]])∧Mod (fun b=>b=m∨aX d b) H H'∧∀b,aX e b→aX d b∨H.nx≤b):=by
 refine Ca.aR (F:=a105) rfl rfl rfl ?_;by_cases w:n=0
 ·subst w
  simp (maxSteps:=9^7)-implicitDefEqProofs+contextual [-X.ev,a105];exact ⟨d,i,p,Mod.refl _ _,fun b g=>.inl g⟩
 ·have P:0<n:=by omega
  have t:=aL i B (k:=0) (v:=d) rfl;have l:=sP (sz:=2) (z:=[.slice none 0 0,.int .i64 0]) (H:=H) (v:=.agg #[.slice a n c,.int .i64 k]) rfl rfl rfl;simp only [gM]at l;have X:=Ext.alloc H (.cells 2 [.slice a n c,.int .i64 k])
  obtain ⟨H2,A⟩:∃H2,H.alloc (.cells 2 [.slice a n c,.int .i64 k])=H2:=⟨_,rfl⟩
  obtain ⟨e,Z,S,s,G,u,K,V,J⟩:=p.push (bytes:=32) M (by omega) (r:=[.slice a n c,.int .i64 k]) rfl A (by omega) (by omega);rw [A]at l X;have o:=G.get f i;obtain ⟨Y,I,D,U,W,C⟩:=cm o (by rw [K];exact B) (k:=0) (vs:=[e]) (by simp);have N:aP (d::rest) 0 [e]=e::rest:=by simp [aP]
  rw [N]at C;obtain ⟨fa,T,y⟩:=s.shape;rw [avp,List.length_singleton]at y;subst y;have L:=X.ld t;have R:fD [.slice none 0 0,.int .i64 0] [(0,1,.slice a n c),(1,1,.int .i64 k)]=some (.agg #[.slice a n c,.int .i64 k]):=rfl;simp (maxSteps:=9^7)-implicitDefEqProofs+contextual [-X.ev,a105,P,t,R,l,S,I]
  have Q:∀b,aX (.slice fa (rows.length+1) T) b→¬ b=m:=by
   intro b g q;subst q;rcases u b g with h|h
   ·exact f h
   ·have:=AH.bc i;omega
  refine ⟨_,C,by rw [if_neg w];exact s.mod D Q,(G.mono fun x _ j=>.inr j).trans (D.mono fun x _ j=>.inl j),u⟩
theorem OV {G H:AH} {m:Nat} {s f:Value} {rest:List Value} {rows rs:List (List Value)} {cs:List Value} {k:Int} (o:H.n0≤H.nx) (gm:H.get m=some (.cells 14 (s::rest))) (h0:H.n0≤m) (L:gN H 2 s (rows++[[f,.int .i64 k]])) (hb:rows.length≤2^40) (X:Sub G H) (T:Rows G 5 f (cs::rs)):
 Ca E O 106 [.pointer (some ⟨m,0,none⟩)] H (fun x H'=>x= .tuple #[.agg cs.toArray,.int .i64 k,.bool true]∧Ext H H'):=by
 refine Ca.aR (F:=FI) rfl rfl rfl ?_;obtain ⟨b,c,rfl,hc,xB,nS,hz,Y,_,_⟩:=L.last;have R:=aL gm h0 (k:=0) (v:=.slice (some ⟨b,0,none⟩) (rows.length+1) c) rfl;have a:=Ext.alloc H (.cells 5 zS);have B:=cQ H (.cells 5 zS)
 obtain ⟨H1,p⟩:∃H1,H.alloc (.cells 5 zS)=H1:=⟨_,rfl⟩
 rw [p]at a B;have g:=a.wf o;have n:=a.ld R;have A:=a.ldn Y;obtain ⟨H2,t,e,P,d,D⟩:=jN g (z:=2) (c:=[.slice none 0 0,.int .i64 0]) (vs:=[f,.int .i64 k]) rfl;have jG:=e.wf g;have u:=aL D (by rw [d];exact g) (k:=0) (v:=f) rfl;have K:=aL D (by rw [d];exact g) (k:=1) (v:=.int .i64 k) rfl;obtain ⟨b5,M,c5,j,y⟩:=((T.sub X).ext (a.trans e)).at (i:=0) (r:=cs) rfl;rw [List.length_cons]at j;have q:=e.get B;have l:cs.length=5:=(dM y).2;obtain ⟨H3,J,M3,N,w,C⟩:=cm q (by rw [d,a.n0];exact o) (k:=0) (vs:=cs) (by simp [l]);have S:aP zS 0 cs=cs:=iP _ _ (by rw [l];rfl);rw [S]at C;have Q:H3.ldn ⟨H.nx,0,none⟩ 5=some cs:=by rw [b9 C (by rw [w,d,a.n0];exact o) (by omega)];simp [avn (Nat.le_of_eq l)]
 rw [j]at u;rw [j]at t;have I:IntKind.i64.wrap (rows.length:Int)=(rows.length:Int):=ai ⟨by omega,by omega⟩;have n1:=a.nx;have n2:=e.nx;have W:H2.ldn ⟨b5,M,none⟩ 5=some cs:=by simpa using y
 have U:¬ ((rows.length:Int)+1=0):=by omega
 have e1:H1.nx=H.nx+1:=by rw [←p];rfl
 have Z:Nat.beq H1.nx H.nx=false:=avT.2 fun h=>by have:=Nat.eq_of_beq_eq_true h;omega
 have V:(rows.length:Int)<(rows.length:Int)+1:=by omega
 simp only [j]at A;simp (maxSteps:=9^7)-implicitDefEqProofs+contextual [-X.ev,FI,p,n,U,V,I,A,t,u,K,W,J,Q,bu,aM,aN,a.n0,d,w,P,N,l,AH.qa,AH.eP,DE,dz,Z];exact (a.trans e).mod M3 (fun b hb=>by omega)
theorem JL {H:AH} {m:Nat} {b:Value} {rest:List Value} (e:H.n0≤H.nx) (p:H.get m=some (.cells 14 (b::rest))) (o:H.n0≤m) (h:gN H 2 b []):
 Ca E O 106 [.pointer (some ⟨m,0,none⟩)] H (fun x H'=>x= .tuple #[.agg zS.toArray,.int .i64 0,.bool false]∧Ext H H'):=by
 refine Ca.aR (F:=FI) rfl rfl rfl ?_;obtain ⟨fa,r,rfl⟩:=h.shape;have l:=aL p o (k:=0) (v:=.slice fa 0 r) rfl;obtain ⟨t,d,s,u,i,q⟩:=jN e (z:=5) (c:=zS) (vs:=zS) rfl;have g:=Ext.alloc H (.cells 5 zS)
 obtain ⟨H1,f⟩:∃H1,H.alloc (.cells 5 zS)=H1:=⟨_,rfl⟩
 rw [f]at g d;have a:=g.ld l;have j:t.ldn ⟨H.nx,0,none⟩ 5=some zS:=by rw [b9 q (by rw [i];exact e) (by simp)];rfl
 have n:fD zS []=some (.agg zS.toArray):=rfl;simp (maxSteps:=9^7)-implicitDefEqProofs+contextual [-X.ev,FI,f,a,n,d,j,s]
theorem ajf {G H:AH} (X:Sub G H) {f:Value} {cs:List Value} {rs:List (List Value)} (q:Rows G 5 f (cs::rs)) (u:Fit G f):∃a c,cw 5 H f (some (.int .i64 1)) none none=some (.slice a rs.length c)∧Rows G 5 (.slice a rs.length c) rs∧Fit G (.slice a rs.length c):=by
 obtain ⟨a,n,c,rfl,l,m⟩:=u;obtain ⟨B,z,e,k⟩:=q.is;cases e;obtain ⟨b,o,v,d⟩:=m (by simp);subst v
 have g:H.lS b 5=true:=by
  unfold AH.lS at d⊢;split at d
  ·rename_i t;rw [X.get _ _ t];exact d
  ·cases d
 simp only [List.length_cons]at l;by_cases j:c=1
 ·subst j
  have p:rs=[]:=avO (by omega);subst p;exact ⟨some ⟨b,o,some 1⟩,0,rfl,⟨_,_,rfl,by simp⟩,⟨_,_,_,rfl,avk _,fun h=>absurd h (by simp)⟩⟩
 ·refine ⟨some ⟨b,o+5,none⟩,c- 1,?_,⟨_,_,rfl,fun i r hi=>?_⟩,⟨_,_,_,rfl,by omega,fun _=>⟨b,o+5,rfl,d⟩⟩⟩
  ·have x:¬ c=1:=j
   have w:(1:Int)≤(rs.length:Int)+1:=by omega
   have h2:1≤c:=by omega
   simp [cw,bK,jj,x,w,l,g];rfl
  ·obtain ⟨A,y,e,s⟩:=k (i+1) r (by simpa using hi)
   cases e;refine ⟨b,o+5,rfl,?_⟩;rw [show o+5+i*5=o+(i+1)*5 by omega];exact s
theorem kQ:∀s:bF,1≤bg s
 | .mk op n args a b=>by have:=aK a;have:=aK b;rw [bg];omega
def zV (rows rs:List (List Value)) (r:List Value):List (List Value):=if rs.length=0 then rows else rows++[r]
theorem OW {G H:AH} {m:Nat} {n vl:Value} {rest:List Value} {rows rs:List (List Value)} {cs:List Value} {s:bF} {k:Int} (hw:H.n0≤H.nx) (gm:H.get m=some (.cells 14 (n::rest))) (h0:H.n0≤m) (ow:gN H 2 n (rows++[[vl,.int .i64 k]])) (R:¬ aX n m) (hb:rows.length≤2^40) (X:Sub G H) (hS:∀b,(b=m∨aX n b)→G.get b=none) (hr:Rows G 5 vl (cs::rs)) (hf:Fit G vl) (hs:pF G cs s) (mP:bA s<2^60) (BE:rs.length<2^60)
 (hk:0≤k∧k≤2^40) (Bg:bg s≤2^40):
 Ca E O 143 [.pointer (some ⟨m,0,none⟩)] H (fun x H'=>∃K,H'.get m=some (.cells 14 (K::rest))∧(∃f,Rows G 5 f rs∧Fit G f∧gN H' 2 K (zV rows rs [f,.int .i64 (k+bg s)]))∧Mod (fun b=>b=m∨aX n b) H H'∧∀b,aX K b→aX n b):=by
 refine Ca.aR (F:=a143) rfl rfl rfl ?_;obtain ⟨b,c,rfl,hc,xB,nS,hz,hl,eY,_⟩:=ow.last;have h:b≠m:=fun q=>R ((bJ _ _ _ _ _).2 q.symm)
 have l0:=aL gm h0 (k:=0) (v:=.slice (some ⟨b,0,none⟩) (rows.length+1) c) rfl;obtain ⟨b5,o5,c5,S,Xi⟩:=(hr.sub X).at (i:=0) (r:=cs) rfl;rw [List.length_cons]at S;have UB:H.ldn ⟨b5,o5,none⟩ 5=some cs:=by simpa using Xi
 have w1:IntKind.i64.wrap (rows.length:Int)=(rows.length:Int):=ai ⟨by omega,by omega⟩;have cO:(rows.length:Int)<(rows.length:Int)+1:=by omega
 have L:H.ld ⟨b,rows.length*2,none⟩=some vl:=by simpa using aQ hl (j:=0) rfl
 have q1:H.ld ⟨b,rows.length*2+1,none⟩=some (.int .i64 k):=aQ hl (j:=1) rfl;rw [S]at L;have V:pF H cs s:=pF.sub X hs;have BO:G.get m=none:=hS m (.inl rfl);simp (maxSteps:=9^7)-implicitDefEqProofs+contextual [-X.ev,a143,l0,w1,cO,L,q1,UB,bu,aM,aN];apply ah
 ·(simp-implicitDefEqProofs [-X.ev];rfl)
 refine (DV _ s cs H (avv _) hw V mP).mono ?_;rintro x H1 ⟨rfl,a⟩;have lW:=a.wf hw;have ct:=kQ s;have gm1:=a.get gm;have w2:IntKind.i64.wrap (k+bg s)=k+bg s:=ai ⟨by omega,by omega⟩;obtain ⟨B,c',e,_,mM,arB,hz1,Mo,U,_⟩:=(ow.ext a).last;cases e;obtain ⟨H2,s2,P,M2,yO,Q⟩:=U 1 (.int .i64 (k+bg s)) (by omega);replace P:gN H2 2 (.slice (some ⟨b,0,none⟩) (rows.length+1) c) (rows++[[vl,.int .i64 (k+bg s)]]):=P;have Zw:=M2.get (fun q=>h q.symm) gm1;have gH:Sub G H2:=(X.Ua a).mod M2 (fun q d=>hS q (.inr ((bJ _ _ _ _ _).2 d)));obtain ⟨J,I,Z,Hi,z⟩:=ajf gH hr hf;obtain ⟨B,c',e,_,jc,arC,hz2,yN,T,_⟩:=P.last;cases e;have M:H2.ld ⟨b,rows.length*2,none⟩=some vl:=by simpa using aQ yN (j:=0) rfl
 obtain ⟨H3,s3,D,M3,tg,nU⟩:=T 0 (.slice J rs.length I) (by omega);replace D:gN H3 2 (.slice (some ⟨b,0,none⟩) (rows.length+1) c) (rows++[[.slice J rs.length I,.int .i64 (k+bg s)]]):=D;have l:=M3.get (fun q=>h q.symm) Zw;obtain ⟨B,c',e,hc3,vB,arD,hz3,Y,arE,N⟩:=D.last;cases e;have p3:H3.ld ⟨b,rows.length*2,none⟩=some (.slice J rs.length I):=by simpa using aQ Y (j:=0) rfl
 have t:H2.st ⟨b,rows.length*2,none⟩ [.slice J rs.length I]=some H3:=s3;rw [S]at M Z;have w:=a.ld L;have A:H3.n0=H.n0:=nU.trans (Q.trans a.n0);have C:Mod (fun B=>B=m∨aX (.slice (some ⟨b,0,none⟩) (rows.length+1) c) B) H H3:=(Mod.cv a).trans ((M2.mono fun x _ y=>.inr ((bJ _ _ _ _ _).2 y)).trans (M3.mono fun x _ y=>.inr ((bJ _ _ _ _ _).2 y)));have g:=bh.1 q1;have u:=a.ldn g;have o:=a.nx;have p:=a.n0;by_cases Hu:(rs.length:Int)=0
 ·obtain ⟨H4,s4,M4,Bb,pI,g4⟩:=cm l (by rw [A];exact h0) (k:=0) (vs:=[.slice (some ⟨b,0,none⟩) rows.length c]) (by simp)
  have jz:aP (.slice (some ⟨b,0,none⟩) (rows.length+1) c::rest) 0 [.slice (some ⟨b,0,none⟩) rows.length c]= .slice (some ⟨b,0,none⟩) rows.length c::rest:=by simp [aP]
  rw [jz]at g4;have l3:=aL l (by rw [A];exact h0) (k:=0) (v:=.slice (some ⟨b,0,none⟩) (rows.length+1) c) rfl
  have pZ:cw 2 H3 (.slice (some ⟨b,0,none⟩) (rows.length+1) c) none (some (.int .i64 rows.length)) none=some (.slice (some ⟨b,0,none⟩) rows.length c):=by
   have h1:¬ c=0:=by omega
   have h2:rows.length≤c:=by omega
   have h3:(rows.length:Int)≤(c:Int):=by omega
   simp [cw,bK,jj,h1,h2,h3];rfl
  simp (maxSteps:=9^7)-implicitDefEqProofs+contextual [-X.ev,w,w2,s2,M,Z,t,p3,l3,w1,pZ,s4,Hu,g,u,o,p,Q,yO,bu,aM,aN];refine ⟨⟨pI.symm,by omega⟩,_,g4,⟨_,Hi,z,?_⟩,C.trans (M4.mono fun x _ y=>.inl y),fun q d=>?_⟩
  ·rw [zV,if_pos (by omega)]
   exact N.mod M4 (fun q d e=>h (by rw [bJ]at d;omega))
  ·rw [bJ]at d⊢;exact d
 ·have W:¬ rs=[]:=fun q=>Hu (by rw [q];rfl)
  simp (maxSteps:=9^7)-implicitDefEqProofs+contextual [-X.ev,w,w2,s2,M,Z,t,p3,W,g,u,o,p,Q,yO,bu,aM,aN];refine ⟨_,l,⟨_,Hi,z,?_⟩,C,fun q d=>d⟩;rw [zV,if_neg (by omega)];exact D
open Go
def JM (v:Value):Prop:=∃a n c,v= .slice a n c∧n≤c
theorem dU.cap {H:AH} {sz:Nat} {v:Value} {rows:List (List Value)} (h:dU H sz v rows):JM v:=by
 rcases h.is with⟨rfl,_⟩|⟨b,rfl,_⟩
 ·exact ⟨_,_,_,rfl,avk _⟩
 ·exact ⟨_,_,_,rfl,avk _⟩
theorem Mod.then {R d:Nat→Prop} {H H1 H2:AH} (h:Mod R H H1) (k:Mod d H1 H2) (hs:∀b,b<H.nx→d b→R b):Mod R H H2:=
 ⟨k.n0.trans h.n0,avC h.nx k.nx,fun b a c=>(k.old b (avD a h.nx) fun q=>c (hs b a q)).trans (h.old b a c)⟩
theorem dI.sub {G H:AH} (X:Sub G H) {v:Value} {l:List Vr} (h:dI G v l):dI H v l:=Rows.sub X h
theorem uE {V:List Vr} {i:Nat} {y:Vr} (a:V[i]?=some y):bl V ((i+1:Nat):Int)=IntKind.i64.wrap (bl V (i:Int)+y.cells):=by
 simp only [bl,Int.toNat_natCast];rw [avB];simp [dE,a,List.foldl_append]
theorem UC {H:AH} {d:Value} {V:List Vr} {n:Int} (g:dI H d V) (j:JM d) (i:0≤n∧n<V.length):∃a c f,d= .slice a V.length c∧cw 3 H d none (some (.int .i64 n)) none=some (.slice a n.toNat f):=by
 obtain ⟨a,m,c,rfl,p⟩:=j;obtain ⟨q,f,e⟩:=g.len;cases e;refine ⟨a,c,c,rfl,?_⟩;have l:¬ c=0:=by omega
 have h2:n≤(c:Int):=by omega
 have k:n.toNat≤c:=by omega
 obtain ⟨y,h⟩:∃y,V[0]?=some y:=⟨_,avg (by omega)⟩
 obtain ⟨b,o,f,e,_⟩:=g.at h;cases e;simp [cw,bK,jj,l,h2,k,i.1];rfl
theorem wu {w k n:Int} {vv:Value} {V:List Vr} {H:AH} (f:H.n0≤H.nx) (u:dI H vv V) (L:JM vv) (hl:V.length≤2^40) (J:0≤n∧n<V.length):
 Ca E O 176 [.agg #[.int .i64 w,vv,.int .i64 k],.int .i64 n] H (fun x H'=>x= .int .i64 (bl V n)∧Ext H H'):=by
 obtain ⟨e,rfl⟩:∃m:Nat,n=m:=⟨n.toNat,by omega⟩
 refine Ca.aR (F:=NN) rfl rfl rfl ?_;obtain ⟨a,c,Z,t,zW⟩:=UC u L J;have r:=Ext.alloc H (.cells 3 [.int .i64 w,vv,.int .i64 k]);have Y:(H.alloc (.cells 3 [.int .i64 w,vv,.int .i64 k])).ld ⟨H.nx,0,none⟩=some (.int .i64 w):=ak f rfl;have A:(H.alloc (.cells 3 [.int .i64 w,vv,.int .i64 k])).ld ⟨H.nx,1,none⟩=some vv:=ak f rfl;have W:(H.alloc (.cells 3 [.int .i64 w,vv,.int .i64 k])).ld ⟨H.nx,2,none⟩=some (.int .i64 k):=ak f rfl;have d:(H.alloc (.cells 3 [.int .i64 w,vv,.int .i64 k])).ldn ⟨H.nx,0,none⟩ 3=some [.int .i64 w,vv,.int .i64 k]:=bo f 3 rfl;generalize U:H.alloc (.cells 3 [.int .i64 w,vv,.int .i64 k])=H1 at r Y A W d;have S:=r.wf f;obtain ⟨a1,c1,B,g,v⟩:=UC (u.ext r) L J;rw [t]at g;cases g;rw [t]at A v;rw [Int.toNat_natCast]at v;simp (maxSteps:=9^7)-implicitDefEqProofs+contextual [-X.ev,NN,U,A,v];refine cn (fun k j H'=>Ext H1 H'∧∃i:Nat,i+k=e∧j.get 11= .slice a e B∧j.get 12= .int .i64 e∧j.get 13= .int .i64 i∧j.get 5= .int .i64 (bl V (i:Int))) ?_ e ⟨Ext.refl _,0,by simp,by simp,by simp,by simp,by simp [bl,dE]⟩;rintro k j l ⟨C,i,hi,f11,f12,f13,M⟩;have G:=C.wf S;have P:=r.trans C;by_cases h:i<e
 ·obtain ⟨y,D⟩:∃y,V[i]?=some y:=⟨_,avg (by omega)⟩
  obtain ⟨b,o,Z,I,K,_,_,_⟩:=(u.ext P).at D;rw [t]at I;cases I;simp only [Vr.row]at K;obtain ⟨s,Q,N,Jk,Jl,q,p⟩:=eZ (H:=l) G (z:=3) (c:=[.string ⟨#[]⟩,.int .i64 0,.int .i64 0]) (vs:=[.string y.name,.int .i64 y.level,.int .i64 y.cells]) rfl;have q0:s.ld ⟨l.nx,0,none⟩=some (.string y.name):=p 0 _ rfl;have q1:s.ld ⟨l.nx,1,none⟩=some (.int .i64 y.level):=p 1 _ rfl;have R:s.ld ⟨l.nx,2,none⟩=some (.int .i64 y.cells):=p 2 _ rfl;clear p;replace q:s.ldn ⟨l.nx,0,none⟩ 3=some [.string y.name,.int .i64 y.level,.int .i64 y.cells]:=q;have zI:=N.wf G;have T:(i:Int)<(e:Int):=by omega
  have hk:k- 1<k:=by omega
  simp (maxSteps:=9^7)-implicitDefEqProofs+contextual [-X.ev,f11,f12,f13,M,h,K,Q,R];rw [ai (n:=(i:Int)+1) ⟨by omega,by omega⟩];exact ⟨k- 1,by omega,C.trans N,i+1,by omega,by simp,by rw [uE D]⟩
 ·simp (maxSteps:=9^7)-implicitDefEqProofs+contextual [-X.ev,f11,f12,f13,M,h]
  refine ⟨?_,P⟩;rw [show(i:Int)=e by omega]
structure See (G:AH) (f:Nat) (first cap:Array Value) (I:List Ev→(Nat→Prop)→AH→Prop):Prop where
 call:∀{pJ:List Ev} {R:Nat→Prop} {H:AH} {n i:Int},H.n0≤H.nx→I pJ R H→Sub G H→(∀b,R b→G.get b=none)→pJ.length<2^40→
  Ca E O f (first.toList++ .int .i64 n:: .int .i64 i::cap.toList) H (fun x H'=>∃R',I (pJ++[⟨1,n,i⟩]) R' H'∧Mod R H H'∧∀b,R' b→R b∨H.nx≤b)
 mod:∀{pJ:List Ev} {R T:Nat→Prop} {H H':AH},I pJ R H→Mod T H H'→(∀b,T b→¬ R b)→I pJ R H'
 lt:∀{pJ:List Ev} {R:Nat→Prop} {H:AH},I pJ R H→∀b,R b→b<H.nx
theorem See.ext {G:AH} {f:Nat} {first cap:Array Value} {I:List Ev→(Nat→Prop)→AH→Prop} (h:See G f first cap I) {a:List Ev} {R:Nat→Prop} {H H':AH} (i:I a R H) (X:Ext H H'):I a R H':=h.mod i (Mod.cv (S:=fun _=>False) X) (by simp)
def JO (l:List Int):List Value:=[.int .i64 (eu l 0),.int .i64 (eu l 1),.int .i64 (eu l 2)]
theorem rD {w:Int} {V:List Vr} {S:List (List Int)}:∀(l:List ch) (i:Nat),bV w V S (l.take i)=(bV w V S l).take i
 |[],i=>by simp [bV]
 |e::es,0=>by simp [bV]
 |e::es,i+1=>by simp [bV,rD es i]
theorem JP {w:Int} {V:List Vr} {S:List (List Int)} {l:List ch} {i:Nat} {y:ch} (e:l.length≤3) (d:l[i]?=some y):aP (JO (bV w V S (l.take i))) i [.int .i64 (a6 w V S y)]=JO (bV w V S (l.take (i+1))):=by
 match l,i,e,d with
 |[a],0,_,d=>simp at d;subst d;rfl
 |[a,b],0,_,d=>simp at d;subst d;rfl
 |[a,b],1,_,d=>simp at d;subst d;rfl
 |[a,b,c],0,_,d=>simp at d;subst d;rfl
 |[a,b,c],1,_,d=>simp at d;subst d;rfl
 |[a,b,c],2,_,d=>simp at d;subst d;rfl
theorem JQ {G:AH} {w:Int} {vv vS:Value} {V:List Vr} {S:List (List Int)} {f:Nat} {first cap:Array Value} {I:List Ev→(Nat→Prop)→AH→Prop} (hV:aC w V=true) (hS:Bd w V S) (hv:dI G vv V) (jm:JM vv) (eY:eO G vS S) (uF:See G f first cap I):
 ∀(N:Nat) (e:ch) (c:List Value) (H:AH) (M:List Ev) (R:Nat→Prop),SizeOf.sizeOf e<N→H.n0≤H.nx→Sub G H→I M R H→(∀b,R b→G.get b=none)→oV G c e→dq w V S.length e=true→(M.length:Int)+aA e≤2^40→
 Ca E O 168 [.agg #[.int .i64 w,vv,.int .i64 S.length],vS,.agg c.toArray,.func (.func f) first cap] H (fun x H'=>x= .int .i64 (a6 w V S e)∧∃Y,I (M++mF w V S e) Y H'∧Mod R H H'∧∀b,Y b→R b∨H.nx≤b):=by
 have eJ:1≤w∧w≤8:=⟨(aD hV).1,(aD hV).2.1⟩
 have hp:=fT eJ;have hVl:=(aD hV).2.2.2;intro N
 induction N with
 |zero=>intro e c H M R h;omega
 |succ N ih=>
  intro e c H M R hN W X hI RA he hf mP
  cases he with| @mk op n cp va rows args i1 i2 i3 hlen hr hl=>
  refine Ca.aR (F:=a168) rfl rfl rfl ?_;obtain ⟨aH,hc⟩:=kj eJ hf
  have Uh:args.length≤3:=by
   rcases hc with⟨_,rfl,_⟩|⟨_,_,_,_,_,⟨rfl,_⟩|⟨⟨a,rfl⟩,_⟩⟩|⟨_,a,rfl⟩|⟨_,a,b,c,rfl⟩|⟨_,a,b,rfl⟩<;>simp
  have wd:∀y∈args,0≤a6 w V S y∧a6 w V S y<2^w.toNat:=fun y D=>iw hV hS y (aH y D)
  rw [aA]at mP;obtain ⟨p0,c0,gT⟩:=hr.len;rw [hl.length]at gT;have g1:=cQ H (.cells 3 [.int .i64 w,vv,.int .i64 S.length]);have X1:=Ext.alloc H (.cells 3 [.int .i64 w,vv,.int .i64 S.length]);have d0:(H.alloc (.cells 3 [.int .i64 w,vv,.int .i64 S.length])).ld ⟨H.nx,0,none⟩=some (.int .i64 w):=ak W rfl;have d1:(H.alloc (.cells 3 [.int .i64 w,vv,.int .i64 S.length])).ld ⟨H.nx,1,none⟩=some vv:=ak W rfl;have d2:(H.alloc (.cells 3 [.int .i64 w,vv,.int .i64 S.length])).ld ⟨H.nx,2,none⟩=some (.int .i64 S.length):=ak W rfl;have d:(H.alloc (.cells 3 [.int .i64 w,vv,.int .i64 S.length])).ldn ⟨H.nx,0,none⟩ 3=some [.int .i64 w,vv,.int .i64 S.length]:=bo W 3 rfl;generalize cM:H.alloc (.cells 3 [.int .i64 w,vv,.int .i64 S.length])=t at X1 d0 d1 d2 d;have bT:=X1.wf W;rw [cM]at g1;have g2:=cQ t (.cells 4 [.int .i64 op,.int .i64 n,.int .i64 cp,va]);have nE1:t.nx=H.nx+1:=by rw [←cM];rfl
  have X2:=Ext.alloc t (.cells 4 [.int .i64 op,.int .i64 n,.int .i64 cp,va]);have A:(t.alloc (.cells 4 [.int .i64 op,.int .i64 n,.int .i64 cp,va])).ld ⟨t.nx,0,none⟩=some (.int .i64 op):=ak bT rfl;have e1:(t.alloc (.cells 4 [.int .i64 op,.int .i64 n,.int .i64 cp,va])).ld ⟨t.nx,1,none⟩=some (.int .i64 n):=ak bT rfl;have e2:(t.alloc (.cells 4 [.int .i64 op,.int .i64 n,.int .i64 cp,va])).ld ⟨t.nx,2,none⟩=some (.int .i64 cp):=ak bT rfl;have e3:(t.alloc (.cells 4 [.int .i64 op,.int .i64 n,.int .i64 cp,va])).ld ⟨t.nx,3,none⟩=some va:=ak bT rfl;have e:(t.alloc (.cells 4 [.int .i64 op,.int .i64 n,.int .i64 cp,va])).ldn ⟨t.nx,0,none⟩ 4=some [.int .i64 op,.int .i64 n,.int .i64 cp,va]:=bo bT 4 rfl;generalize kH:t.alloc (.cells 4 [.int .i64 op,.int .i64 n,.int .i64 cp,va])=H2 at X2 A e1 e2 e3 e;have kg:=X2.wf bT;rw [kH]at g2;have nE2:H2.nx=H.nx+2:=by rw [←kH];show t.nx+1=_;omega
  have X3:=Ext.alloc H2 (.cells 3 [.int .i64 0,.int .i64 0,.int .i64 0]);have g3:=cQ H2 (.cells 3 [.int .i64 0,.int .i64 0,.int .i64 0])
  obtain ⟨H3,Mn⟩:∃H3,H2.alloc (.cells 3 [.int .i64 0,.int .i64 0,.int .i64 0])=H3:=⟨_,rfl⟩
  rw [Mn]at X3 g3;have nE3:H3.nx=H.nx+3:=by rw [←Mn];show H2.nx+1=_;omega
  have D3:=X3.ld e3;rw [gT]at D3;have jd:=X1.trans (X2.trans X3);have g1':=X3.get (X2.get g1);have Xw:=X3.get g2;rw [nE1]at Xw D3;rw [nE2]at g3;have aaf:=uF.lt hI;simp (maxSteps:=9^7)-implicitDefEqProofs+contextual [-X.ev,a168,cM,kH,Mn,nE1,nE2,D3]
  refine cn (fun k K H'=>Mod R H H'∧H3.nx≤H'.nx∧H'.get H.nx=some (.cells 3 [.int .i64 w,vv,.int .i64 S.length])∧H'.get (H.nx+1)=some (.cells 4 [.int .i64 op,.int .i64 n,.int .i64 cp,va])∧∃(i:Nat) (Y:Nat→Prop),i+k=args.length∧H'.get (H.nx+2)=some (.cells 3 (JO (bV w V S (args.take i))))∧I (M++eN w V S (args.take i)) Y H'∧(∀b,Y b→R b∨H3.nx≤b)∧
   K.get 1=vS∧K.get 3= .func (.func f) first cap∧K.get 4= .pointer (some ⟨H.nx,0,none⟩)∧K.get 6= .pointer (some ⟨H.nx+1,0,none⟩)∧K.get 9= .pointer (some ⟨H.nx+2,0,none⟩)∧K.get 18=va∧K.get 19= .int .i64 args.length∧K.get 20= .int .i64 i) ?_ args.length ⟨Mod.cv jd,avk _,g1',Xw,0,R,by simp,by simpa [bV,JO,eu]using g3,by simpa [eN]using uF.ext hI jd,fun b p=>.inl p,by simp,by simp,by simp,by simp,by simp,by simp [gT],by simp,by simp⟩
  rintro k K H4 ⟨M4,Bb,k1,k2,i,R4,hi,k3,J,UD,f1,f3,f4,L,f9,f18,f19,f20⟩;have qY:=M4.wf W;have pI:=M4.n0;have P:Sub G H4:=X.mod M4 RA;have Gnx:=X.nx
  have UE:∀b,R4 b→G.get b=none:=fun b p=>by
   rcases UD b p with h|h
   ·exact RA b h
   ·exact AH.tA (by omega)
  have UF:∀b,R4 b→b<H.nx∨H.nx+3≤b:=fun b p=>by
   rcases UD b p with h|h
   ·exact .inl (aaf b h)
   ·omega
  have tl:=nk (w:=w) (V:=V) (S:=S) args i;by_cases h:i<args.length
  ·obtain ⟨y,D⟩:∃y,args[i]?=some y:=⟨_,avg h⟩
   have t1:=eX D;have t2:=bk args (i+1);have iD:=iq (op:=op) (n:=n) (cp:=cp) D;obtain ⟨b,o,c',vy,r,cL,bM,rfl,ll⟩:=gY.row (hr.sub P) (gY.sub P hl) D;obtain ⟨b',o',G9,vy',r',aag,aah,rfl,ajo⟩:=gY.row hr hl D;rw [cL]at aag;cases aag
   have hvy:vy'=vy:=by
    have:=P.ldn aah;rw [bM]at this;cases this;rfl
   subst hvy;have UG:=f18;rw [cL]at UG;obtain ⟨H5,sH5,g,arI,arJ,q,B⟩:=eZ (H:=H4) qY (z:=4) (c:=[.int .i64 0,.int .i64 0,.int .i64 0,.slice none 0 0]) (vs:=[.int .i64 y.op,.int .i64 y.n,.int .i64 y.cp,vy']) rfl;have q0:H5.ld ⟨H4.nx,0,none⟩=some (.int .i64 y.op):=B 0 _ rfl;have q1:H5.ld ⟨H4.nx,1,none⟩=some (.int .i64 y.n):=B 1 _ rfl;have q2:H5.ld ⟨H4.nx,2,none⟩=some (.int .i64 y.cp):=B 2 _ rfl;have q3:H5.ld ⟨H4.nx,3,none⟩=some vy':=B 3 _ rfl;clear B;replace q:H5.ldn ⟨H4.nx,0,none⟩ 4=some [.int .i64 y.op,.int .i64 y.n,.int .i64 y.cp,vy']:=q;have aaj:=g.wf qY;have kk1:=g.get k1;have l1:H5.ldn ⟨H.nx,0,none⟩ 3=some [.int .i64 w,vv,.int .i64 S.length]:=by rw [b9 kk1 (by rw [g.n0,pI];exact W) (by simp)];rfl
   have n5:=g.nx
   have evl:((M++eN w V S (args.take i)).length:Int)+aA y≤2^40:=by
    have u:=bk args i;have u2:=jX (w:=w) (V:=V) (S:=S) (l:=args.take i) (fun e _=>ek e);rw [avp];omega
   simp (maxSteps:=9^7)-implicitDefEqProofs+contextual [-X.ev,f1,f3,f4,UG,f19,f20,h,bM,sH5,q,l1];apply ah
   ·(simp-implicitDefEqProofs [-X.ev];rfl)
   refine (ih y _ H5 _ R4 (by omega) aaj (P.Ua g) (uF.ext J g) UE ajo (aH y (avl D)) evl).mono ?_;rintro x H6 ⟨rfl,R6,hI6,M6,hR6⟩;have F6:=M6.wf aaj;have n6:=M6.nx;have U:∀j,j<3→¬ R4 (H.nx+j):=fun j hj q=>by have:=UF _ q;omega
   have j1:=M6.get (U 0 (by omega)) kk1;have j2:=M6.get (U 1 (by omega)) (g.get k2);have j3:=M6.get (U 2 (by omega)) (g.get k3);have OP:H6.n0=H.n0:=M6.n0.trans (g.n0.trans pI);obtain ⟨H7,s7,M7,nx7,Gc,g7⟩:=cm j3 (by rw [OP];omega) (k:=i) (vs:=[.int .i64 (a6 w V S y)]) (by simp [JO];omega);rw [JP Uh D]at g7;have hi3:(i:Int)<3:=by omega
   simp (maxSteps:=9^7)-implicitDefEqProofs+contextual [-X.ev,f1,f3,f4,f9,UG,f19,f20,s7,hi3];rw [ai (n:=(i:Int)+1) ⟨by omega,by omega⟩];refine ⟨k- 1,by omega,((M4.trans (Mod.cv g)).then M6 (fun b p q=>?_)).then M7 (fun b p q=>by omega),by omega,M7.get (by omega) j1,M7.get (by omega) j2,i+1,by omega,g7,R6,?_,fun b p=>?_,L,cL.symm,by simp⟩
   ·rcases UD b q with h|h
    ·exact h
    ·omega
   ·rw [nj D,←avF]
    exact uF.mod hI6 M7 (fun b p q=>by
     rcases hR6 b q with h|h
     ·have:=UF b h;omega
     ·omega)
   ·rcases hR6 b p with h|h
    ·exact UD b h
    ·right;omega
  have hti:args.take i=args:=avn (by omega);rw [hti]at k3 J;have B0:H4.n0≤H.nx:=by rw [pI];exact W
  have u0:=aL k1 B0 (k:=0) (v:=.int .i64 w) rfl;have u1:=aL k1 B0 (k:=1) (v:=vv) rfl;have un:H4.ldn ⟨H.nx,0,none⟩ 3=some [.int .i64 w,vv,.int .i64 S.length]:=by rw [b9 k1 B0 (by simp)];rfl
  have T:=aL k2 (by omega) (k:=0) (v:=.int .i64 op) rfl;have v1:=aL k2 (by omega) (k:=1) (v:=.int .i64 n) rfl;have v2:=aL k2 (by omega) (k:=2) (v:=.int .i64 cp) rfl;have v3:=aL k2 (by omega) (k:=3) (v:=va) rfl;have Q:=aL k3 (by omega) (k:=0) (v:=.int .i64 (eu (bV w V S args) 0)) rfl;have x1:=aL k3 (by omega) (k:=1) (v:=.int .i64 (eu (bV w V S args) 1)) rfl;have x2:=aL k3 (by omega) (k:=2) (v:=.int .i64 (eu (bV w V S args) 2)) rfl;rw [gT]at f18 v3
  have fin:∀{H':AH},(¬ (op=1∧args≠[]))→Ext H4 H'→∃Y,I (M++mF w V S (.mk op n cp args)) Y H'∧Mod R H H'∧∀b,Y b→R b∨H.nx≤b:=fun se XX=>by
   refine ⟨R4,?_,M4.trans (Mod.cv XX),fun b p=>(UD b p).imp id (fun q=>by omega)⟩;rw [mF,if_neg se,List.append_nil];exact uF.ext J XX
  rcases hc with⟨rfl,rfl,h1,h2⟩|⟨rfl,h1,h2,h3,h4,gO⟩|⟨rfl,y0,rfl⟩|⟨rfl,y0,y1,y2,rfl⟩|⟨ho,y0,y1,rfl⟩
  ·have:=fin (H':=H4) (by omega) (Ext.refl _)
   have m:¬ (i:Int)<0:=by omega
   simp (maxSteps:=9^7)-implicitDefEqProofs+contextual [-X.ev,f18,f19,f20,m,L,T,v1,a6];exact this
  ·obtain ⟨s,OS⟩:∃s,S[cp.toNat]?=some s:=⟨_,avg (by omega)⟩
   have ajq:=hS s (avl OS);have ZZ:storeAt S cp=s:=by simp [storeAt,OS]
   have nh:=oh hV ⟨h1,h2⟩ (eu (bV w V S args) 0);obtain ⟨x,hx,HQ,Dd,Cc⟩:=jq eJ ajq (i:=bl V n+eu (bV w V S args) 0%aq V n) (by omega)
   have m:bl V n+eu (bV w V S args) 0%aq V n<(s.length:Int):=by
    have:=(avm.1 hx).1;omega
   have Xs:cp<S.length:=by omega
   rcases gO with⟨rfl,Ml⟩|⟨⟨y,rfl⟩,Ml⟩
   ·have G8:¬ (i:Int)<0:=by omega
    obtain ⟨b,o,c',a',G9,qh,eR,vN⟩:=(eY.sub P).at OS;obtain ⟨b3,o3,c3,G7,sQ⟩:=vN.at hx;cases G7;have A:eu (bV w V S []) 0=0:=rfl;rw [A]at nh m sQ Cc;simp only [Int.zero_emod,Int.add_zero]at nh m sQ Cc;have C:=bh.1 v2;have HN:=bh.1 eR;have ww:IntKind.i64.wrap (bl V n)=bl V n:=ai ⟨by omega,by omega⟩
    have uh:a6 w V S (.mk 1 n cp [])=x:=by
     rw [a6,if_neg (by omega),if_pos rfl,ZZ,A,Int.zero_emod,Int.add_zero,Cc]
    rw [qh]at f1;simp (maxSteps:=9^7)-implicitDefEqProofs+contextual [-X.ev,f1,f18,f19,f20,G8,f4,L,T,v1,v2,v3,un,eR,h3,Xs];apply ah
    ·(simp-implicitDefEqProofs [-X.ev];rfl)
    refine (wu qY (dI.sub P hv) jm (by omega) ⟨h1,h2⟩).mono ?_;rintro x' H5 ⟨rfl,g⟩;have g1:0≤bl V n:=by omega
    have ajr:=fin (H':=H5) (by simp) g;have ajs:=g.ld sQ;have ajt:=g.ldn C;have HN5:=g.ldn HN;have RB:=g.nx;have Mq:=g.n0;simp (maxSteps:=9^7)-implicitDefEqProofs+contextual [-X.ev,ww,bu,aM,aN,C,HN,ajt,HN5,g1,m,ajs,uh,RB,Mq];exact ajr
   ·have G8:¬ (i:Int)<1:=by simp at h;omega
    obtain ⟨yv,Ch⟩:∃yv,V[n.toNat]?=some yv:=⟨_,avg (by omega)⟩
    have Cd:aq V n=yv.cells:=by simp [aq,Ch]
    obtain ⟨b,o,c',my,_,_,_,Cj⟩:=(dI.sub P hv).at Ch;have Mm:=wd y (by simp);have A:eu (bV w V S [y]) 0=a6 w V S y:=rfl;rw [A]at nh m hx Cc Q;rw [Cd]at nh m hx Cc Ml;have rn:=iQ (b:=yv.cells) Mm.1;rw [if_neg (by omega)]at rn;have u1':=u1;rw [my]at u1'
    have bd:((M++eN w V S [y]).length:Int)<2^40:=by
     have u2:=jX (w:=w) (V:=V) (S:=S) (l:=[y]) (fun e _=>ek e);rw [avp];omega
    simp (maxSteps:=9^7)-implicitDefEqProofs+contextual [-X.ev,f18,f19,f20,G8,f3,f4,L,f9,T,v1,v3,Q,u1',h1,h2,Cj,rn,bu,aM,aN];apply lF
    ·(simp-implicitDefEqProofs [-X.ev,-Value.func.injEq,f3];rfl)
    ·(simp-implicitDefEqProofs [-X.ev,f3];rfl)
    refine (uF.call (n:=n) (i:=a6 w V S y%yv.cells) qY J P UE (by omega)).mono ?_;rintro x' H5 ⟨R5,hI5,Z,hR5⟩;have sw:=Z.wf qY;have SG5:Sub G H5:=P.mod Z UE;have U:∀j,j<3→¬ R4 (H.nx+j):=fun j hj q=>by have:=UF _ q;omega
    have vv1:=Z.ld (U 1 (by omega)) v1;have vv2:=Z.ld (U 1 (by omega)) v2;have vv0:=Z.ld (U 1 (by omega)) T;have unn:=Z.ldn (U 0 (by omega)) un;obtain ⟨b5,o5,c5,a',G9,qh,eR,vN⟩:=(eY.sub SG5).at OS;obtain ⟨b3,o3,c3,G7,sQ⟩:=vN.at hx;cases G7;have C:=bh.1 vv2;have HN:=bh.1 eR;have ww:IntKind.i64.wrap (bl V n+a6 w V S y%yv.cells)=bl V n+a6 w V S y%yv.cells:=ai ⟨by omega,by omega⟩
    have uh:a6 w V S (.mk 1 n cp [y])=x:=by
     rw [a6,if_neg (by omega),if_pos rfl,ZZ,A,Cd,Cc]
    have aju:mF w V S (.mk 1 n cp [y])=eN w V S [y]++[⟨1,n,a6 w V S y%yv.cells⟩]:=by rw [mF,if_pos ⟨rfl,by simp⟩,A,Cd]
    rw [qh]at f1;simp (maxSteps:=9^7)-implicitDefEqProofs+contextual [-X.ev,f1,f4,L,vv0,vv1,vv2,unn,eR,h3,Xs];apply ah
    ·(simp-implicitDefEqProofs [-X.ev];rfl)
    refine (wu sw (dI.sub SG5 hv) jm (by omega) ⟨h1,h2⟩).mono ?_;rintro x' H6 ⟨rfl,X6⟩;have g1:0≤bl V n+a6 w V S y%yv.cells:=by omega
    have ajv:=X6.ld sQ;have ajw:=X6.ldn C;have HN6:=X6.ldn HN;have x6x:=X6.nx;have x6n:=X6.n0;have Ro:=Z.nx;simp (maxSteps:=9^7)-implicitDefEqProofs+contextual [-X.ev,ww,bu,aM,aN,C,HN,ajw,HN6,g1,m,ajv,uh,x6x,x6n];rw [aju,←avF];refine ⟨R5,uF.ext hI5 X6,(M4.then Z (fun b p q=>?_)).trans (Mod.cv X6),fun b p=>?_⟩
    ·rcases UD b q with h|h
     ·exact h
     ·omega
    ·rcases hR5 b p with h|h
     ·exact (UD b h).imp id (fun q=>by omega)
     ·right;omega
  ·have Mm:=wd y0 (by simp)
   have A:eu (bV w V S [y0]) 0=a6 w V S y0:=rfl;rw [A]at Q;have m:¬ (i:Int)<1:=by simp at h;omega
   simp (maxSteps:=9^7)-implicitDefEqProofs+contextual [-X.ev,f18,f19,f20,m,L,f4,f9,T,u0,Q];apply ah
   ·(simp-implicitDefEqProofs [-X.ev];rfl)
   refine (ON qY eJ Mm).mono ?_;rintro x H5 ⟨rfl,g⟩;have:=fin (H':=H5) (by omega) g;simp (maxSteps:=9^7)-implicitDefEqProofs+contextual [-X.ev];refine ⟨?_,this⟩;rw [a6,if_neg (by omega),if_neg (by omega),if_pos rfl];rfl
  ·have:=fin (H':=H4) (by omega) (Ext.refl _)
   have m:¬ (i:Int)<3:=by simp at h;omega
   by_cases q:eu (bV w V S [y0,y1,y2]) 0=0
   ·simp (maxSteps:=9^7)-implicitDefEqProofs+contextual [-X.ev,f18,f19,f20,m,L,f9,T,Q,x2,q]
    refine ⟨?_,this⟩;rw [a6,if_neg (by omega),if_neg (by omega),if_neg (by omega),if_pos rfl,if_pos q]
   ·simp (maxSteps:=9^7)-implicitDefEqProofs+contextual [-X.ev,f18,f19,f20,m,L,f9,T,Q,x1,q]
    refine ⟨?_,this⟩;rw [a6,if_neg (by omega),if_neg (by omega),if_neg (by omega),if_pos rfl,if_neg q]
  ·have m0:¬ op=0:=by omega
   have m1:¬ op=1:=by omega
   have m12:¬ op=12:=by omega
   have m15:¬ op=15:=by omega
   have A:eu (bV w V S [y0,y1]) 0=a6 w V S y0:=rfl;have e1:eu (bV w V S [y0,y1]) 1=a6 w V S y1:=rfl;rw [A]at Q;rw [e1]at x1;have m:¬ (i:Int)<2:=by simp at h;omega
   simp (maxSteps:=9^7)-implicitDefEqProofs+contextual [-X.ev,f18,f19,f20,m,L,f4,f9,T,u0,Q,x1,m0,m1,m12,m15];apply ah
   ·(simp-implicitDefEqProofs [-X.ev];rfl)
   refine (Uj qY ho eJ (wd y0 (by simp)) (wd y1 (by simp))).mono ?_;rintro x H5 ⟨rfl,g⟩;have:=fin (H':=H5) (by omega) g;simp (maxSteps:=9^7)-implicitDefEqProofs+contextual [-X.ev];refine ⟨?_,this⟩;rw [a6,if_neg m0,if_neg m1,if_neg m12,if_neg m15,A,e1]
end
section
open Go
structure MV where
 vf:Value
 w:Int
 vv:Value
 vb:Value
 fuel:Int
 vp:Value
 en:Int
 vs:Value
 vo:Value
 vt:Value
 cost:Int
 used:Int
 wh:Int
 ended:Bool
abbrev MV.rest (v:MV):List Value:=[.int .i64 v.w,v.vv,v.vb,.int .i64 v.fuel,v.vp,.int .i64 v.en,v.vs,v.vo,v.vt,.int .i64 v.cost,.int .i64 v.used,.int .i64 v.wh,.bool v.ended]
abbrev MV.cells (v:MV):List Value:=v.vf::v.rest
def Ck (o:Int×Int):List Value:=[.int .i64 o.1,.int .i64 o.2]
def dH (l:List (Int×Int)):List (List Value):=l.map Ck
theorem uG (l m:List (Int×Int)):dH (l++m)=dH l++dH m:=by simp [dH]
theorem km (l:List (Int×Int)):(dH l).length=l.length:=by simp [dH]
def Mf (m:Nat) (v:MV) (b:Nat):Prop:=b=m∨aX v.vf b∨aX v.vs b∨aX v.vo b∨aX v.vt b
structure MH (G H:AH) (m:Nat) (v:MV) (rows:List (List Value)) (store:List Int) (outs:List (Int×Int)) (trace:List Ev):Prop where
 get:H.get m=some (.cells 14 v.cells)
 n0:H.n0≤m
 sub:Sub G H
 wf:H.n0≤H.nx
 fr:gN H 2 v.vf rows
 st:dU H 1 v.vs (a7 store)
 ou:dU H 2 v.vo (dH outs)
 tr:dU H 3 v.vt (dj trace)
 d1:¬ aX v.vf m∧¬ aX v.vs m∧¬ aX v.vo m∧¬ aX v.vt m
 d2:∀b,aX v.vf b→¬ aX v.vs b∧¬ aX v.vo b∧¬ aX v.vt b
 d3:∀b,aX v.vs b→¬ aX v.vo b∧¬ aX v.vt b
 d4:∀b,aX v.vo b→¬ aX v.vt b
 out:∀b,Mf m v b→G.get b=none
theorem MH.lt {G H:AH} {m:Nat} {v:MV} {rows:List (List Value)} {store:List Int} {outs:List (Int×Int)} {trace:List Ev} (h:MH G H m v rows store outs trace) {b:Nat} (a:Mf m v b):b<H.nx:=by
 rcases a with rfl|a|a|a|a
 ·exact AH.bc h.get
 ·exact h.fr.lt a
 ·exact h.st.lt a
 ·exact h.ou.lt a
 ·exact h.tr.lt a
theorem MH.mod {G H H':AH} {m:Nat} {v:MV} {rows:List (List Value)} {store:List Int} {outs:List (Int×Int)} {trace:List Ev} {T:Nat→Prop} (h:MH G H m v rows store outs trace) (M:Mod T H H') (c:∀b,T b→¬ Mf m v b) (d:∀b,T b→G.get b=none):MH G H' m v rows store outs trace where
 get:=M.get (fun q=>c m q (.inl rfl)) h.get
 n0:=by rw [M.n0];exact h.n0
 sub:=h.sub.mod M d
 wf:=M.wf h.wf
 fr:=h.fr.mod M fun b a q=>c b q (.inr (.inl a))
 st:=h.st.mod M fun b a q=>c b q (.inr (.inr (.inl a)))
 ou:=h.ou.mod M fun b a q=>c b q (.inr (.inr (.inr (.inl a))))
 tr:=h.tr.mod M fun b a q=>c b q (.inr (.inr (.inr (.inr a))))
 d1:=h.d1
 d2:=h.d2
 d3:=h.d3
 d4:=h.d4
 out:=h.out
theorem MH.ext {G H H':AH} {m:Nat} {v:MV} {rows:List (List Value)} {store:List Int} {outs:List (Int×Int)} {trace:List Ev} (h:MH G H m v rows store outs trace) (X:Ext H H'):MH G H' m v rows store outs trace:=h.mod (Mod.cv (S:=fun _=>False) X) (by simp) (by simp)
theorem MH.xO {G H H':AH} {m:Nat} {v:MV} {rows:List (List Value)} {store:List Int} {outs:List (Int×Int)} {trace d:List Ev} {vt:Value} {cost:Int} (h:MH G H m v rows store outs trace) (M:Mod (fun b=>b=m∨aX v.vt b) H H') (g:H'.get m=some (.cells 14 ({v with vt:=vt,cost:=cost}:MV).cells)) (o:dU H' 3 vt (dj d)) (c:∀b,aX vt b→aX v.vt b∨H.nx≤b):MH G H' m {v with vt:=vt,cost:=cost} rows store outs d where
 get:=g
 n0:=by rw [M.n0];exact h.n0
 sub:=h.sub.mod M fun b a=>h.out b (by rcases a with q|q;exact .inl q;exact .inr (.inr (.inr (.inr q))))
 wf:=M.wf h.wf
 fr:=h.fr.mod M fun b a q=>by rcases q with rfl|q;exact h.d1.1 a;exact (h.d2 b a).2.2 q
 st:=h.st.mod M fun b a q=>by rcases q with rfl|q;exact h.d1.2.1 a;exact (h.d3 b a).2 q
 ou:=h.ou.mod M fun b a q=>by rcases q with rfl|q;exact h.d1.2.2.1 a;exact h.d4 b a q
 tr:=o
 d1:=⟨h.d1.1,h.d1.2.1,h.d1.2.2.1,fun q=>by rcases c m q with q|q;exact h.d1.2.2.2 q;have:=h.lt (.inl rfl);omega⟩
 d2:=fun b a=>⟨(h.d2 b a).1,(h.d2 b a).2.1,fun q=>by rcases c b q with q|q;exact (h.d2 b a).2.2 q;have:=h.lt (.inr (.inl a));omega⟩
 d3:=fun b a=>⟨(h.d3 b a).1,fun q=>by rcases c b q with q|q;exact (h.d3 b a).2 q;have:=h.lt (.inr (.inr (.inl a)));omega⟩
 d4:=fun b a q=>by rcases c b q with q|q;exact h.d4 b a q;have:=h.lt (.inr (.inr (.inr (.inl a))));omega
 out:=fun b a=>by
  rcases a with q|q|q|q|q
  ·exact h.out b (.inl q)
  ·exact h.out b (.inr (.inl q))
  ·exact h.out b (.inr (.inr (.inl q)))
  ·exact h.out b (.inr (.inr (.inr (.inl q))))
  ·rcases c b q with q|q
   ·exact h.out b (.inr (.inr (.inr (.inr q))))
   ·exact AH.tA (avC h.sub.nx q)
theorem tell {H:AH} {m:Nat} {v:MV} {trace:List Ev} (e:Ev) (F:H.n0≤H.nx) (g:H.get m=some (.cells 14 v.cells)) (J:H.n0≤m) (o:dU H 3 v.vt (dj trace)) (G:¬ aX v.vt m) (s:trace.length≤2^41):
 ∃H1 a c H2 d,oG 1 3 [.int .i64 0,.int .i64 0,.int .i64 0] H [(0,3,.agg #[.int .i64 e.kind,.int .i64 e.at_,.int .i64 e.val])]=some (.slice (some ⟨H.nx,0,none⟩) 1 1,H1)∧bL 3 24 H1 v.vt (.slice (some ⟨H.nx,0,none⟩) 1 1)=some (.slice a (trace.length+1) c,H2)∧H2.st ⟨m,9,none⟩ [.slice a (trace.length+1) c]=some d∧
  d.get m=some (.cells 14 ({v with vt:=.slice a (trace.length+1) c}:MV).cells)∧dU d 3 (.slice a (trace.length+1) c) (dj (trace++[e]))∧Mod (fun b=>b=m∨aX v.vt b) H d∧(∀b,aX (.slice a (trace.length+1) c) b→H.nx≤b)∧H1.n0=H.n0∧H.nx≤H1.nx∧Ext H H1∧H2.n0=H.n0∧H1.nx≤H2.nx∧d.n0=H.n0∧d.nx=H2.nx∧Mod (aX v.vt) H H2:=by
 have i:=sP (sz:=3) (z:=[.int .i64 0,.int .i64 0,.int .i64 0]) (H:=H) (v:=.agg #[.int .i64 e.kind,.int .i64 e.at_,.int .i64 e.val]) rfl rfl rfl;simp only [gM]at i;have X:=Ext.alloc H (.cells 3 [.int .i64 e.kind,.int .i64 e.at_,.int .i64 e.val])
 obtain ⟨H1,t⟩:∃H1,H.alloc (.cells 3 [.int .i64 e.kind,.int .i64 e.at_,.int .i64 e.val])=H1:=⟨_,rfl⟩
 obtain ⟨M,H2,I,l,j,n,f,N,w,E,C,B⟩:=iv (bytes:=24) F o (r:=[.int .i64 e.kind,.int .i64 e.at_,.int .i64 e.val]) rfl t (by rw [cY];omega) (by rw [cY];omega);rw [t]at i X;obtain ⟨a,c,p⟩:=l.shape;rw [avp,List.length_singleton,cY]at p;subst p;have L:=j.get G g;obtain ⟨d,y,u,A,D,K⟩:=cm L (by rw [f];exact J) (k:=9) (vs:=[.slice a (trace.length+1) c]) (by simp);refine ⟨H1,a,c,H2,d,i,I,y,K,?_,(j.mono fun x _ h=>.inr h).trans (u.mono fun x _ h=>.inl h),n,E,C,X,f,B,D.trans f,A,j⟩;rw [lg];exact l.mod u fun b s q=>by have:=n b s;have:=AH.bc g;omega
def aam (m:Nat) (v:MV) (tr0:List Ev) (pJ:List Ev) (R:Nat→Prop) (H:AH):Prop:=∃vt,R=(fun b=>b=m∨aX vt b)∧H.get m=some (.cells 14 ({v with vt:=vt}:MV).cells)∧H.n0≤m∧dU H 3 vt (dj (tr0++pJ))∧¬ aX vt m
theorem UJ {G:AH} {m B:Nat} {v:MV} {f:List Ev} (C:G.ld ⟨B,0,none⟩=some (.pointer (some ⟨m,0,none⟩))) (y:f.length≤2^40):See G 158 #[] #[.pointer (some ⟨B,0,none⟩)] (aam m v f)where
 call:=by
  rintro E R H n i P ⟨vt,rfl,g,e,o,j⟩ X S hl;refine Ca.aR (F:=NK) rfl rfl rfl ?_;have w:=X.ld C;obtain ⟨Z,a,c,Y,H3,d,z,x,D,s,V,r,N,K,U,L,t,u,I,W⟩:=tell (v:={v with vt:=vt}) ⟨1,n,i⟩ P g e o j (by rw [avp];omega);simp only [avp]at z x D s r;have l:=(X.mod W (fun b d=>S b (.inr d))).ldn (bh.1 C);have J:Z.nx≤Y.nx:=t;have O:=aL g e (k:=9) (v:=vt) rfl;have Q:fD [.int .i64 0,.int .i64 0,.int .i64 0] [(0,1,.int .i64 1),(1,1,.int .i64 n),(2,1,.int .i64 i)]=some (.agg #[.int .i64 1,.int .i64 n,.int .i64 i]):=rfl;have h:=bh.1 w;have p:=U.ldn h;simp (maxSteps:=9^7)-implicitDefEqProofs+contextual [-X.ev,NK,w,O,Q,d,z,x,h,p,l,N,K,L,t,u,I,bu,aM,aN];exact ⟨_,⟨_,rfl,D,by rw [u];exact e,by simpa [avF]using s,fun q=>by have:=r m q;have:=AH.bc g;omega⟩,V,fun b d=>d.imp (fun q=>.inl q) (fun q=>r b q)⟩
 mod:=by
  rintro E R T H H' ⟨vt,rfl,g,e,o,j⟩ M A;exact ⟨vt,rfl,M.get (fun q=>A m q (.inl rfl)) g,by rw [M.n0];exact e,o.mod M (fun b d q=>A b q (.inr d)),j⟩
 lt:=by
  rintro E R H ⟨vt,rfl,g,e,o,j⟩ b d;rcases d with rfl|d
  ·exact AH.bc g
  ·exact o.lt d
open Go
theorem JR {G:AH} {w:Int} {h o:Value} {V:List Vr} {S:List (List Int)} {f:Nat} {first cap:Array Value} {I:List Ev→(Nat→Prop)→AH→Prop} (D:aC w V=true) (J:Bd w V S) (A:dI G h V) (u:JM h) (r:eO G o S) (k:See G f first cap I)
 {e:ch} {c:List Value} {H:AH} {i:List Ev} {R:Nat→Prop} (p:H.n0≤H.nx) (X:Sub G H) (v:I i R H) (K:∀b,R b→G.get b=none) (t:oV G c e) (B:dq w V S.length e=true) (l:(i.length:Int)+aA e≤2^40):
 Ca E O 157 [.int .i64 w,h,o,.agg c.toArray,.func (.func f) first cap] H (fun x H'=>x= .int .i64 (a6 w V S e)∧∃y,I (i++mF w V S e) y H'∧Mod R H H'∧∀b,y b→R b∨H.nx≤b):=by
 refine Ca.aR (F:=a157) rfl rfl rfl ?_;obtain ⟨a,Z,j⟩:=r.len;have W:c.length=4:=by cases t;rfl
 have L:=k.lt v;have g:=Ext.alloc H (.cells c.length c);have d:(H.alloc (.cells c.length c)).ldn ⟨H.nx,0,none⟩ 4=some c:=bo p 4 (by assumption);generalize M:H.alloc (.cells c.length c)=Q at g d;have z:=g.wf p
 have C:fD [.int .i64 0,.slice none 0 0,.int .i64 0] [(0,1,.int .i64 w),(1,1,h),(2,1,.int .i64 S.length)]=some (.agg #[.int .i64 w,h,.int .i64 S.length]):=by
  obtain ⟨a1,U,Y,rfl,_⟩:=u;rfl
 have s:=JQ D J A u r k _ e c Q i R (avv _) z (X.Ua g) (k.ext v g) K t B l;rw [j]at s⊢;simp (maxSteps:=9^7)-implicitDefEqProofs+contextual [-X.ev,a157,M,C,d];apply ah
 ·(simp-implicitDefEqProofs [-X.ev];rfl)
 refine (s).mono ?_;rintro x H2 ⟨rfl,N,n,P,m⟩;have T:=g.nx;simp (maxSteps:=9^7)-implicitDefEqProofs+contextual [-X.ev];exact ⟨N,n,(Mod.cv g).then P (fun b _ q=>q),fun b l=>(m b l).imp id (fun q=>by omega)⟩
theorem JS {G H:AH} {R:Nat→Prop} (X:Sub G H) (a:∀b,R b→G.get b=none):Sub G (part H 0 R):=
 ⟨by rw [qw,X.n0],by rw [xM];exact X.nx,fun b x k=>kl.2 ⟨X.get b x k,avI _,fun q=>by rw [a b q]at k;cases k⟩⟩
theorem wv {H:AH} {n:Nat} {R:Nat→Prop} {b:Nat} (a:R b):(part H n R).get b=none:=by
 cases h:(part H n R).get b with
 |none=>rfl
 |some x=>exact absurd a (kl.1 h).2.2
theorem lJ {G H:AH} {m:Nat} {v:MV} {rows:List (List Value)} {store:List Int} {outs:List (Int×Int)} {trace:List Ev} {V:List Vr} {e:ch} {c:List Value} (h:MH G H m v rows store outs trace) (hV:aC v.w V=true) (hS:bq v.w V store=true) (hv:dI G v.vv V) (jm:JM v.vv) (U:oV G c e) (hf:dq v.w V 1 e=true) (a:(trace.length:Int)+aA e≤2^40) (hc:0≤v.cost∧v.cost+aA e≤2^60):
 Ca E O 142 [.pointer (some ⟨m,0,none⟩),.agg c.toArray] H (fun x H'=>x= .int .i64 (a6 v.w V [store] e)∧∃u,MH G H' m {v with vt:=u,cost:=v.cost+aA e} rows store outs (trace++mF v.w V [store] e)∧Mod (fun b=>b=m∨aX v.vt b) H H'∧∀b,aX u b→aX v.vt b∨H.nx≤b):=by
 refine Ca.aR (F:=NF) rfl rfl rfl ?_;have hc4:c.length=4:=by cases U;rfl
 have A:=h.wf;have gB:=cQ H (.cells 1 [.pointer (some ⟨m,0,none⟩)]);have L:=Ext.alloc H (.cells 1 [.pointer (some ⟨m,0,none⟩)]);have d0:(H.alloc (.cells 1 [.pointer (some ⟨m,0,none⟩)])).ld ⟨H.nx,0,none⟩=some (.pointer (some ⟨m,0,none⟩)):=ak A rfl;have d:(H.alloc (.cells 1 [.pointer (some ⟨m,0,none⟩)])).ldn ⟨H.nx,0,none⟩ 1=some [.pointer (some ⟨m,0,none⟩)]:=bo A 1 rfl;generalize cM:H.alloc (.cells 1 [.pointer (some ⟨m,0,none⟩)])=D at L d0 d;have bT:=L.wf A;rw [cM]at gB;have r:=Ext.alloc D (.cells c.length c);have q:(D.alloc (.cells c.length c)).ldn ⟨D.nx,0,none⟩ 4=some c:=bo bT 4 (by assumption);generalize kH:D.alloc (.cells c.length c)=H2 at r q;have kg:=r.wf bT;have gH:=L.trans r;have h2:=h.ext gH;have x1:=L.nx;have x2:=r.nx;have pn:=eA e;have ltm:=h.lt (.inl rfl);have Xn:=r.ld d0;have l10:=aL h2.get h2.n0 (k:=10) (v:=.int .i64 v.cost) rfl;have dn:=bh.1 Xn;have ln:=bh.1 l10;simp (maxSteps:=9^7)-implicitDefEqProofs+contextual [-X.ev,NF,cM,kH,Xn,l10,q];apply ah
 ·(simp-implicitDefEqProofs [-X.ev];rfl)
 refine (wk _ _ c H2 (avv _) kg (U.sub h2.sub) (by omega)).mono ?_;rintro x H3 ⟨rfl,j⟩;have K:=h2.ext j;have x3:=j.nx;have s:=j.n0;have dn3:=j.ldn dn;have Q:=j.ldn ln;have ww:IntKind.i64.wrap (v.cost+aA e)=v.cost+aA e:=ai ⟨by omega,by omega⟩;obtain ⟨g,s4,C,Bb,pI,g4⟩:=cm K.get K.n0 (k:=10) (vs:=[.int .i64 (v.cost+aA e)]) (by simp);have i:MH G g m {v with vt:=v.vt,cost:=v.cost+aA e} rows store outs trace:=K.xO (C.mono fun x _ T=>.inl T) g4 (K.tr.mod C fun b a q=>h.d1.2.2.2 (q▸a)) (fun b a=>.inl a);have qY:=i.wf;have y:g.n0=H.n0:=pI.trans (s.trans gH.n0);have Xt:=C.get (fun q=>by omega) (j.get (r.get gB));have S:g.ld ⟨H.nx,0,none⟩=some (.pointer (some ⟨m,0,none⟩)):=aL Xt (by rw [y];exact A) rfl;have q4:g.ldn ⟨D.nx,0,none⟩ 4=some c:=C.ldn (fun q=>by simp at q;omega) (j.ldn q);have r1:=aL i.get i.n0 (k:=1) (v:=.int .i64 v.w) rfl;have r2:=aL i.get i.n0 (k:=2) (v:=v.vv) rfl;have r7:=aL i.get i.n0 (k:=7) (v:=v.vs) rfl;obtain ⟨sa,sc,I⟩:=h.st.shape;have J:=sP (sz:=1) (z:=[.slice none 0 0]) (H:=g) (v:=v.vs) (by rw [I];rfl) (by rw [I];rfl) rfl;have Yk:aZ v.vs=[v.vs]:=by rw [I];rfl
 rw [Yk]at J;have o:=Ext.alloc g (.cells 1 [v.vs]);have g5:=cQ g (.cells 1 [v.vs])
 obtain ⟨H5,Ur⟩:∃H5,g.alloc (.cells 1 [v.vs])=H5:=⟨_,rfl⟩
 rw [Ur]at J o g5;have l:=i.ext o;have x5:=o.nx;have sw:=l.wf;have P:=o.n0
 obtain ⟨p,f⟩:∃p:Nat→Prop,p=(fun b=>b=m∨aX v.vt b):=⟨_,rfl⟩
 have RA:∀b,p b→G.get b=none:=fun b a=>h.out b (by subst f;rcases a with q|q;exact .inl q;exact .inr (.inr (.inr (.inr q))))
 have B:∀b,p b→b<H.nx:=fun b a=>h.lt (by subst f;rcases a with q|q;exact .inl q;exact .inr (.inr (.inr (.inr q))))
 have SG:=JS l.sub RA;have R:(part H5 0 p).ld ⟨H.nx,0,none⟩=some (.pointer (some ⟨m,0,none⟩)):=aL (kl.2 ⟨o.get Xt,avI _,fun q=>by have:=B _ q;omega⟩) (by rw [qw,P,y];exact A) rfl
 have oS:dU H5 1 (.slice (some ⟨g.nx,0,none⟩) 1 1) [[v.vs]]:=⟨.inr ⟨g.nx,rfl,by rw [P];exact qY,g5⟩,by simp⟩
 have sC:eO (part H5 0 p) (.slice (some ⟨g.nx,0,none⟩) 1 1) [store]:=⟨[[v.vs]],(oS.part fun b a=>⟨avI _,fun q=>by rw [bJ]at a;have:=B _ q;omega⟩).rows,.cons ⟨v.vs,rfl,(l.st.part fun b a=>⟨avI _,fun q=>by
  subst f;rcases q with rfl|q
  ·exact h.d1.2.1 a
  ·exact (h.d3 b a).2 q⟩).ints⟩ .nil⟩
 have hI:aam m {v with vt:=v.vt,cost:=v.cost+aA e} trace [] p H5:=⟨v.vt,f,l.get,l.n0,by simpa using l.tr,h.d1.2.2.2⟩
 have xL:Bd v.w V [store]:=fun t ht=>by simp at ht;subst ht;exact hS
 have key:=JR hV xL (dI.sub SG hv) jm sC (UJ R (by omega)) sw (DU _ _ _) hI (fun b a=>wv a) (U.sub SG) hf (by simp;omega);have w1:=ai (n:=v.cost+aA e) ⟨by omega,by omega⟩;rw [I]at r7 J;simp (maxSteps:=9^7)-implicitDefEqProofs+contextual [-X.ev,ww,s4,x3,s,Bb,pI,dn,dn3,ln,Q,bu,aM,aN,S,r1,r2,r7,J,o.ldn q4];rw [Bb]at key;apply ah
 ·(simp-implicitDefEqProofs [-X.ev];rfl)
 refine (key).mono ?_;rintro x H6 ⟨rfl,R6,⟨u,Y,g6,h06,o6,W⟩,M,Z⟩;have x6:=M.nx;have N:=M.n0;simp (maxSteps:=9^7)-implicitDefEqProofs+contextual [-X.ev,bu,aM,aN,x5,P,x6,N];subst f
 have fresh:∀b,aX u b→aX v.vt b∨H5.nx≤b:=fun b a=>by
  rcases Z b (by rw [Y];exact .inr a)with(q|q)|q
  ·subst q;exact absurd a W
  ·exact .inl q
  ·exact .inr q
 refine ⟨u,l.xO M g6 (by simpa using o6) fresh,?_,fun b a=>(fresh b a).imp id (fun q=>by omega)⟩;exact (((Mod.cv (gH.trans j)).trans (C.mono fun x _ T=>.inl T)).trans (Mod.cv o)).trans M
end
section
open Go
section
variable{G H H':AH} {m:Nat} {v:MV} {rows dP:List (List Value)} {store:List Int} {outs uI:List (Int×Int)} {trace uH:List Ev}
theorem MH.ajA {vf:Value} (h:MH G H m v rows store outs trace) (M:Mod (fun b=>b=m∨aX v.vf b) H H') (g:H'.get m=some (.cells 14 ({v with vf:=vf}:MV).cells)) (o:gN H' 2 vf dP) (c:∀b,aX vf b→aX v.vf b∨H.nx≤b):MH G H' m {v with vf:=vf} dP store outs trace where
 get:=g
 n0:=by rw [M.n0];exact h.n0
 sub:=h.sub.mod M fun b a=>h.out b (by rcases a with q|q;exact .inl q;exact .inr (.inl q))
 wf:=M.wf h.wf
 fr:=o
 st:=h.st.mod M fun b a q=>by rcases q with rfl|q;exact h.d1.2.1 a;exact (h.d2 b q).1 a
 ou:=h.ou.mod M fun b a q=>by rcases q with rfl|q;exact h.d1.2.2.1 a;exact (h.d2 b q).2.1 a
 tr:=h.tr.mod M fun b a q=>by rcases q with rfl|q;exact h.d1.2.2.2 a;exact (h.d2 b q).2.2 a
 d1:=⟨fun q=>by rcases c m q with q|q;exact h.d1.1 q;have:=h.lt (.inl rfl);omega,h.d1.2.1,h.d1.2.2.1,h.d1.2.2.2⟩
 d2:=fun b a=>by
  rcases c b a with q|q
  ·exact h.d2 b q
  ·exact ⟨fun k=>by have:=h.lt (.inr (.inr (.inl k)));omega,fun k=>by have:=h.lt (.inr (.inr (.inr (.inl k))));omega,fun k=>by have:=h.lt (.inr (.inr (.inr (.inr k))));omega⟩
 d3:=h.d3
 d4:=h.d4
 out:=fun b a=>by
  rcases a with q|q|q
  ·exact h.out b (.inl q)
  ·rcases c b q with q|q
   ·exact h.out b (.inr (.inl q))
   ·exact AH.tA (avC h.sub.nx q)
  ·exact h.out b (.inr (.inr q))
theorem MH.aaq {vo:Value} (h:MH G H m v rows store outs trace) (M:Mod (fun b=>b=m∨aX v.vo b) H H') (g:H'.get m=some (.cells 14 ({v with vo:=vo}:MV).cells)) (o:dU H' 2 vo (dH uI)) (c:∀b,aX vo b→aX v.vo b∨H.nx≤b):MH G H' m {v with vo:=vo} rows store uI trace where
 get:=g
 n0:=by rw [M.n0];exact h.n0
 sub:=h.sub.mod M fun b a=>h.out b (by rcases a with q|q;exact .inl q;exact .inr (.inr (.inr (.inl q))))
 wf:=M.wf h.wf
 fr:=h.fr.mod M fun b a q=>by rcases q with rfl|q;exact h.d1.1 a;exact (h.d2 b a).2.1 q
 st:=h.st.mod M fun b a q=>by rcases q with rfl|q;exact h.d1.2.1 a;exact (h.d3 b a).1 q
 ou:=o
 tr:=h.tr.mod M fun b a q=>by rcases q with rfl|q;exact h.d1.2.2.2 a;exact h.d4 b q a
 d1:=⟨h.d1.1,h.d1.2.1,fun q=>by rcases c m q with q|q;exact h.d1.2.2.1 q;have:=h.lt (.inl rfl);omega,h.d1.2.2.2⟩
 d2:=fun b a=>⟨(h.d2 b a).1,fun q=>by rcases c b q with q|q;exact (h.d2 b a).2.1 q;have:=h.lt (.inr (.inl a));omega,(h.d2 b a).2.2⟩
 d3:=fun b a=>⟨fun q=>by rcases c b q with q|q;exact (h.d3 b a).1 q;have:=h.lt (.inr (.inr (.inl a)));omega,(h.d3 b a).2⟩
 d4:=fun b a q=>by rcases c b a with k|k;exact h.d4 b k q;have:=h.lt (.inr (.inr (.inr (.inr q))));omega
 out:=fun b a=>by
  rcases a with q|q|q|q|q
  ·exact h.out b (.inl q)
  ·exact h.out b (.inr (.inl q))
  ·exact h.out b (.inr (.inr (.inl q)))
  ·rcases c b q with q|q
   ·exact h.out b (.inr (.inr (.inr (.inl q))))
   ·exact AH.tA (avC h.sub.nx q)
  ·exact h.out b (.inr (.inr (.inr (.inr q))))
theorem MH.UK {v':MV} (h:MH G H m v rows store outs trace) (M:Mod (fun b=>b=m) H H') (g:H'.get m=some (.cells 14 v'.cells)) (f:v'.vf=v.vf) (e:v'.vs=v.vs) (d:v'.vo=v.vo) (c:v'.vt=v.vt):MH G H' m v' rows store outs trace where
 get:=g
 n0:=by rw [M.n0];exact h.n0
 sub:=h.sub.mod M fun b a=>h.out b (.inl a)
 wf:=M.wf h.wf
 fr:=by rw [f];exact h.fr.mod M fun b a q=>h.d1.1 (q▸a)
 st:=by rw [e];exact h.st.mod M fun b a q=>h.d1.2.1 (q▸a)
 ou:=by rw [d];exact h.ou.mod M fun b a q=>h.d1.2.2.1 (q▸a)
 tr:=by rw [c];exact h.tr.mod M fun b a q=>h.d1.2.2.2 (q▸a)
 d1:=by rw [f,e,d,c];exact h.d1
 d2:=by rw [f,e,d,c];exact h.d2
 d3:=by rw [e,d,c];exact h.d3
 d4:=by rw [d,c];exact h.d4
 out:=fun b a=>h.out b (by unfold Mf at a⊢;rw [f,e,d,c]at a;exact a)
theorem pK {x:Value}:∀{l:List Value} {k:Nat},k<l.length→aP l k [x]=l.set k x
 |y::l,0,_=>by simp [aP]
 |y::l,k+1,h=>by simp only [aP,List.set_cons_succ];rw [pK (by simpa using h)]
theorem iy (l:List Int):(a7 l).flatten=l.map (fun n=>.int .i64 n):=by
 induction l with
 |nil=>rfl
 |cons x l ih=>simp only [a7,List.map_cons,List.flatten_cons,List.singleton_append]at ih⊢;rw [ih]
theorem MH.ajB {k:Nat} (a:Int) (h:MH G H m v rows store outs trace) (f:k<store.length):∃b H',v.vs= .slice (some ⟨b,0,none⟩) store.length store.length∧H.st ⟨b,k,none⟩ [.int .i64 a]=some H'∧MH G H' m v rows (store.set k a) outs trace∧Mod (Mf m v) H H'∧H'.nx=H.nx∧H'.n0=H.n0:=by
 rcases h.st.is with⟨_,e⟩|⟨b,e,i,g⟩
 · have:=congrArg List.length e;simp [a7]at this;subst this;simp at f
 rw [iy]at g;have el:(a7 store).length=store.length:=by simp [a7]
 rw [el]at e;have d:aX v.vs b:=by rw [e];exact (bJ _ _ _ _ _).2 rfl
 obtain ⟨H',st,M,l,n0,j⟩:=cm g i (k:=k) (vs:=[.int .i64 a]) (by simp;omega);rw [pK (by simpa using f),←List.map_set,←iy]at j;refine ⟨b,H',e,st, ?_,M.mono fun x _ c=> .inr (.inr (.inl (c▸d))),l,n0⟩
 exact
  {get:=M.get (fun q=>h.d1.2.1 (by rw [q];exact d)) h.get
   n0:=by rw [n0];exact h.n0
   sub:=h.sub.mod M fun x c=>h.out x (.inr (.inr (.inl (c▸d))))
   wf:=M.wf h.wf
   fr:=h.fr.mod M fun x c q=>(h.d2 x c).1 (q▸d)
   st:=⟨.inr ⟨b,by rw [e];simp [a7],by rw [n0];exact i,j⟩,fun r n=>by obtain ⟨o,_,rfl⟩:=avN.1 n;rfl⟩
   ou:=h.ou.mod M fun x c q=>(h.d3 x (q▸d)).1 c
   tr:=h.tr.mod M fun x c q=>(h.d3 x (q▸d)).2 c
   d1:=h.d1,d2:=h.d2,d3:=h.d3,d4:=h.d4,out:=h.out}
end
section
variable{G H:AH} {m:Nat} {v:MV} {rows:List (List Value)} {store:List Int} {outs:List (Int×Int)} {trace:List Ev} {V:List Vr}
theorem DW {op n:Int} {va vt ve:Value} (h:MH G H m v rows store outs trace) (q:dI G v.vv V) (i:0≤n∧n<V.length) (j:¬ 1<aq V n):
 Ca E O 141 [.pointer (some ⟨m,0,none⟩),.agg #[.int .i64 op,.int .i64 n,va,vt,ve]] H (fun x H'=>x= .int .i64 0∧Ext H H'):=by
 refine Ca.aR (F:=a141) rfl rfl rfl ?_;have a:=h.wf;have c:=Ext.alloc H (.cells 5 [.int .i64 op,.int .i64 n,va,vt,ve]);have z:(H.alloc (.cells 5 [.int .i64 op,.int .i64 n,va,vt,ve])).ld ⟨H.nx,0,none⟩=some (.int .i64 op):=ak a rfl;have l:(H.alloc (.cells 5 [.int .i64 op,.int .i64 n,va,vt,ve])).ld ⟨H.nx,1,none⟩=some (.int .i64 n):=ak a rfl;have y:(H.alloc (.cells 5 [.int .i64 op,.int .i64 n,va,vt,ve])).ld ⟨H.nx,2,none⟩=some va:=ak a rfl;have w:(H.alloc (.cells 5 [.int .i64 op,.int .i64 n,va,vt,ve])).ld ⟨H.nx,3,none⟩=some vt:=ak a rfl;have u:(H.alloc (.cells 5 [.int .i64 op,.int .i64 n,va,vt,ve])).ld ⟨H.nx,4,none⟩=some ve:=ak a rfl;have d:(H.alloc (.cells 5 [.int .i64 op,.int .i64 n,va,vt,ve])).ldn ⟨H.nx,0,none⟩ 5=some [.int .i64 op,.int .i64 n,va,vt,ve]:=bo a 5 rfl;generalize t:H.alloc (.cells 5 [.int .i64 op,.int .i64 n,va,vt,ve])=C at c z l y w u d;have A:=c.wf a;have e:=h.ext c
 obtain ⟨yv,g⟩:∃yv,V[n.toNat]?=some yv:=⟨_,avg (by omega)⟩
 have s:aq V n=yv.cells:=by simp [aq,g]
 obtain ⟨b,o,B,p,_,_,_,r⟩:=(dI.sub e.sub q).at g;have f:=aL e.get e.n0 (k:=2) (v:=v.vv) rfl;rw [p]at f;rw [s]at j;simp (maxSteps:=9^7)-implicitDefEqProofs+contextual [-X.ev,a141,t,f,l,i.1,i.2,r,j,bu,aM,aN];exact c
theorem DX {op n:Int} {va vt ve:Value} {j:List (List Value)} {args:List ch} {y:ch} (h:MH G H m v rows store outs trace) (W:aC v.w V=true) (Y:bq v.w V store=true) (t:dI G v.vv V) (U:JM v.vv) (u:0≤n∧n<V.length) (z:1<aq V n)
 (L:Rows G 4 va j) (P:gY G j args) (s:args[0]?=some y) (Q:dq v.w V 1 y=true) (i:(trace.length:Int)+aA y≤2^40) (T:0≤v.cost∧v.cost+aA y≤2^60):
 Ca E O 141 [.pointer (some ⟨m,0,none⟩),.agg #[.int .i64 op,.int .i64 n,va,vt,ve]] H (fun x H'=>x= .int .i64 (a6 v.w V [store] y)∧∃f,MH G H' m {v with vt:=f,cost:=v.cost+aA y} rows store outs (trace++mF v.w V [store] y)∧Mod (fun b=>b=m∨aX v.vt b) H H'∧∀b,aX f b→aX v.vt b∨H.nx≤b):=by
 refine Ca.aR (F:=a141) rfl rfl rfl ?_;have a:=h.wf;have e:=Ext.alloc H (.cells 5 [.int .i64 op,.int .i64 n,va,vt,ve]);have d0:(H.alloc (.cells 5 [.int .i64 op,.int .i64 n,va,vt,ve])).ld ⟨H.nx,0,none⟩=some (.int .i64 op):=ak a rfl;have C:(H.alloc (.cells 5 [.int .i64 op,.int .i64 n,va,vt,ve])).ld ⟨H.nx,1,none⟩=some (.int .i64 n):=ak a rfl;have B:(H.alloc (.cells 5 [.int .i64 op,.int .i64 n,va,vt,ve])).ld ⟨H.nx,2,none⟩=some va:=ak a rfl;have d3:(H.alloc (.cells 5 [.int .i64 op,.int .i64 n,va,vt,ve])).ld ⟨H.nx,3,none⟩=some vt:=ak a rfl;have d4:(H.alloc (.cells 5 [.int .i64 op,.int .i64 n,va,vt,ve])).ld ⟨H.nx,4,none⟩=some ve:=ak a rfl;have d:(H.alloc (.cells 5 [.int .i64 op,.int .i64 n,va,vt,ve])).ldn ⟨H.nx,0,none⟩ 5=some [.int .i64 op,.int .i64 n,va,vt,ve]:=bo a 5 rfl;generalize Z:H.alloc (.cells 5 [.int .i64 op,.int .i64 n,va,vt,ve])=H1 at e d0 C B d3 d4 d;have bT:=e.wf a;have c:=h.ext e
 obtain ⟨yv,p⟩:∃yv,V[n.toNat]?=some yv:=⟨_,avg (by omega)⟩
 have S:aq V n=yv.cells:=by simp [aq,p]
 obtain ⟨b,o,c',I,_,_,_,N⟩:=(dI.sub c.sub t).at p;have l:=aL c.get c.n0 (k:=2) (v:=v.vv) rfl;rw [I]at l;rw [S]at z;obtain ⟨b4,o4,c4,vy,r,J,M,K,R⟩:=gY.row L P s;have g:=c.sub.ldn M;simp only [Nat.zero_mul,Nat.add_zero]at g;have UM:0<args.length:=by have:=(avm.1 s).1;omega
 rw [←K]at g;have A:=B;rw [J]at A;have x1:=e.nx;simp (maxSteps:=9^7)-implicitDefEqProofs+contextual [-X.ev,a141,Z,l,C,A,u.1,u.2,N,z,UM,g,bu,aM,aN];apply ah
 ·(simp-implicitDefEqProofs [-X.ev];rfl)
 refine (lJ c W Y t U R Q i T).mono ?_;rintro x H2 ⟨rfl,f,h2,M2,D⟩;simp (maxSteps:=9^7)-implicitDefEqProofs+contextual [-X.ev];exact ⟨f,h2,(Mod.cv e).trans M2,fun b i=>(D b i).imp id (fun q=>by omega)⟩
end
end
section
open Go
section
variable{G H:AH} {m:Nat} {v:MV} {rows:List (List Value)} {store:List Int} {outs:List (Int×Int)} {trace:List Ev} {V:List Vr}
theorem MH.tell (e:Ev) (h:MH G H m v rows store outs trace) (g:trace.length≤2^41):
 ∃H1 a c f d,oG 1 3 [.int .i64 0,.int .i64 0,.int .i64 0] H [(0,3,.agg #[.int .i64 e.kind,.int .i64 e.at_,.int .i64 e.val])]=some (.slice (some ⟨H.nx,0,none⟩) 1 1,H1)∧bL 3 24 H1 v.vt (.slice (some ⟨H.nx,0,none⟩) 1 1)=some (.slice a (trace.length+1) c,f)∧f.st ⟨m,9,none⟩ [.slice a (trace.length+1) c]=some d∧
  MH G d m {v with vt:=.slice a (trace.length+1) c} rows store outs (trace++[e])∧Mod (fun b=>b=m∨aX v.vt b) H d∧(∀b,aX (.slice a (trace.length+1) c) b→H.nx≤b)∧H1.n0=H.n0∧H.nx≤H1.nx∧f.n0=H.n0∧H1.nx≤f.nx∧d.n0=H.n0∧d.nx=f.nx:=by
 obtain ⟨H1,a,c,f,d,t,u,s,w,k,j,i,r,o,x,q,n,p,l,y⟩:=A.tell e h.wf h.get h.n0 h.tr h.d1.2.2.2 g;exact ⟨H1,a,c,f,d,t,u,s,h.xO j w k (fun b g=>.inr (i b g)),j,i,r,o,q,n,p,l⟩
theorem om {n i a:Int} (h:MH G H m v rows store outs trace) (L:aC v.w V=true) (hS:bq v.w V store=true) (W:dI G v.vv V) (jm:JM v.vv) (hn:0≤n∧n<V.length) (hi:0≤i∧i≤2^40) (e:trace.length≤2^41):
 Ca E O 144 [.pointer (some ⟨m,0,none⟩),.int .i64 n,.int .i64 i,.int .i64 a] H (fun x H'=>∃f,MH G H' m {v with vt:=f} rows (store.set (bl V n+i%aq V n).toNat a) outs (trace++if 1<aq V n then [⟨2,n,i%aq V n⟩]else [])∧Mod (Mf m v) H H'∧∀b,aX f b→aX v.vt b∨H.nx≤b):=by
 refine Ca.aR (F:=FK) rfl rfl rfl ?_;have hw:=h.wf
 obtain ⟨nn,rfl⟩:∃k:Nat,n=k:=⟨n.toNat,by omega⟩
 obtain ⟨yv,Ch⟩:∃yv,V[nn]?=some yv:=⟨_,avg (by omega)⟩
 have Cd:aq V nn=yv.cells:=by simp [aq,Ch]
 obtain ⟨b,o,c',T,_,_,_,Cj⟩:=(dI.sub h.sub W).at Ch;have nh:=oh L hn i;have N:=iQ (b:=yv.cells) hi.1;rw [if_neg (by omega)]at N;have hVl:=(aD L).2.2.2
 have eJ:1≤v.w∧v.w≤8:=⟨(aD L).1,(aD L).2.1⟩
 obtain ⟨x0,S,_⟩:=jq eJ hS (i:=bl V nn+i%aq V nn) (by omega);have cO:=(avm.1 S).1;rw [Cd]at nh cO⊢;have P:=aL h.get h.n0 (k:=2) (v:=v.vv) rfl;rw [T]at P;have A:nn<V.length:=by omega
 have RC:H.ld ⟨b,o+nn*3+2,none⟩=some (.int .i64 yv.cells):=by simpa using Cj
 have ar4:Mf m v m:=.inl rfl;have B:∀b,aX v.vt b→Mf m v b:=fun b e=>.inr (.inr (.inr (.inr e)))
 refine uq [.r,.r] (fun d D=>d.get 0= .pointer (some ⟨m,0,none⟩)∧d.get 1= .int .i64 nn∧d.get 2= .int .i64 i∧d.get 3= .int .i64 a∧d.get 8= .int .i64 yv.cells∧∃f,MH G D m {v with vt:=f} rows store outs (trace++if 1<yv.cells then [⟨2,nn,i%yv.cells⟩]else [])∧Mod (Mf m v) H D∧∀b,aX f b→aX v.vt b∨H.nx≤b) rfl ?_ ?_
 ·rintro d D ⟨s,f1,p,l,g,f,C,M1,k1⟩
  obtain ⟨a',c1,c1',ue,Y⟩:=UC (n:=nn) (dI.sub C.sub W) jm hn;rw [Int.toNat_natCast]at Y;have s2:=aL C.get C.n0 (k:=2) (v:=v.vv) rfl;rw [T]at ue Y s2;cases ue;have lW:=C.wf;simp (maxSteps:=9^7)-implicitDefEqProofs+contextual [-X.ev,FK,s,f1,p,l,g,s2,Y];refine cn (fun k d H'=>Ext D H'∧∃j:Nat,j+k=nn∧d.get 0= .pointer (some ⟨m,0,none⟩)∧d.get 2= .int .i64 i∧d.get 3= .int .i64 a∧d.get 8= .int .i64 yv.cells∧d.get 45= .slice (some ⟨b,o,none⟩) nn c1'∧d.get 46= .int .i64 nn∧d.get 47= .int .i64 j∧d.get 9= .int .i64 (bl V (j:Int))) ?_ nn ⟨Ext.refl _,0,by simp,by simp [s],by simp [p],by simp [l],by simp [g],by simp,by simp,by simp,by simp [bl,dE]⟩;clear s f1 p l g d;rintro k d u ⟨M,j,hj,s,p,l,g,f45,f46,f47,f9⟩;have jG:=M.wf lW;have h2:=C.ext M;by_cases q:j<nn
  ·obtain ⟨y,hy⟩:∃y,V[j]?=some y:=⟨_,avg (by omega)⟩
   obtain ⟨b',o',G9,cL,bM,_,_,_⟩:=(dI.sub h2.sub W).at hy;rw [T]at cL;cases cL;simp only [Vr.row]at bM;obtain ⟨t,Hm,X3,Jk,Jl,z,I⟩:=eZ (H:=u) jG (z:=3) (c:=[.string ⟨#[]⟩,.int .i64 0,.int .i64 0]) (vs:=[.string y.name,.int .i64 y.level,.int .i64 y.cells]) rfl;have z0:t.ld ⟨u.nx,0,none⟩=some (.string y.name):=I 0 _ rfl;have z1:t.ld ⟨u.nx,1,none⟩=some (.int .i64 y.level):=I 1 _ rfl;have z2:t.ld ⟨u.nx,2,none⟩=some (.int .i64 y.cells):=I 2 _ rfl;clear I;replace z:t.ldn ⟨u.nx,0,none⟩ 3=some [.string y.name,.int .i64 y.level,.int .i64 y.cells]:=z;have zI:=X3.wf jG;simp (maxSteps:=9^7)-implicitDefEqProofs+contextual [-X.ev,f45,f46,f47,f9,q,bM,Hm,z2];rw [ai (n:=(j:Int)+1) ⟨by omega,by omega⟩];exact ⟨k- 1,by omega,M.trans X3,j+1,by omega,s,p,l,g,by simp,by rw [uE hy]⟩
  ·have oE:j=nn:=by omega
   subst oE;have ww:IntKind.i64.wrap (bl V j+i%yv.cells)=bl V j+i%yv.cells:=ai ⟨by omega,by omega⟩;obtain ⟨bs,t,qh,eY,Z,M3,Q,R⟩:=h2.ajB (k:=(bl V j+i%yv.cells).toNat) a cO;have s7:=aL h2.get h2.n0 (k:=7) (v:=v.vs) rfl;have U:v.vs= .slice (some ⟨bs,0,none⟩) store.length store.length:=qh;rw [U]at s7;have g0:0≤bl V j+i%yv.cells:=by omega
   have gl:bl V j+i%yv.cells<(store.length:Int):=by omega
   simp (maxSteps:=9^7)-implicitDefEqProofs+contextual [-X.ev,s,p,l,g,f45,f46,f47,f9,q,s7,N,ww,g0,gl,eY,R,Q,bu,aM,aN];refine ⟨f,Z,(M1.trans (Mod.cv M)).then M3 (fun b e q=>?_),k1⟩;rcases q with q|q|q|q|q
   ·exact .inl q
   ·exact .inr (.inl q)
   ·exact .inr (.inr (.inl q))
   ·exact .inr (.inr (.inr (.inl q)))
   ·rcases k1 b q with k|k
    ·exact B b k
    ·omega
 ·intro rest J
  by_cases K:1<yv.cells
  ·obtain ⟨D,a',c1,u,t,lj,ha,hs,Z,M3,k3,DR,JG,qW,yO,R,Q⟩:=h.tell ⟨2,nn,i%yv.cells⟩ e
   have s9:=aL h.get h.n0 (k:=9) (v:=v.vt) rfl;have vO:fD [.int .i64 0,.int .i64 0,.int .i64 0] [(0,1,.int .i64 2),(1,1,.int .i64 nn),(2,1,.int .i64 (i%yv.cells))]=some (.agg #[.int .i64 2,.int .i64 nn,.int .i64 (i%yv.cells)]):=rfl;rw [if_pos K]at J;simp (maxSteps:=9^7)-implicitDefEqProofs+contextual [-X.ev,FK,P,A,RC,K,s9,N,vO,lj,ha,hs,DR,JG,qW,yO,R,Q,bu,aM,aN];refine J _ _ ⟨by simp,by simp,by simp,by simp,by simp,_,Z,M3.mono (fun b _ e=>?_),fun b e=>.inr (k3 b e)⟩;rcases e with q|q
   ·exact .inl q
   ·exact B b q
  ·rw [if_neg K,List.append_nil]at J
   simp (maxSteps:=9^7)-implicitDefEqProofs+contextual [-X.ev,FK,P,A,RC,K];exact J _ _ ⟨by simp,by simp,by simp,by simp,by simp,_,h,Mod.refl _ _,fun b e=>.inl e⟩
end
end
section
open Go
structure dY where
 en:Int
 store:List Int
 outs:List (Int×Int)
 trace:List Ev
 cost:Int
 used:Nat
 wh:Int
 fuel:Int
 todo:List kJ
 over:Bool
def dZ (c:dY) (e n:Int):dY:={c with en:=e,wh:=n,todo:=[],over:=true}
def gh (V:List Vr) (c:dY) (n i a:Int):dY:={c with store:=c.store.set (bl V n+i%aq V n).toNat a,trace:=c.trace++if 1<aq V n then [⟨2,n,i%aq V n⟩]else []}
def bF.args:bF→List ch| .mk _ _ a _ _=>a
def cN (p:aU) (ps:List Int) (c:dY) (k:Int) (s:bF) (vals:List Int) (next:List kJ):dY:=
 match s with
 | .mk op n args thn els=>
  if op=0 then gh p.vars c n (if 1<aq p.vars n then eu vals 0 else 0) (eu vals (vals.length- 1))
  else if op=1 then{c with trace:=c.trace++[⟨0,k,if eu vals 0=0 then 0 else 1⟩],todo:=(if eu vals 0=0 then bO els (k+1+ar thn)else bO thn (k+1))++next}
  else if op=2 then{c with trace:=c.trace++[⟨0,k,if eu vals 0=0 then 0 else 1⟩],todo:=if eu vals 0=0 then next else bO thn (k+1)++(k,.mk op n args thn els)::next}
  else if op=3 then{c with outs:=c.outs++[(n,eu vals 0)]}
  else if op=4 then(if ps.length≤c.used then dZ c 4 k else gh p.vars {c with used:=c.used+1} n (if 1<aq p.vars n then eu vals 0 else 0) (eu ps c.used))
  else if op=5 then(if eu vals 0=0 then dZ c 1 k else c)
  else(if eu vals 0=0 then dZ c 2 k else c)
def iz (p:aU) (c:dY) (s:bF) (next:List kJ):dY:={c with todo:=next,fuel:=c.fuel- 1,cost:=c.cost+1+aw s.args,trace:=c.trace++eN p.w p.vars [c.store] s.args}
def bI (p:aU) (ps:List Int) (c:dY):dY:=
 if c.over=true then c else match c.todo with
 |[]=>c
 |(k,s)::next=>if c.fuel=0 then dZ c 3 k else cN p ps (iz p c s next) k s (bV p.w p.vars [c.store] s.args) next
structure jr (G H:AH) (m:Nat) (v:MV) (H':AH) (v':MV) (dP:List (List Value)) (xP:List Int) (uI:List (Int×Int)) (uH:List Ev):Prop where
 mh:MH G H' m v' dP xP uI uH
 mod:Mod (Mf m v) H H'
 new:∀b,Mf m v' b→Mf m v b∨H.nx≤b
section
variable{G H H1 H2:AH} {m:Nat} {v v1 v2:MV} {rows qC RE:List (List Value)} {store uJ JT:List Int} {outs uK RG:List (Int×Int)} {trace pL JU:List Ev} {V:List Vr}
theorem jr.refl (h:MH G H m v rows store outs trace):jr G H m v H v rows store outs trace:=⟨h,Mod.refl _ _,fun b a=>.inl a⟩
theorem jr.trans (a:jr G H m v H1 v1 qC uJ uK pL) (b:jr G H1 m v1 H2 v2 RE JT RG JU):jr G H m v H2 v2 RE JT RG JU where
 mh:=b.mh
 mod:=a.mod.then b.mod fun x c q=>by rcases a.new x q with k|k;exact k;omega
 new:=fun x c=>by
  have:=a.mod.nx;rcases b.new x c with q|q
  ·exact a.new x q
  ·right;omega
theorem jr.ext (a:jr G H m v H1 v1 qC uJ uK pL) (X:Ext H1 H2):jr G H m v H2 v1 qC uJ uK pL:=⟨a.mh.ext X,a.mod.trans (Mod.cv X),a.new⟩
theorem jr.nm (h:MH G H m v rows store outs trace) (X:Ext H H1):jr G H m v H1 v rows store outs trace:=(jr.refl h).ext X
theorem jr.tr {vt:Value} {cost:Int} (h:MH G H1 m {v with vt:=vt,cost:=cost} qC uJ uK pL) (M:Mod (fun b=>b=m∨aX v.vt b) H H1) (k:∀b,aX vt b→aX v.vt b∨H.nx≤b):jr G H m v H1 {v with vt:=vt,cost:=cost} qC uJ uK pL where
 mh:=h
 mod:=M.mono fun b _ q=>q.elim .inl fun q=>.inr (.inr (.inr (.inr q)))
 new:=fun b a=>by
  rcases a with q|q|q|q|q
  ·exact .inl (.inl q)
  ·exact .inl (.inr (.inl q))
  ·exact .inl (.inr (.inr (.inl q)))
  ·exact .inl (.inr (.inr (.inr (.inl q))))
  ·exact (k b q).imp (fun q=>.inr (.inr (.inr (.inr q)))) id
theorem jr.trW {vt:Value} {a:List Int} (h:MH G H1 m {v with vt:=vt} qC a uK pL) (M:Mod (Mf m v) H H1) (k:∀b,aX vt b→aX v.vt b∨H.nx≤b):jr G H m v H1 {v with vt:=vt} qC a uK pL where
 mh:=h
 mod:=M
 new:=fun b c=>by
  rcases c with q|q|q|q|q
  ·exact .inl (.inl q)
  ·exact .inl (.inr (.inl q))
  ·exact .inl (.inr (.inr (.inl q)))
  ·exact .inl (.inr (.inr (.inr (.inl q))))
  ·exact (k b q).imp (fun q=>.inr (.inr (.inr (.inr q)))) id
theorem jr.fr {vf:Value} (h:MH G H m v rows store outs trace) (M:Mod (fun b=>b=m∨aX v.vf b) H H1) (g:H1.get m=some (.cells 14 ({v with vf:=vf}:MV).cells)) (o:gN H1 2 vf qC) (a:∀b,aX vf b→aX v.vf b∨H.nx≤b):jr G H m v H1 {v with vf:=vf} qC store outs trace where
 mh:=h.ajA M g o a
 mod:=M.mono fun b _ q=>q.elim .inl fun q=>.inr (.inl q)
 new:=fun b c=>by
  rcases c with q|q|q
  ·exact .inl (.inl q)
  ·exact (a b q).imp (fun q=>.inr (.inl q)) id
  ·exact .inl (.inr (.inr q))
theorem MH.cell {v':MV} (k:Nat) (x:Value) (h:MH G H m v rows store outs trace) (n:k<14) (e:v.cells.set k x=v'.cells) (i:v'.vf=v.vf) (f:v'.vs=v.vs) (d:v'.vo=v.vo) (c:v'.vt=v.vt):∃H',H.st ⟨m,k,none⟩ [x]=some H'∧jr G H m v H' v' rows store outs trace∧H'.nx=H.nx∧H'.n0=H.n0:=by
 obtain ⟨H',st,M,j,l,g⟩:=cm h.get h.n0 (k:=k) (vs:=[x]) (by simp;omega);rw [pK (by simp;omega),e]at g;refine ⟨H',st,⟨h.UK M g i f d c,M.mono fun b _ q=>.inl q,fun b a=>.inl ?_⟩,j,l⟩;unfold Mf at a⊢;rw [i,f,d,c]at a;exact a
theorem uL {op n k:Int} {va vt ve:Value} {t:List (List Value)} {args:List ch} {y:ch} (h:MH G H m v rows store outs trace) (U:aC v.w V=true) (W:bq v.w V store=true) (J:dI G v.vv V) (T:JM v.vv)
 (L:Rows G 4 va t) (N:gY G t args) (u:args[0]?=some y) (P:dq v.w V 1 y=true) (o:(trace.length:Int)+aA y≤2^40) (R:0≤v.cost∧v.cost+aA y≤2^60):
 Ca E O 145 [.pointer (some ⟨m,0,none⟩),.agg #[.int .i64 op,.int .i64 n,va,vt,ve],.int .i64 k] H (fun x H'=>x= .bool (!decide (a6 v.w V [store] y=0))∧∃c,jr G H m v H' {v with vt:=c,cost:=v.cost+aA y} rows store outs (trace++mF v.w V [store] y++[⟨0,k,if a6 v.w V [store] y=0 then 0 else 1⟩])):=by
 refine Ca.aR (F:=a145) rfl rfl rfl ?_;have a:=h.wf;have e:=Ext.alloc H (.cells 5 [.int .i64 op,.int .i64 n,va,vt,ve]);have d0:(H.alloc (.cells 5 [.int .i64 op,.int .i64 n,va,vt,ve])).ld ⟨H.nx,0,none⟩=some (.int .i64 op):=ak a rfl;have d1:(H.alloc (.cells 5 [.int .i64 op,.int .i64 n,va,vt,ve])).ld ⟨H.nx,1,none⟩=some (.int .i64 n):=ak a rfl;have B:(H.alloc (.cells 5 [.int .i64 op,.int .i64 n,va,vt,ve])).ld ⟨H.nx,2,none⟩=some va:=ak a rfl;have d3:(H.alloc (.cells 5 [.int .i64 op,.int .i64 n,va,vt,ve])).ld ⟨H.nx,3,none⟩=some vt:=ak a rfl;have d4:(H.alloc (.cells 5 [.int .i64 op,.int .i64 n,va,vt,ve])).ld ⟨H.nx,4,none⟩=some ve:=ak a rfl;have d:(H.alloc (.cells 5 [.int .i64 op,.int .i64 n,va,vt,ve])).ldn ⟨H.nx,0,none⟩ 5=some [.int .i64 op,.int .i64 n,va,vt,ve]:=bo a 5 rfl;generalize Y:H.alloc (.cells 5 [.int .i64 op,.int .i64 n,va,vt,ve])=H1 at e d0 d1 B d3 d4 d;have bT:=e.wf a;have z:=h.ext e;obtain ⟨b4,o4,c4,vy,r,I,M,K,Q⟩:=gY.row L N u;have j:=z.sub.ldn M;simp only [Nat.zero_mul,Nat.add_zero]at j;have UM:0<args.length:=by have:=(avm.1 u).1;omega
 rw [←K]at j;have A:=B;rw [I]at A;have x1:=e.nx;have u2:=ek (w:=v.w) (V:=V) (S:=[store]) y;simp (maxSteps:=9^7)-implicitDefEqProofs+contextual [-X.ev,a145,Y,A,UM,j];apply ah
 ·(simp-implicitDefEqProofs [-X.ev];rfl)
 refine (lJ z U W J T Q P o R).mono ?_;rintro x H2 ⟨rfl,c,h2,M2,D⟩;obtain ⟨Ha,a',c1,Hb,H3,g,p,i,Z,M3,C,DR,JG,qW,yO,nU,tg⟩:=h2.tell ⟨0,k,if a6 v.w V [store] y=0 then 0 else 1⟩ (by rw [avp];omega);have s:=aL h2.get h2.n0 (k:=9) (v:=c) rfl;have A2:jr G H1 m v H2 {v with vt:=c,cost:=v.cost+aA y} rows store outs (trace++mF v.w V [store] y):=jr.tr h2 M2 D;have f:=(jr.nm h e).trans (A2.trans (jr.tr (v:={v with vt:=c,cost:=v.cost+aA y}) Z M3 (fun b o=>.inr (C b o))));simp only [avp]at p i f;by_cases q:a6 v.w V [store] y=0
 ·rw [if_pos q]at g f
  have l:fD [.int .i64 0,.int .i64 0,.int .i64 0] [(0,1,.int .i64 0),(1,1,.int .i64 k),(2,1,.int .i64 0)]=some (.agg #[.int .i64 0,.int .i64 k,.int .i64 0]):=rfl;simp (maxSteps:=9^7)-implicitDefEqProofs+contextual [-X.ev,q,s,l,g,p,i];exact ⟨_,by simpa [q]using f⟩
 ·rw [if_neg q]at g f
  have l:fD [.int .i64 0,.int .i64 0,.int .i64 0] [(0,1,.int .i64 0),(1,1,.int .i64 k),(2,1,.int .i64 1)]=some (.agg #[.int .i64 0,.int .i64 k,.int .i64 1]):=rfl;simp (maxSteps:=9^7)-implicitDefEqProofs+contextual [-X.ev,q,s,l,g,p,i];exact ⟨_,by simpa [q]using f⟩
end
end
section
open Go
def RJ (G:AH) (r:List Value) (f:List bF×Int):Prop:=∃vl rs,r=[vl,.int .i64 f.2]∧Rows G 5 vl rs∧fE G rs f.1∧Fit G vl∧f.1≠[]∧f.1.length≤2^30
def nq (fs:List (List bF×Int)):List kJ:=fs.foldl (fun t f=>bO f.1 f.2++t) []
theorem ko (fs:List (List bF×Int)) (f:List bF×Int):nq (fs++[f])=bO f.1 f.2++nq fs:=by simp [nq,List.foldl_append]
theorem gC.snoc {α β:Type} {C:α→β→Prop}:∀{l:List α} {k:List β} {a:α} {b:β},gC C l k→C a b→gC C (l++[a]) (k++[b])
 |_,_,_,_,.nil,h=>.cons h .nil
 |_,_,_,_,.cons x y,h=>.cons x (gC.snoc y h)
theorem mc (s:bF) (l:List bF) (k:Int):bO (s::l) k=(k,s)::bO l (k+bg s):=by
 obtain ⟨op,n,args,a,b⟩:=s;rw [bO,bg];simp only [List.cons.injEq,true_and];congr 1;omega
section
variable{G H:AH} {m:Nat} {v:MV} {rows dB:List (List Value)} {store:List Int} {outs:List (Int×Int)} {trace:List Ev} {V:List Vr}
theorem js {i:Value} {cs:List Value} {rs:List (List Value)} {s:bF} {l:List bF} {k:Int} {e:List (List bF×Int)} (h:MH G H m v (dB++[[i,.int .i64 k]]) store outs trace) (C:Rows G 5 i (cs::rs)) (I:Fit G i) (hs:Bf G cs s) (d:fE G rs l) (w:gC (RJ G) dB e)
 (t:dB.length≤2^40) (J:bA s≤2^30) (z:l.length≤2^30) (F:0≤k∧k≤2^40):
 Ca E O 143 [.pointer (some ⟨m,0,none⟩)] H (fun x H'=>∃a p y,jr G H m v H' {v with vf:=a} p store outs trace∧gC (RJ G) p y∧nq y=bO l (k+bg s)++nq e∧p.length≤dB.length+1):=by
 have K:bg s≤bA s:=by
  obtain ⟨op,n,args,j,u⟩:=s;have:=(aK j).2;have:=(aK u).2;have:=bf args;rw [bg,bA];omega
 refine (OW h.wf h.get h.n0 h.fr h.d1.1 t h.sub (fun b q=>h.out b (q.elim .inl fun q=>.inr (.inl q))) C I hs.toC (by omega) (by rw [d.length];omega) F (by omega)).mono ?_;rintro x H' ⟨a,g,⟨f,B,r,o⟩,M,kk⟩;have A:=jr.fr h M g o (fun b t=>.inl (kk b t));by_cases c:rs.length=0
 ·have D:l=[]:=avO (by rw [←d.length];exact c)
  rw [zV,if_pos c]at A;exact ⟨a,dB,e,A,w,by rw [D];rfl,by omega⟩
 ·rw [zV,if_neg c]at A
  exact ⟨a,_,e++[(l,k+bg s)],A,w.snoc ⟨f,rs,rfl,B,d,r,fun q=>c (by rw [d.length];simp at q;rw [q];rfl),z⟩,by rw [ko],by simp⟩
theorem qD {vt:Value} {rt:List (List Value)} {thn:List bF} {k:Int} {fs:List (List bF×Int)} (h:MH G H m v rows store outs trace) (j:Rows G 5 vt rt) (l:fE G rt thn) (s:Fit G vt) (n:gC (RJ G) rows fs) (t:rows.length≤2^40) (b:thn.length≤2^30):
 Ca E O 105 [.pointer (some ⟨m,0,none⟩),vt,.int .i64 k] H (fun x H'=>∃d f p,jr G H m v H' {v with vf:=d} f store outs trace∧gC (RJ G) f p∧nq p=bO thn k++nq fs∧f.length≤rows.length+1):=by
 obtain ⟨a,c,i⟩:=j.len;rw [l.length]at i;subst i;refine (OU h.wf h.get h.n0 h.fr h.d1.1 t).mono ?_;rintro x H' ⟨d,g,o,M,kk⟩;have A:=jr.fr h M g o kk;by_cases e:thn.length=0
 ·have r:thn=[]:=avO e
  rw [if_pos e]at A;exact ⟨d,rows,fs,A,n,by rw [r];rfl,by omega⟩
 ·rw [if_neg e]at A
  exact ⟨d,_,fs++[(thn,k)],A,n.snoc ⟨_,rt,rfl,j,l,s,fun q=>e (by simp at q;rw [q];rfl),b⟩,by rw [ko],by simp⟩
theorem th {how n:Int} (h:MH G H m v rows store outs trace):
 Ca E O 107 [.pointer (some ⟨m,0,none⟩),.int .i64 how,.int .i64 n] H (fun x H'=>x= .bool false∧jr G H m v H' {v with en:=how,wh:=n,ended:=true} rows store outs trace):=by
 refine Ca.aR (F:=a107) rfl rfl rfl ?_;obtain ⟨j,e,b,_,_⟩:=h.cell (v':={v with ended:=true}) 13 (.bool true) (by omega) rfl rfl rfl rfl rfl;obtain ⟨i,d,a,_,_⟩:=b.mh.cell (v':={v with ended:=true,en:=how}) 6 (.int .i64 how) (by omega) rfl rfl rfl rfl rfl;obtain ⟨g,c,f,_,_⟩:=a.mh.cell (v':={v with ended:=true,en:=how,wh:=n}) 12 (.int .i64 n) (by omega) rfl rfl rfl rfl rfl;simp (maxSteps:=9^7)-implicitDefEqProofs+contextual [-X.ev,a107,e,d,c];exact b.trans (a.trans f)
end
def Mt (v:MV) (c:dY):Prop:=v.en=c.en∧v.cost=c.cost∧v.used=(c.used:Int)∧v.wh=c.wh∧v.fuel=c.fuel∧v.ended=c.over
def Sm (v v':MV):Prop:=v'.w=v.w∧v'.vv=v.vv∧v'.vp=v.vp∧v'.vb=v.vb
structure Mr (G H:AH) (m:Nat) (p:aU) (ps:List Int) (v:MV) (c:dY) (dB:List (List Value)) (e7:List (List bF×Int)) (vl:Value) (cs:List Value) (rs:List (List Value)) (k:Int) (s:bF) (l:List bF):Prop where
 mh:MH G H m v (dB++[[vl,.int .i64 k]]) c.store c.outs c.trace
 hr:Rows G 5 vl (cs::rs)
 hf:Fit G vl
 hs:Bf G cs s
 hl:fE G rs l
 h0:gC (RJ G) dB e7
 w:v.w=p.w
 vars:dI G v.vv p.vars
 cap:JM v.vv
 bN:fC G v.vp ps
 head:aC p.w p.vars=true
 store:bq p.w p.vars c.store=true
 mt:Mt v c
 ov:c.over=false
 row:fu p.w p.vars s=true
 b1:dB.length≤2^30
 b2:0≤k∧k≤2^30
 b3:bA s≤2^20
 b4:l.length+1≤2^30
 b5:c.trace.length≤2^31
 b6:c.outs.length≤2^31
 b7:0≤c.cost∧c.cost≤2^50
 b8:c.used≤ps.length∧ps.length≤2^20
structure Did (G H:AH) (m:Nat) (p:aU) (ps:List Int) (v:MV) (H':AH) (n:Nat) (c':dY):Prop where
 is:∃v' dP,jr G H m v H' v' dP c'.store c'.outs c'.trace∧(c'.over=false→∃sx,gC (RJ G) dP sx∧c'.todo=nq sx)∧dP.length≤n+2∧Mt v' c'∧Sm v v'
def bY (p:aU) (c:dY) (s:bF) (next:List kJ):dY:={c with todo:=next,cost:=c.cost+aw s.args,trace:=c.trace++eN p.w p.vars [c.store] s.args}
abbrev cK (l:List bF) (k:Int) (s:bF) (e7:List (List bF×Int)):List kJ:=bO l (k+bg s)++nq e7
section
variable{G H:AH} {m:Nat} {p:aU} {ps:List Int} {v:MV} {c:dY} {dB rs:List (List Value)} {e7:List (List bF×Int)} {vl:Value} {cs:List Value} {k:Int} {s:bF} {l:List bF}
theorem gj {w:Int} {V:List Vr} {op n:Int} {args:List ch} {thn els:List bF} (h:fu w V (.mk op n args thn els)=true):
 (∀e∈args,dq w V 1 e=true∧aA e≤400)∧gU w V thn=true∧gU w V els=true∧
   ((op=0∧(0≤n∧n<V.length)∧((¬ 1<aq V n∧∃a,args=[a])∨(1<aq V n∧∃a b,args=[a,b])))∨(op=1∧∃a,args=[a])∨(op=2∧∃a,args=[a])∨(op=3∧∃a,args=[a])∨
    (op=4∧(0≤n∧n<V.length)∧((¬ 1<aq V n∧args=[])∨(1<aq V n∧∃a,args=[a])))∨((op=5∨op=6)∧∃a,args=[a])):=by
 rw [fu,avj,avj,avj,avw]at h;obtain ⟨d,h2,x,u⟩:=h;refine ⟨fun e t=>?_,h2,x,?_⟩
 · have:=u e t
   simp only [iH,avj,avs]at this;exact ⟨this.2.2,this.1⟩
 unfold cD at d;by_cases r:op=0
 · rw [if_pos r]at d
   simp only [mZ,avj,avs]at d;refine .inl ⟨r,⟨d.2.1,d.2.2.1⟩,?_⟩;by_cases f:1<aq V n
   · have:=d.2.2.2;rw [if_pos f]at this
     exact .inr ⟨f,Rr (by omega)⟩
   · have:=d.2.2.2;rw [if_neg f]at this
     exact .inl ⟨f,avW.1 (by omega)⟩
 rw [if_neg r]at d;by_cases q:op=1
 · rw [if_pos q]at d;simp only [avj,avs]at d
   exact .inr (.inl ⟨q,avW.1 (by omega)⟩)
 rw [if_neg q]at d;by_cases o:op=2
 · rw [if_pos o]at d;simp only [avj,avs]at d
   exact .inr (.inr (.inl ⟨o,avW.1 (by omega)⟩))
 rw [if_neg o]at d;by_cases j:op=3
 · rw [if_pos j]at d;simp only [avj,avs]at d
   exact .inr (.inr (.inr (.inl ⟨j,avW.1 (by omega)⟩)))
 rw [if_neg j]at d;by_cases i:op=4
 · rw [if_pos i]at d
   simp only [mZ,avj,avs]at d;refine .inr (.inr (.inr (.inr (.inl ⟨i,⟨d.2.1,d.2.2.1⟩,?_⟩))));by_cases f:1<aq V n
   · have:=d.2.2.2;rw [if_pos f]at this
     exact .inr ⟨f,avW.1 (by omega)⟩
   · have:=d.2.2.2;rw [if_neg f]at this
     exact .inl ⟨f,avO (by omega)⟩
 rw [if_neg i]at d;by_cases g:op=5∨op=6
 · rw [if_pos g]at d;simp only [avj,avs]at d
   exact .inr (.inr (.inr (.inr (.inr ⟨g,avW.1 (by omega)⟩))))
 rw [if_neg g]at d;cases d
def JV (how:Int):AF:=⟨3,21,[.tmp 6],.seq (.bC [o 4 (.box (.t 1)),o 6 (.mv (.k (.bool false)))]) (.seq (.seq (.bC [o 7 (.mv (.t 0)),o 8 (.fa 2 (.t 4)),o 9 (.ld (.t 8)),o 10 (.ia 4 (.t 9) (.k (.int .i64 0))),o 11 (.ldn 4 (.t 10)),o 12 (.call 142 [.t 7,.t 11]),o 13 (.bin .eql (.t 12) (.k (.int .i64 0)))]) (.cond (.t 13) (.seq (.bC [o 14 (.mv (.t 0)),o 15 (.mv (.t 2)),o 16 (.call 107 [.t 14,.k (.int .i64 how),.t 15]),o 6 (.mv (.t 16))]) .ret) .skip)) (.seq (.bC [o 17 (.mv (.t 0)),o 18 (.bB (.t 17)),o 19 (.fa 0 (.t 18)),o 20 (.call 143 [.t 19])]) (.seq (.bC [o 6 (.mv (.k (.bool true)))]) .ret)))⟩
def me (G H:AH) (f:Nat) (m:Nat) (p:aU) (ps:List Int) (v:MV) (c:dY) (n:Nat) (e7:List (List bF×Int)) (cs:List Value) (k:Int) (s:bF) (l:List bF):Prop:=
 ∀c',c'=cN p ps (bY p c s (cK l k s e7)) k s (bV p.w p.vars [c.store] s.args) (cK l k s e7)→
  Ca E O f [.pointer (some ⟨m,0,none⟩),.agg cs.toArray,.int .i64 k] H (fun x H'=>x= .bool (!c'.over)∧Did G H m p ps v H' n c')
theorem zX {f:Nat} {op n how:Int} {args:List ch} {thn els:List bF} (W:O f=none) (he:E f=some (JV how)) (V:(op=5∧how=1)∨(op=6∧how=2)) (h:Mr G H m p ps v c dB e7 vl cs rs k (.mk op n args thn els) l):
 me G H f m p ps v c dB.length e7 cs k (.mk op n args thn els) l:=by
 intro c' D;obtain ⟨aH,_,_,U⟩:=gj h.row
 obtain ⟨y,rfl⟩:∃y,args=[y]:=by
  rcases U with⟨q,_⟩|⟨q,_⟩|⟨q,_⟩|⟨q,_⟩|⟨q,_⟩|⟨_,q⟩
  ·omega
  ·omega
  ·omega
  ·omega
  ·omega
  ·exact q
 obtain ⟨Z,UN⟩:=aH y (by simp);have e0:eu (bV p.w p.vars [c.store] [y]) 0=a6 p.w p.vars [c.store] y:=rfl
 have b:c'=if a6 p.w p.vars [c.store] y=0 then dZ (bY p c (.mk op n [y] thn els) (cK l k (.mk op n [y] thn els) e7)) how k else bY p c (.mk op n [y] thn els) (cK l k (.mk op n [y] thn els) e7):=by
  rw [D,cN];rcases V with⟨rfl,rfl⟩|⟨rfl,rfl⟩
  ·rw [if_neg (by omega),if_neg (by omega),if_neg (by omega),if_neg (by omega),if_neg (by omega),if_pos rfl];rfl
  ·rw [if_neg (by omega),if_neg (by omega),if_neg (by omega),if_neg (by omega),if_neg (by omega),if_neg (by omega)];rfl
 clear D;obtain ⟨Q,B,z,P,u,N⟩:=h.mt;have jU:=h.hs
 cases jU with| @mk _ _ va vt ve ra rt re _ _ _ i1 i2 i3 i4 i5 g1 g2 g3 g4 g5 g6 g7 g8=>
 refine Ca.aR (F:=JV how) W he rfl ?_;have a:=h.mh.wf;have e:=Ext.alloc H (.cells 5 [.int .i64 op,.int .i64 n,va,vt,ve]);have d0:(H.alloc (.cells 5 [.int .i64 op,.int .i64 n,va,vt,ve])).ld ⟨H.nx,0,none⟩=some (.int .i64 op):=ak a rfl;have d1:(H.alloc (.cells 5 [.int .i64 op,.int .i64 n,va,vt,ve])).ld ⟨H.nx,1,none⟩=some (.int .i64 n):=ak a rfl;have K:(H.alloc (.cells 5 [.int .i64 op,.int .i64 n,va,vt,ve])).ld ⟨H.nx,2,none⟩=some va:=ak a rfl;have d3:(H.alloc (.cells 5 [.int .i64 op,.int .i64 n,va,vt,ve])).ld ⟨H.nx,3,none⟩=some vt:=ak a rfl;have d4:(H.alloc (.cells 5 [.int .i64 op,.int .i64 n,va,vt,ve])).ld ⟨H.nx,4,none⟩=some ve:=ak a rfl;have d:(H.alloc (.cells 5 [.int .i64 op,.int .i64 n,va,vt,ve])).ldn ⟨H.nx,0,none⟩ 5=some [.int .i64 op,.int .i64 n,va,vt,ve]:=bo a 5 rfl;generalize cM:H.alloc (.cells 5 [.int .i64 op,.int .i64 n,va,vt,ve])=H1 at e d0 d1 K d3 d4 d;have bT:=e.wf a;have I:=h.mh.ext e;obtain ⟨b4,o4,c4,vy,r,S,Y,T,ll⟩:=gY.row g1 g2 (i:=0) (y:=y) rfl;have o:=I.sub.ldn Y;simp only [Nat.zero_mul,Nat.add_zero]at o;rw [←T]at o;have J:=K;rw [S]at J;have b7:=h.b7;have b5:=h.b5;have j:=h.w;have C:=h.w.symm;have key:=lJ I (by rw [j];exact h.head) (by rw [j];exact h.store) h.vars h.cap ll (by rw [j];exact Z) (by omega) (by rw [B];omega);have A1:=jr.nm h.mh e;have ev:eN p.w p.vars [c.store] [y]=mF p.w p.vars [c.store] y:=by simp [eN]
 have nl:aw [y]=aA y:=by simp [aw]
 simp (maxSteps:=9^7)-implicitDefEqProofs+contextual [-X.ev,JV,cM,J,o];apply ah
 ·(simp-implicitDefEqProofs [-X.ev];rfl)
 refine (key).mono ?_;rintro x H2 ⟨rfl,p9,h2,M2,R⟩;have g:=A1.trans (jr.tr (v:=v) h2 M2 R);rw [C]at b;have M:v.cost+aA y=(bY p c (.mk op n [y] thn els) (cK l k (.mk op n [y] thn els) e7)).cost:=by rw [B,bY];show _=c.cost+aw [y];rw [nl]
 have L:c.trace++mF v.w p.vars [c.store] y=(bY p c (.mk op n [y] thn els) (cK l k (.mk op n [y] thn els) e7)).trace:=by rw [bY];show _=c.trace++eN p.w p.vars [c.store] [y];rw [ev,C]
 by_cases q:a6 v.w p.vars [c.store] y=0
 ·rw [if_pos q]at b
  subst b;simp (maxSteps:=9^7)-implicitDefEqProofs+contextual [-X.ev,q];apply ah
  ·(simp-implicitDefEqProofs [-X.ev];rfl)
  refine (th (how:=how) (n:=k) g.mh).mono ?_;rintro x H3 ⟨rfl,t⟩;simp (maxSteps:=9^7)-implicitDefEqProofs+contextual [-X.ev,dZ];have A:=g.trans t;rw [M,L]at A;exact ⟨_,_,A,fun q=>by simp at q,by simp,⟨rfl,rfl,z,rfl,u,rfl⟩,rfl,rfl,rfl,rfl⟩
 ·rw [if_neg q]at b
  subst b;simp (maxSteps:=9^7)-implicitDefEqProofs+contextual [-X.ev,q];apply ah
  ·(simp-implicitDefEqProofs [-X.ev];rfl)
  refine (js g.mh h.hr h.hf h.hs h.hl h.h0 (by have:=h.b1;omega) (by have:=h.b3;omega) (by have:=h.b4;omega) (by have:=h.b2;omega)).mono ?_;rintro x H3 ⟨pd,dP,sx,t,ha,gF,xu⟩;have A:=g.trans t;rw [M,L]at A;simp (maxSteps:=9^7)-implicitDefEqProofs+contextual [-X.ev,bY,h.ov];exact ⟨_,_,A,fun _=>⟨sx,ha,gF.symm⟩,by omega,⟨Q,rfl,z,P,u,N.trans h.ov⟩,rfl,rfl,rfl,rfl⟩
end
end
section
open Go
section
variable{G H:AH} {m:Nat} {p:aU} {ps:List Int} {v:MV} {c:dY} {dB rs:List (List Value)} {e7:List (List bF×Int)} {vl:Value} {cs:List Value} {k:Int} {s:bF} {l:List bF}
theorem jr.ou {H':AH} {rows:List (List Value)} {store:List Int} {outs a:List (Int×Int)} {trace:List Ev} {vo:Value} (h:MH G H m v rows store outs trace) (M:Mod (fun b=>b=m∨aX v.vo b) H H') (f:MH G H' m {v with vo:=vo} rows store a trace) (d:∀b,aX vo b→aX v.vo b∨H.nx≤b):jr G H m v H' {v with vo:=vo} rows store a trace where
 mh:=f
 mod:=M.mono fun b _ q=>q.elim .inl fun q=>.inr (.inr (.inr (.inl q)))
 new:=fun b e=>by
  rcases e with q|q|q|q|q
  ·exact .inl (.inl q)
  ·exact .inl (.inr (.inl q))
  ·exact .inl (.inr (.inr (.inl q)))
  ·exact (d b q).imp (fun q=>.inr (.inr (.inr (.inl q)))) id
  ·exact .inl (.inr (.inr (.inr (.inr q))))
theorem JW {n:Int} {args:List ch} {thn els:List bF} (h:Mr G H m p ps v c dB e7 vl cs rs k (.mk 5 n args thn els) l):
 me G H 113 m p ps v c dB.length e7 cs k (.mk 5 n args thn els) l:=zX (how:=1) rfl rfl (.inl ⟨rfl,rfl⟩) h
theorem JX {n:Int} {args:List ch} {thn els:List bF} (h:Mr G H m p ps v c dB e7 vl cs rs k (.mk 6 n args thn els) l):
 me G H 114 m p ps v c dB.length e7 cs k (.mk 6 n args thn els) l:=zX (how:=2) rfl rfl (.inr ⟨rfl,rfl⟩) h
theorem UO {w:Int} {V:List Vr} {op n:Int} {args:List ch} {thn els:List bF} (h:fu w V (.mk op n args thn els)=true) (d:op=1∨op=2∨op=3):∃y,args=[y]∧dq w V 1 y=true∧aA y≤400:=by
 obtain ⟨b,_,_,a⟩:=gj h
 obtain ⟨y,rfl⟩:∃y,args=[y]:=by
  rcases a with⟨q,_⟩|⟨_,q⟩|⟨_,q⟩|⟨_,q⟩|⟨q,_⟩|⟨q,_⟩
  ·omega
  ·exact q
  ·exact q
  ·exact q
  ·omega
  ·omega
 exact ⟨y,rfl,b y (by simp)⟩
theorem Gl {n:Int} {args:List ch} {thn els:List bF} (h:Mr G H m p ps v c dB e7 vl cs rs k (.mk 1 n args thn els) l):
 me G H 109 m p ps v c dB.length e7 cs k (.mk 1 n args thn els) l:=by
 intro c' mG;obtain ⟨y,rfl,xQ,UN⟩:=UO h.row (by omega)
 have r:c'={bY p c (.mk 1 n [y] thn els) (cK l k (.mk 1 n [y] thn els) e7)with trace:=(bY p c (.mk 1 n [y] thn els) (cK l k (.mk 1 n [y] thn els) e7)).trace++[⟨0,k,if a6 p.w p.vars [c.store] y=0 then 0 else 1⟩],todo:=(if a6 p.w p.vars [c.store] y=0 then bO els (k+1+ar thn)else bO thn (k+1))++cK l k (.mk 1 n [y] thn els) e7}:=by
  rw [mG,cN,if_neg (by omega),if_pos rfl];rfl
 clear mG;obtain ⟨Z,Y,W,V,U,T⟩:=h.mt;have jU:=h.hs
 cases jU with| @mk _ _ va vt ve ra rt re _ _ _ i1 i2 i3 i4 i5 g1 g2 g3 g4 g5 g6 g7 g8=>
 refine Ca.aR (F:=a109) rfl rfl rfl ?_;have i:=h.mh.wf;have z:=Ext.alloc H (.cells 5 [.int .i64 1,.int .i64 n,va,vt,ve]);have d0:(H.alloc (.cells 5 [.int .i64 1,.int .i64 n,va,vt,ve])).ld ⟨H.nx,0,none⟩=some (.int .i64 1):=ak i rfl;have d1:(H.alloc (.cells 5 [.int .i64 1,.int .i64 n,va,vt,ve])).ld ⟨H.nx,1,none⟩=some (.int .i64 n):=ak i rfl;have d2:(H.alloc (.cells 5 [.int .i64 1,.int .i64 n,va,vt,ve])).ld ⟨H.nx,2,none⟩=some va:=ak i rfl;have d3:(H.alloc (.cells 5 [.int .i64 1,.int .i64 n,va,vt,ve])).ld ⟨H.nx,3,none⟩=some vt:=ak i rfl;have d4:(H.alloc (.cells 5 [.int .i64 1,.int .i64 n,va,vt,ve])).ld ⟨H.nx,4,none⟩=some ve:=ak i rfl;have d:(H.alloc (.cells 5 [.int .i64 1,.int .i64 n,va,vt,ve])).ldn ⟨H.nx,0,none⟩ 5=some [.int .i64 1,.int .i64 n,va,vt,ve]:=bo i 5 rfl;generalize cM:H.alloc (.cells 5 [.int .i64 1,.int .i64 n,va,vt,ve])=H1 at z d0 d1 d2 d3 d4 d;have bT:=z.wf i;have h1:=h.mh.ext z;have b7:=h.b7;have b5:=h.b5;have b1:=h.b1;have b2:=h.b2;have b3:=h.b3;rw [bA]at b3;have b4:=h.b4;have pa:=bf [y];have bt:=aK thn;have lt1:=fU thn;have q9:=fU els;have be:=aK els;have E:=h.w;have pB:=h.w.symm;have key:=uL (op:=1) (n:=n) (vt:=vt) (ve:=ve) (k:=k) h1 (by rw [E];exact h.head) (by rw [E];exact h.store) h.vars h.cap g1 g2 (y:=y) rfl (by rw [E];exact xQ) (by omega) (by rw [Y];omega);have A1:=jr.nm h.mh z;have ev:eN p.w p.vars [c.store] [y]=mF p.w p.vars [c.store] y:=by simp [eN]
 have nl:aw [y]=aA y:=by simp [aw]
 rw [pB]at r;have cc:v.cost+aA y=(bY p c (.mk 1 n [y] thn els) (cK l k (.mk 1 n [y] thn els) e7)).cost:=by rw [Y,bY];show _=c.cost+aw [y];rw [nl]
 have ct:c.trace++mF v.w p.vars [c.store] y=(bY p c (.mk 1 n [y] thn els) (cK l k (.mk 1 n [y] thn els) e7)).trace:=by rw [bY];show _=c.trace++eN p.w p.vars [c.store] [y];rw [ev,pB]
 rw [cc,ct]at key;simp (maxSteps:=9^7)-implicitDefEqProofs+contextual [-X.ev,a109,cM,d];apply ah
 ·(simp-implicitDefEqProofs [-X.ev];rfl)
 refine (key).mono ?_;rintro x H2 ⟨rfl,p9,S⟩;have dd:=S.mod.ldn (a:=⟨H.nx,0,none⟩) (fun q=>by have:=h.mh.lt q;simp at this) d;simp (maxSteps:=9^7)-implicitDefEqProofs+contextual [-X.ev];apply ah
 ·(simp-implicitDefEqProofs [-X.ev];rfl)
 refine (js S.mh h.hr h.hf h.hs h.hl h.h0 (by omega) (by rw [bA];omega) (by omega) (by omega)).mono ?_;rintro x H3 ⟨pd,dP,sx,o,ha,gF,xu⟩;have b:=S.trans o;have t:=b.mod.ldn (a:=⟨H.nx,0,none⟩) (fun q=>by have:=h.mh.lt q;simp at this) d;have O:=aQ t (j:=3) rfl;have N:=aQ t (j:=4) rfl;by_cases q:a6 v.w p.vars [c.store] y=0
 ·rw [if_pos q,if_pos q]at r
  have B:IntKind.i64.wrap (k+1)=k+1:=ai ⟨by omega,by omega⟩;have e3n:=bh.1 O;have W7:=bh.1 N;simp only [q,if_true]at o b;have K:=o.mh;simp (maxSteps:=9^7)-implicitDefEqProofs+contextual [-X.ev,q,B,O,N];apply ah
  ·(simp-implicitDefEqProofs [-X.ev];rfl)
  refine (Gk K.wf (g3.sub K.sub) (je.sub K.sub g4.Z3) (by omega) (by omega)).mono ?_;rintro x H4 ⟨rfl,u⟩;have f:=u.nx;have g:=u.n0;have M:=u.ldn W7;have D:dK ve ve=true:=by obtain ⟨a,c,e⟩:=g6.len;rw [e];simp
  have w2:IntKind.i64.wrap (k+1+ar thn)=k+1+ar thn:=ai ⟨by omega,by omega⟩;have R:=o.ext u;simp (maxSteps:=9^7)-implicitDefEqProofs+contextual [-X.ev,w2];apply ah
  ·(simp-implicitDefEqProofs [-X.ev];rfl)
  refine (qD (k:=k+1+ar thn) R.mh g6 g7 g8 ha (by omega) (by omega)).mono ?_;rintro x H5 ⟨C,JY,L,P,J,I,UQ⟩;have A:=A1.trans ((b.ext u).trans P);have RB:=P.mod.nx;have Mq:=P.mod.n0;simp (maxSteps:=9^7)-implicitDefEqProofs+contextual [-X.ev,bu,aM,aN,f,g,RB,Mq,W7,M,D];subst r;refine ⟨?_,_,_,A,fun _=>⟨L,J,?_⟩,by omega,⟨Z,rfl,W,V,U,T⟩,rfl,rfl,rfl,rfl⟩
  ·exact h.ov
  ·rw [I,gF]
 ·rw [if_neg q,if_neg q]at r
  have B:IntKind.i64.wrap (k+1)=k+1:=ai ⟨by omega,by omega⟩;simp only [q,if_false]at o b;simp (maxSteps:=9^7)-implicitDefEqProofs+contextual [-X.ev,q,B,O,N];apply ah
  ·(simp-implicitDefEqProofs [-X.ev];rfl)
  refine (qD (k:=k+1) o.mh g3 g4 g5 ha (by omega) (by omega)).mono ?_;rintro x H4 ⟨C,JY,L,Q,J,I,UQ⟩;have A:=A1.trans (b.trans Q);have g:=Q.mod.n0;have f:=Q.mod.nx;simp (maxSteps:=9^7)-implicitDefEqProofs+contextual [-X.ev,bu,aM,aN,g,f];subst r;refine ⟨?_,_,_,A,fun _=>⟨L,J,?_⟩,by omega,⟨Z,rfl,W,V,U,T⟩,rfl,rfl,rfl,rfl⟩
  ·exact h.ov
  ·rw [I,gF]
theorem OY {n:Int} {args:List ch} {thn els:List bF} (h:Mr G H m p ps v c dB e7 vl cs rs k (.mk 2 n args thn els) l):
 me G H 110 m p ps v c dB.length e7 cs k (.mk 2 n args thn els) l:=by
 intro c' J;obtain ⟨y,rfl,P,UN⟩:=UO h.row (by omega)
 have f:c'={bY p c (.mk 2 n [y] thn els) (cK l k (.mk 2 n [y] thn els) e7)with trace:=(bY p c (.mk 2 n [y] thn els) (cK l k (.mk 2 n [y] thn els) e7)).trace++[⟨0,k,if a6 p.w p.vars [c.store] y=0 then 0 else 1⟩],todo:=if a6 p.w p.vars [c.store] y=0 then cK l k (.mk 2 n [y] thn els) e7 else bO thn (k+1)++(k,.mk 2 n [y] thn els)::cK l k (.mk 2 n [y] thn els) e7}:=by
  rw [J,cN,if_neg (by omega),if_neg (by omega),if_pos rfl];rfl
 clear J;obtain ⟨E,D,C,B,z,u⟩:=h.mt;have T:=h.hs
 cases T with| @mk _ _ va vt ve ra rt re _ _ _ i1 i2 i3 i4 i5 g1 g2 g3 g4 Z g6 g7 g8=>
 refine Ca.aR (F:=Ns) rfl rfl rfl ?_;have b:=h.mh.wf;have g:=Ext.alloc H (.cells 5 [.int .i64 2,.int .i64 n,va,vt,ve]);have d0:(H.alloc (.cells 5 [.int .i64 2,.int .i64 n,va,vt,ve])).ld ⟨H.nx,0,none⟩=some (.int .i64 2):=ak b rfl;have d1:(H.alloc (.cells 5 [.int .i64 2,.int .i64 n,va,vt,ve])).ld ⟨H.nx,1,none⟩=some (.int .i64 n):=ak b rfl;have d2:(H.alloc (.cells 5 [.int .i64 2,.int .i64 n,va,vt,ve])).ld ⟨H.nx,2,none⟩=some va:=ak b rfl;have d3:(H.alloc (.cells 5 [.int .i64 2,.int .i64 n,va,vt,ve])).ld ⟨H.nx,3,none⟩=some vt:=ak b rfl;have d4:(H.alloc (.cells 5 [.int .i64 2,.int .i64 n,va,vt,ve])).ld ⟨H.nx,4,none⟩=some ve:=ak b rfl;have d:(H.alloc (.cells 5 [.int .i64 2,.int .i64 n,va,vt,ve])).ldn ⟨H.nx,0,none⟩ 5=some [.int .i64 2,.int .i64 n,va,vt,ve]:=bo b 5 rfl;generalize W:H.alloc (.cells 5 [.int .i64 2,.int .i64 n,va,vt,ve])=H1 at g d0 d1 d2 d3 d4 d;have bT:=g.wf b;have Y:=h.mh.ext g;have b7:=h.b7;have b5:=h.b5;have b1:=h.b1;have b2:=h.b2;have b3:=h.b3;rw [bA]at b3;have b4:=h.b4;have pa:=bf [y];have bt:=aK thn;have N:=fU thn;have q9:=fU els;have be:=aK els;have r:=h.w;have I:=h.w.symm;have key:=uL (op:=2) (n:=n) (vt:=vt) (ve:=ve) (k:=k) Y (by rw [r];exact h.head) (by rw [r];exact h.store) h.vars h.cap g1 g2 (y:=y) rfl (by rw [r];exact P) (by omega) (by rw [D];omega);have K:=jr.nm h.mh g;have ev:eN p.w p.vars [c.store] [y]=mF p.w p.vars [c.store] y:=by simp [eN]
 have nl:aw [y]=aA y:=by simp [aw]
 rw [I]at f;have cc:v.cost+aA y=(bY p c (.mk 2 n [y] thn els) (cK l k (.mk 2 n [y] thn els) e7)).cost:=by rw [D,bY];show _=c.cost+aw [y];rw [nl]
 have ct:c.trace++mF v.w p.vars [c.store] y=(bY p c (.mk 2 n [y] thn els) (cK l k (.mk 2 n [y] thn els) e7)).trace:=by rw [bY];show _=c.trace++eN p.w p.vars [c.store] [y];rw [ev,I]
 rw [cc,ct]at key;simp (maxSteps:=9^7)-implicitDefEqProofs+contextual [-X.ev,Ns,W,d];apply ah
 ·(simp-implicitDefEqProofs [-X.ev];rfl)
 refine (key).mono ?_;rintro x H2 ⟨rfl,p9,e⟩;have dd:=e.mod.ldn (a:=⟨H.nx,0,none⟩) (fun q=>by have:=h.mh.lt q;simp at this) d;have e3:=aQ dd (j:=3) rfl;by_cases q:a6 v.w p.vars [c.store] y=0
 ·rw [if_pos q,if_pos q]at f
  simp only [q,if_true]at e;simp (maxSteps:=9^7)-implicitDefEqProofs+contextual [-X.ev,q];apply ah
  ·(simp-implicitDefEqProofs [-X.ev];rfl)
  refine (js e.mh h.hr h.hf h.hs h.hl h.h0 (by omega) (by rw [bA];omega) (by omega) (by omega)).mono ?_;rintro x H3 ⟨pd,dP,sx,A3,V,S,xu⟩;have A:=K.trans (e.trans A3);simp (maxSteps:=9^7)-implicitDefEqProofs+contextual [-X.ev];subst f;refine ⟨?_,_,_,A,fun _=>⟨sx,V,?_⟩,by omega,⟨E,rfl,C,B,z,u⟩,rfl,rfl,rfl,rfl⟩
  ·exact h.ov
  ·exact S.symm
 ·rw [if_neg q,if_neg q]at f
  have L:IntKind.i64.wrap (k+1)=k+1:=ai ⟨by omega,by omega⟩;simp only [q,if_false]at e;have Q:gC (RJ G) (dB++[[vl,.int .i64 k]]) (e7++[(.mk 2 n [y] thn els::l,k)]):=h.h0.snoc ⟨vl,_,rfl,h.hr,.cons h.hs h.hl,h.hf,by simp,by simpa using b4⟩;simp (maxSteps:=9^7)-implicitDefEqProofs+contextual [-X.ev,q,L,e3];apply ah
  ·(simp-implicitDefEqProofs [-X.ev];rfl)
  refine (qD (k:=k+1) e.mh g3 g4 Z Q (by simp;omega) (by omega)).mono ?_;rintro x H4 ⟨M,JY,JZ,t,U,R,O⟩;have A:=K.trans (e.trans t);have o:=t.mod.n0;have i:=t.mod.nx;simp (maxSteps:=9^7)-implicitDefEqProofs+contextual [-X.ev,bu,aM,aN,o,i];subst f;simp at O;refine ⟨?_,_,_,A,fun _=>⟨JZ,U,?_⟩,by omega,⟨E,rfl,C,B,z,u⟩,rfl,rfl,rfl,rfl⟩
  ·exact h.ov
  ·rw [R,ko,mc];simp
theorem OZ {n:Int} {args:List ch} {thn els:List bF} (h:Mr G H m p ps v c dB e7 vl cs rs k (.mk 3 n args thn els) l):
 me G H 111 m p ps v c dB.length e7 cs k (.mk 3 n args thn els) l:=by
 intro c' mG;obtain ⟨y,rfl,xQ,UN⟩:=UO h.row (by omega)
 have gk:c'={bY p c (.mk 3 n [y] thn els) (cK l k (.mk 3 n [y] thn els) e7)with outs:=c.outs++[(n,a6 p.w p.vars [c.store] y)]}:=by
  rw [mG,cN,if_neg (by omega),if_neg (by omega),if_neg (by omega),if_pos rfl];rfl
 clear mG;obtain ⟨m1,m2,m3,m4,m5,m6⟩:=h.mt;have jU:=h.hs
 cases jU with| @mk _ _ va vt ve ra rt re _ _ _ i1 i2 i3 i4 i5 g1 g2 g3 g4 g5 g6 g7 g8=>
 refine Ca.aR (F:=Nt) rfl rfl rfl ?_;have e:=h.mh.wf;have t:=Ext.alloc H (.cells 5 [.int .i64 3,.int .i64 n,va,vt,ve]);have d0:(H.alloc (.cells 5 [.int .i64 3,.int .i64 n,va,vt,ve])).ld ⟨H.nx,0,none⟩=some (.int .i64 3):=ak e rfl;have V:(H.alloc (.cells 5 [.int .i64 3,.int .i64 n,va,vt,ve])).ld ⟨H.nx,1,none⟩=some (.int .i64 n):=ak e rfl;have d2:(H.alloc (.cells 5 [.int .i64 3,.int .i64 n,va,vt,ve])).ld ⟨H.nx,2,none⟩=some va:=ak e rfl;have d3:(H.alloc (.cells 5 [.int .i64 3,.int .i64 n,va,vt,ve])).ld ⟨H.nx,3,none⟩=some vt:=ak e rfl;have d4:(H.alloc (.cells 5 [.int .i64 3,.int .i64 n,va,vt,ve])).ld ⟨H.nx,4,none⟩=some ve:=ak e rfl;have d:(H.alloc (.cells 5 [.int .i64 3,.int .i64 n,va,vt,ve])).ldn ⟨H.nx,0,none⟩ 5=some [.int .i64 3,.int .i64 n,va,vt,ve]:=bo e 5 rfl;generalize cM:H.alloc (.cells 5 [.int .i64 3,.int .i64 n,va,vt,ve])=H1 at t d0 V d2 d3 d4 d;have bT:=t.wf e;have o:=h.mh.ext t;have b7:=h.b7;have b5:=h.b5;have b6:=h.b6;have b1:=h.b1;have b2:=h.b2;have b3:=h.b3;have b4:=h.b4;have O:=h.w;have pB:=h.w.symm;obtain ⟨b4',o4,c4,vy,r,gT,bM,yR,ll⟩:=gY.row g1 g2 (i:=0) (y:=y) rfl;have P:=o.sub.ldn bM;simp only [Nat.zero_mul,Nat.add_zero]at P;rw [←yR]at P;have FY:=d2;rw [gT]at FY;have key:=lJ o (by rw [O];exact h.head) (by rw [O];exact h.store) h.vars h.cap ll (by rw [O];exact xQ) (by omega) (by rw [m2];omega);have A1:=jr.nm h.mh t;have ev:eN p.w p.vars [c.store] [y]=mF p.w p.vars [c.store] y:=by simp [eN]
 have nl:aw [y]=aA y:=by simp [aw]
 rw [pB]at gk;have cc:v.cost+aA y=(bY p c (.mk 3 n [y] thn els) (cK l k (.mk 3 n [y] thn els) e7)).cost:=by rw [m2,bY];show _=c.cost+aw [y];rw [nl]
 have ct:c.trace++mF v.w p.vars [c.store] y=(bY p c (.mk 3 n [y] thn els) (cK l k (.mk 3 n [y] thn els) e7)).trace:=by rw [bY];show _=c.trace++eN p.w p.vars [c.store] [y];rw [ev,pB]
 rw [cc,ct]at key;have Y:=aL o.get o.n0 (k:=8) (v:=v.vo) rfl;obtain ⟨oa,oc,A7⟩:=h.mh.ou.shape;simp (maxSteps:=9^7)-implicitDefEqProofs+contextual [-X.ev,Nt,cM,V,FY,P,Y];apply ah
 ·(simp-implicitDefEqProofs [-X.ev];rfl)
 refine (key).mono ?_;rintro x B ⟨rfl,p9,h2,u,k2⟩;have A2:=A1.trans (jr.tr (v:=v) h2 u k2);have C:=u.nx;have D:=u.n0;have K:=aL h2.get h2.n0 (k:=8) (v:=v.vo) rfl;have I:=bh.1 Y;have J:=bh.1 K
 have dd:=u.ldn (a:=⟨H.nx,0,none⟩) (fun q=>by
  rcases q with q|q
  ·have:=h.mh.lt (.inl rfl);simp at q;omega
  ·have:=h.mh.tr.lt q;simp at this) d
 have U:=bh.1 V;have T:=bh.1 (aQ dd (j:=1) rfl);have Q:=sP (sz:=2) (z:=[.int .i64 0,.int .i64 0]) (H:=B) (v:=.agg #[.int .i64 n,.int .i64 (a6 v.w p.vars [c.store] y)]) rfl rfl rfl;simp only [gM]at Q;have X3:=Ext.alloc B (.cells 2 [.int .i64 n,.int .i64 (a6 v.w p.vars [c.store] y)])
 obtain ⟨H3,Mn⟩:∃H3,B.alloc (.cells 2 [.int .i64 n,.int .i64 (a6 v.w p.vars [c.store] y)])=H3:=⟨_,rfl⟩
 obtain ⟨s',H4,ha,f,M4,M,Z,Bb,wf4,nU,tg,L⟩:=iv (bytes:=16) h2.wf h2.ou (r:=[.int .i64 n,.int .i64 (a6 v.w p.vars [c.store] y)]) rfl Mn (by rw [km];omega) (by rw [km];omega);rw [Mn]at Q X3;obtain ⟨a,W,hs⟩:=f.shape;rw [avp,List.length_singleton,km]at hs;subst hs;have S:=M4.get h2.d1.2.2.1 h2.get;obtain ⟨H5,s5,M5,Ro,zK,R⟩:=cm S (by rw [Z];exact h2.n0) (k:=8) (vs:=[.slice a (c.outs.length+1) W]) (by simp)
 have o5:dU H5 2 (.slice a (c.outs.length+1) W) (dH (c.outs++[(n,a6 v.w p.vars [c.store] y)])):=by
  rw [uG];exact f.mod M5 fun b g q=>by have:=M b g;have:=h2.lt (.inl rfl);omega
 have Rp:Mod (fun b=>b=m∨aX v.vo b) B H5:=(M4.mono fun x _ N=>.inr N).trans (M5.mono fun x _ N=>.inl N);have h5:=h2.aaq (vo:=.slice a (c.outs.length+1) W) Rp R o5 (fun b g=>.inr (M b g));have A5:=jr.ou h2 Rp h5 (fun b g=>.inr (M b g));have E:dK v.vo v.vo=true:=by rw [A7];simp
 have vO:fD [.int .i64 0,.int .i64 0] [(0,1,.int .i64 n),(1,1,.int .i64 (a6 v.w p.vars [c.store] y))]=some (.agg #[.int .i64 n,.int .i64 (a6 v.w p.vars [c.store] y)]):=rfl;simp (maxSteps:=9^7)-implicitDefEqProofs+contextual [-X.ev,vO,Q,ha,s5,C,D,I,J,U,T,E,nU,Z,zK,tg,L,Ro,bu,aM,aN];apply ah
 ·(simp-implicitDefEqProofs [-X.ev];rfl)
 refine (js A5.mh h.hr h.hf h.hs h.hl h.h0 (by omega) (by omega) (by omega) (by omega)).mono ?_;rintro x H6 ⟨pd,dP,sx,A6,Us,gF,xu⟩;have A:=A2.trans (A5.trans A6);simp (maxSteps:=9^7)-implicitDefEqProofs+contextual [-X.ev];subst gk;refine ⟨?_,_,_,A,fun _=>⟨sx,Us,?_⟩,by omega,⟨m1,rfl,m3,m4,m5,m6⟩,rfl,rfl,rfl,rfl⟩
 ·exact h.ov
 ·exact gF.symm
end
end
section
open Go
section
variable{G H:AH} {m:Nat} {p:aU} {ps:List Int} {v:MV} {c:dY} {dB rs:List (List Value)} {e7:List (List bF×Int)} {vl:Value} {cs:List Value} {k:Int} {s:bF} {l:List bF}
theorem O0 {n:Int} {args:List ch} {thn els:List bF} (h:Mr G H m p ps v c dB e7 vl cs rs k (.mk 0 n args thn els) l):
 me G H 108 m p ps v c dB.length e7 cs k (.mk 0 n args thn els) l:=by
 intro c' mG;rw [cN,if_pos rfl]at mG;obtain ⟨O,_,_,Bh⟩:=gj h.row;obtain ⟨m1,C,m3,m4,m5,m6⟩:=h.mt;have jU:=h.hs
 cases jU with| @mk _ _ va vt ve ra rt re _ _ _ i1 i2 i3 i4 i5 g1 g2 g3 g4 g5 g6 g7 g8=>
 refine Ca.aR (F:=IT) rfl rfl rfl ?_;have g:=h.mh.wf;have Q:=Ext.alloc H (.cells 5 [.int .i64 0,.int .i64 n,va,vt,ve]);have d0:(H.alloc (.cells 5 [.int .i64 0,.int .i64 n,va,vt,ve])).ld ⟨H.nx,0,none⟩=some (.int .i64 0):=ak g rfl;have d1:(H.alloc (.cells 5 [.int .i64 0,.int .i64 n,va,vt,ve])).ld ⟨H.nx,1,none⟩=some (.int .i64 n):=ak g rfl;have d2:(H.alloc (.cells 5 [.int .i64 0,.int .i64 n,va,vt,ve])).ld ⟨H.nx,2,none⟩=some va:=ak g rfl;have d3:(H.alloc (.cells 5 [.int .i64 0,.int .i64 n,va,vt,ve])).ld ⟨H.nx,3,none⟩=some vt:=ak g rfl;have d4:(H.alloc (.cells 5 [.int .i64 0,.int .i64 n,va,vt,ve])).ld ⟨H.nx,4,none⟩=some ve:=ak g rfl;have d:(H.alloc (.cells 5 [.int .i64 0,.int .i64 n,va,vt,ve])).ldn ⟨H.nx,0,none⟩ 5=some [.int .i64 0,.int .i64 n,va,vt,ve]:=bo g 5 rfl;generalize cM:H.alloc (.cells 5 [.int .i64 0,.int .i64 n,va,vt,ve])=H1 at Q d0 d1 d2 d3 d4 d;have bT:=Q.wf g;have P:=h.mh.ext Q;have b7:=h.b7;have b5:=h.b5;have b6:=h.b6;have b1:=h.b1;have b2:=h.b2;have b3:=h.b3;have b4:=h.b4;have b8:=h.b8;have zY:=h.w;have B:=h.w.symm;have f:=h.head;have u:=h.store;rw [B]at f u;have A1:=jr.nm h.mh Q
 have eJ:1≤v.w∧v.w≤8:=⟨(aD f).1,(aD f).2.1⟩
 have hp:=fT eJ;have xL:Bd v.w p.vars [c.store]:=fun t ht=>by simp at ht;subst ht;exact u
 have out:∀b,(b=m∨aX v.vt b)→b≠H.nx:=fun b hb e=>by
  subst e;rcases hb with q|q
  ·have:=h.mh.lt (.inl q);omega
  ·have:=h.mh.tr.lt q;omega
 rw [B]at O;have nb:¬ Mf m v H.nx:=fun q=>by have:=h.mh.lt q;omega
 have w0:IntKind.i64.wrap 0=0:=rfl;have T:IntKind.i64.wrap 1=1:=rfl
 obtain ⟨N,gO⟩:(0≤n∧n<p.vars.length)∧((¬ 1<aq p.vars n∧∃a,args=[a])∨(1<aq p.vars n∧∃a b,args=[a,b])):=by
  rcases Bh with⟨_,q⟩|⟨q,_⟩|⟨q,_⟩|⟨q,_⟩|⟨q,_⟩|⟨q,_⟩
  ·exact q
  ·omega
  ·omega
  ·omega
  ·omega
  ·omega
 rcases gO with⟨I,y,rfl⟩|⟨I,z,y,rfl⟩
 ·obtain ⟨E,UN⟩:=O y (by simp)
  have Mm:=iw f xL y E;obtain ⟨b4',o4,c4,vy,r,gT,o,yR,ll⟩:=gY.row g1 g2 (i:=0) (y:=y) rfl;simp only [Nat.zero_mul,Nat.add_zero]at o;rw [←yR]at o;simp (maxSteps:=9^7)-implicitDefEqProofs+contextual [-X.ev,IT,cM,d];apply ah
  ·(simp-implicitDefEqProofs [-X.ev];rfl)
  refine (DW (op:=0) (n:=n) (va:=va) (vt:=vt) (ve:=ve) P h.vars N I).mono ?_;rintro x H2 ⟨rfl,X2⟩;have h2:=P.ext X2;have zx:=h2.sub.ldn o;have J:=aQ (X2.ldn d) (j:=2) rfl;rw [gT]at J;have R:=jr.nm P X2;have u2:=ek (w:=v.w) (V:=p.vars) (S:=[c.store]) y;simp (maxSteps:=9^7)-implicitDefEqProofs+contextual [-X.ev,J,zx,w0];apply ah
  ·(simp-implicitDefEqProofs [-X.ev];rfl)
  refine (lJ h2 f u h.vars h.cap ll E (by omega) (by rw [C];omega)).mono ?_;rintro x H3 ⟨rfl,p9,h3,M3,Z⟩;have L:=R.trans (jr.tr (v:=v) h3 M3 Z);simp (maxSteps:=9^7)-implicitDefEqProofs+contextual [-X.ev];apply ah
  ·(simp-implicitDefEqProofs [-X.ev];rfl)
  refine (js L.mh h.hr h.hf h.hs h.hl h.h0 (by omega) (by omega) (by omega) (by omega)).mono ?_;rintro x H4 ⟨pd,W,sx,M,ha,gF,xu⟩;have K:=L.trans M;have e1:=aQ (K.mod.ldn (a:=⟨H.nx,0,none⟩) nb d) (j:=1) rfl;simp (maxSteps:=9^7)-implicitDefEqProofs+contextual [-X.ev,e1];apply ah
  ·(simp-implicitDefEqProofs [-X.ev];rfl)
  refine (om (n:=n) (i:=0) (a:=a6 v.w p.vars [c.store] y) M.mh f u h.vars h.cap N (by omega) (by simp only [avp];omega)).mono ?_;rintro x H5 ⟨UR,h5,M5,Y⟩;have B5:=K.trans (jr.trW h5 M5 Y);have A:=A1.trans B5;simp (maxSteps:=9^7)-implicitDefEqProofs+contextual [-X.ev]
  have gk:c'=gh p.vars (bY p c (.mk 0 n [y] thn els) (cK l k (.mk 0 n [y] thn els) e7)) n 0 (a6 v.w p.vars [c.store] y):=by
   rw [mG,if_neg I];show gh _ _ _ _ (a6 p.w p.vars [c.store] y)=_;rw [B]
  subst gk;have eY:(gh p.vars (bY p c (.mk 0 n [y] thn els) (cK l k (.mk 0 n [y] thn els) e7)) n 0 (a6 v.w p.vars [c.store] y)).store=c.store.set (bl p.vars n+0%aq p.vars n).toNat (a6 v.w p.vars [c.store] y):=rfl
  have Bi:(gh p.vars (bY p c (.mk 0 n [y] thn els) (cK l k (.mk 0 n [y] thn els) e7)) n 0 (a6 v.w p.vars [c.store] y)).trace=c.trace++mF v.w p.vars [c.store] y++if 1<aq p.vars n then [⟨2,n,0%aq p.vars n⟩]else []:=by
   show c.trace++eN p.w p.vars [c.store] [y]++_=_;rw [B];simp [eN]
  rw [←eY,←Bi]at A;refine ⟨?_,_,W,A,fun _=>⟨sx,ha,gF.symm⟩,by omega,⟨m1,?_,m3,m4,m5,m6⟩,rfl,rfl,rfl,rfl⟩
  ·exact h.ov
  ·show v.cost+aA y=c.cost+aw [y]
   rw [C];simp [aw]
 ·obtain ⟨E,UN⟩:=O y (by simp)
  obtain ⟨D,hnz⟩:=O z (by simp);have Mm:=iw f xL y E;have hwz:=iw f xL z D;obtain ⟨b4',o4,c4,vy,r,gT,o,yR,ll⟩:=gY.row g1 g2 (i:=1) (y:=y) rfl;simp only [Nat.one_mul]at o;rw [←yR]at o;simp (maxSteps:=9^7)-implicitDefEqProofs+contextual [-X.ev,IT,cM,d];apply ah
  ·(simp-implicitDefEqProofs [-X.ev];rfl)
  refine (DX (op:=0) (n:=n) (va:=va) (vt:=vt) (ve:=ve) P f u h.vars h.cap N I g1 g2 (y:=z) rfl D (by omega) (by rw [C];omega)).mono ?_;rintro x H2 ⟨rfl,U,h2,M2,k2⟩;have zx:=h2.sub.ldn o;have R:=jr.tr (v:=v) h2 M2 k2;have J:=aQ (R.mod.ldn (a:=⟨H.nx,0,none⟩) nb d) (j:=2) rfl;rw [gT]at J;have u1:=ek (w:=v.w) (V:=p.vars) (S:=[c.store]) z;have u2:=ek (w:=v.w) (V:=p.vars) (S:=[c.store]) y;have pz:=eA z;simp (maxSteps:=9^7)-implicitDefEqProofs+contextual [-X.ev,J,zx,T];apply ah
  ·(simp-implicitDefEqProofs [-X.ev];rfl)
  refine (lJ h2 f u h.vars h.cap ll E (by rw [avp];omega) (by show 0≤v.cost+aA z∧v.cost+aA z+aA y≤2^60;rw [C];omega)).mono ?_;rintro x H3 ⟨rfl,p9,h3,M3,Z⟩;have L:=R.trans (jr.tr (v:={v with vt:=U,cost:=v.cost+aA z}) h3 M3 Z);simp (maxSteps:=9^7)-implicitDefEqProofs+contextual [-X.ev];apply ah
  ·(simp-implicitDefEqProofs [-X.ev];rfl)
  refine (js L.mh h.hr h.hf h.hs h.hl h.h0 (by omega) (by omega) (by omega) (by omega)).mono ?_;rintro x H4 ⟨pd,W,sx,M,ha,gF,xu⟩;have K:=L.trans M;have e1:=aQ (K.mod.ldn (a:=⟨H.nx,0,none⟩) nb d) (j:=1) rfl;simp (maxSteps:=9^7)-implicitDefEqProofs+contextual [-X.ev,e1];apply ah
  ·(simp-implicitDefEqProofs [-X.ev];rfl)
  refine (om (n:=n) (i:=(a6 v.w p.vars [c.store] z)) (a:=a6 v.w p.vars [c.store] y) M.mh f u h.vars h.cap N (by omega) (by simp only [avp];omega)).mono ?_;rintro x H5 ⟨UR,h5,M5,Y⟩;have B5:=K.trans (jr.trW h5 M5 Y);have A:=A1.trans B5;simp (maxSteps:=9^7)-implicitDefEqProofs+contextual [-X.ev]
  have gk:c'=gh p.vars (bY p c (.mk 0 n [z,y] thn els) (cK l k (.mk 0 n [z,y] thn els) e7)) n (a6 v.w p.vars [c.store] z) (a6 v.w p.vars [c.store] y):=by
   rw [mG,if_pos I];show gh _ _ _ _ (a6 p.w p.vars [c.store] y)=_;rw [B];rfl
  subst gk;have eY:(gh p.vars (bY p c (.mk 0 n [z,y] thn els) (cK l k (.mk 0 n [z,y] thn els) e7)) n (a6 v.w p.vars [c.store] z) (a6 v.w p.vars [c.store] y)).store=c.store.set (bl p.vars n+(a6 v.w p.vars [c.store] z)%aq p.vars n).toNat (a6 v.w p.vars [c.store] y):=rfl
  have Bi:(gh p.vars (bY p c (.mk 0 n [z,y] thn els) (cK l k (.mk 0 n [z,y] thn els) e7)) n (a6 v.w p.vars [c.store] z) (a6 v.w p.vars [c.store] y)).trace=c.trace++mF v.w p.vars [c.store] z++mF v.w p.vars [c.store] y++if 1<aq p.vars n then [⟨2,n,(a6 v.w p.vars [c.store] z)%aq p.vars n⟩]else []:=by
   show c.trace++eN p.w p.vars [c.store] [z,y]++_=_;rw [B];simp [eN]
  rw [←eY,←Bi]at A;refine ⟨?_,_,W,A,fun _=>⟨sx,ha,gF.symm⟩,by omega,⟨m1,?_,m3,m4,m5,m6⟩,rfl,rfl,rfl,rfl⟩
  ·exact h.ov
  ·show v.cost+aA z+aA y=c.cost+aw [z,y]
   rw [C];simp [aw];omega
end
end
section
open Go
section
variable{G H:AH} {m:Nat} {p:aU} {ps:List Int} {v:MV} {c:dY} {dB rs:List (List Value)} {e7:List (List bF×Int)} {vl:Value} {cs:List Value} {k:Int} {s:bF} {l:List bF}
theorem J1 {n:Int} {args:List ch} {thn els:List bF} (h:Mr G H m p ps v c dB e7 vl cs rs k (.mk 4 n args thn els) l):
 me G H 112 m p ps v c dB.length e7 cs k (.mk 4 n args thn els) l:=by
 intro c' z;rw [cN,if_neg (by omega),if_neg (by omega),if_neg (by omega),if_neg (by omega),if_pos rfl]at z;rw [show(bY p c (.mk 4 n args thn els) (cK l k (.mk 4 n args thn els) e7)).used=c.used from rfl]at z;obtain ⟨aH,_,_,Bh⟩:=gj h.row;obtain ⟨m1,N,u,m4,U,m6⟩:=h.mt;have jU:=h.hs
 cases jU with| @mk _ _ va vt ve ra rt re _ _ _ i1 i2 i3 i4 i5 g1 g2 g3 g4 g5 g6 g7 g8=>
 refine Ca.aR (F:=IU) rfl rfl rfl ?_;have C:=h.mh.wf;have Z:=Ext.alloc H (.cells 5 [.int .i64 4,.int .i64 n,va,vt,ve]);have d0:(H.alloc (.cells 5 [.int .i64 4,.int .i64 n,va,vt,ve])).ld ⟨H.nx,0,none⟩=some (.int .i64 4):=ak C rfl;have d1:(H.alloc (.cells 5 [.int .i64 4,.int .i64 n,va,vt,ve])).ld ⟨H.nx,1,none⟩=some (.int .i64 n):=ak C rfl;have d2:(H.alloc (.cells 5 [.int .i64 4,.int .i64 n,va,vt,ve])).ld ⟨H.nx,2,none⟩=some va:=ak C rfl;have d3:(H.alloc (.cells 5 [.int .i64 4,.int .i64 n,va,vt,ve])).ld ⟨H.nx,3,none⟩=some vt:=ak C rfl;have d4:(H.alloc (.cells 5 [.int .i64 4,.int .i64 n,va,vt,ve])).ld ⟨H.nx,4,none⟩=some ve:=ak C rfl;have d:(H.alloc (.cells 5 [.int .i64 4,.int .i64 n,va,vt,ve])).ldn ⟨H.nx,0,none⟩ 5=some [.int .i64 4,.int .i64 n,va,vt,ve]:=bo C 5 rfl;generalize cM:H.alloc (.cells 5 [.int .i64 4,.int .i64 n,va,vt,ve])=H1 at Z d0 d1 d2 d3 d4 d;have bT:=Z.wf C;have Y:=h.mh.ext Z;have b7:=h.b7;have b5:=h.b5;have b6:=h.b6;have b1:=h.b1;have b2:=h.b2;have b3:=h.b3;have b4:=h.b4;have b8:=h.b8;have zY:=h.w;have I:=h.w.symm;have J:=h.head;have Q:=h.store;rw [I]at J Q;have A1:=jr.nm h.mh Z
 have eJ:1≤v.w∧v.w≤8:=⟨(aD J).1,(aD J).2.1⟩
 have hp:=fT eJ;have xL:Bd v.w p.vars [c.store]:=fun t ht=>by simp at ht;subst ht;exact Q
 have out:∀b,(b=m∨aX v.vt b)→b≠H.nx:=fun b hb e=>by
  subst e;rcases hb with q|q
  ·have:=h.mh.lt (.inl q);omega
  ·have:=h.mh.tr.lt q;omega
 rw [I]at aH;have nb:¬ Mf m v H.nx:=fun q=>by have:=h.mh.lt q;omega
 have w0:IntKind.i64.wrap 0=0:=rfl;have w1':IntKind.i64.wrap 1=1:=rfl
 obtain ⟨W,gO⟩:(0≤n∧n<p.vars.length)∧((¬ 1<aq p.vars n∧args=[])∨(1<aq p.vars n∧∃a,args=[a])):=by
  rcases Bh with⟨q,_⟩|⟨q,_⟩|⟨q,_⟩|⟨q,_⟩|⟨_,q⟩|⟨q,_⟩
  ·omega
  ·omega
  ·omega
  ·omega
  ·exact q
  ·omega
 obtain ⟨pa,pc,O⟩:=h.bN.len;rcases gO with⟨P,rfl⟩|⟨P,y,rfl⟩
 ·simp (maxSteps:=9^7)-implicitDefEqProofs+contextual [-X.ev,IU,cM,d]
  apply ah
  ·(simp-implicitDefEqProofs [-X.ev];rfl)
  refine (DW (op:=4) (n:=n) (va:=va) (vt:=vt) (ve:=ve) Y h.vars W P).mono ?_;rintro x H2 ⟨rfl,X2⟩;have h2:=Y.ext X2;have B:=jr.nm Y X2;have K:=aL h2.get h2.n0 (k:=5) (v:=v.vp) rfl;have f11:=aL h2.get h2.n0 (k:=11) (v:=.int .i64 v.used) rfl;rw [O]at K;rw [u]at f11;by_cases q:ps.length≤c.used
  ·have E:(c.used:Int)=(ps.length:Int):=by omega
   rw [if_pos q]at z;simp (maxSteps:=9^7)-implicitDefEqProofs+contextual [-X.ev,K,f11,u,E,bu,aM,aN];apply ah
   ·(simp-implicitDefEqProofs [-X.ev];rfl)
   refine (th (how:=4) (n:=k) B.mh).mono ?_;rintro x H3 ⟨rfl,g⟩;have A:=(A1.trans B).trans g;simp (maxSteps:=9^7)-implicitDefEqProofs+contextual [-X.ev];subst z
   have D:(dZ (bY p c (.mk 4 n [] thn els) (cK l k (.mk 4 n [] thn els) e7)) 4 k).trace=c.trace:=by
    show c.trace++eN p.w p.vars [c.store] []=_;rw [I];simp [eN]
   rw [←D]at A;refine ⟨?_,_,_,A,fun q=>by simp [dZ]at q,by simp,⟨rfl,?_,u,rfl,U,rfl⟩,rfl,rfl,rfl,rfl⟩
   ·rfl
   ·show v.cost=c.cost+aw []
    rw [N];simp [aw]
  ·have E:¬ (c.used:Int)=(ps.length:Int):=by omega
   rw [if_neg q]at z;simp (maxSteps:=9^7)-implicitDefEqProofs+contextual [-X.ev,K,f11,u,E,bu,aM,aN];apply ah
   ·(simp-implicitDefEqProofs [-X.ev];rfl)
   refine (js B.mh h.hr h.hf h.hs h.hl h.h0 (by omega) (by omega) (by omega) (by omega)).mono ?_;rintro x H3 ⟨pd,dP,sx,g,ha,gF,xu⟩;have B3:=B.trans g;have g11:=aL g.mh.get g.mh.n0 (k:=11) (v:=.int .i64 v.used) rfl;obtain ⟨H4,s4,T,Bb,pI⟩:=g.mh.cell (v':={v with vf:=pd,used:=(c.used:Int)+1}) 11 (.int .i64 ((c.used:Int)+1)) (by omega) rfl rfl rfl rfl rfl;have R:=B3.trans T;have w2:IntKind.i64.wrap ((c.used:Int)+1)=(c.used:Int)+1:=ai ⟨by omega,by omega⟩;have w3:IntKind.i64.wrap (c.used:Int)=(c.used:Int):=ai ⟨by omega,by omega⟩;have e1:=aQ (R.mod.ldn (a:=⟨H.nx,0,none⟩) nb d) (j:=1) rfl;have f:=T.mh
   obtain ⟨a,o⟩:∃a,ps[c.used]?=some a:=⟨_,avg (by omega)⟩
   have gT:eu ps c.used=a:=by simp [eu,o]
   obtain ⟨bp,op_,cp_,Rq,eR⟩:=(fC.sub f.sub h.bN).at o;have r:=aL f.get f.n0 (k:=5) (v:=v.vp) rfl;have US:=aL f.get f.n0 (k:=11) (v:=.int .i64 ((c.used:Int)+1)) rfl;rw [Rq]at r;have cO:(c.used:Int)<(ps.length:Int):=by omega
   rw [u]at g11;simp (maxSteps:=9^7)-implicitDefEqProofs+contextual [-X.ev,g11,w2,s4,e1,r,US,w3,cO,eR];apply ah
   ·(simp-implicitDefEqProofs [-X.ev];rfl)
   refine (om (n:=n) (i:=0) (a:=a) f J Q h.vars h.cap W (by omega) (by omega)).mono ?_;rintro x H5 ⟨UR,h5,L,k5⟩;have M:=jr.trW h5 L k5;have A:=A1.trans (R.trans M);have RB:=L.nx;have Mq:=L.n0;simp (maxSteps:=9^7)-implicitDefEqProofs+contextual [-X.ev,bu,aM,aN,RB,Mq]
   have gk:c'=gh p.vars {bY p c (.mk 4 n [] thn els) (cK l k (.mk 4 n [] thn els) e7)with used:=c.used+1} n 0 a:=by
    rw [z,if_neg P,gT]
   subst gk;have eY:(gh p.vars {bY p c (.mk 4 n [] thn els) (cK l k (.mk 4 n [] thn els) e7)with used:=c.used+1} n 0 a).store=c.store.set (bl p.vars n+0%aq p.vars n).toNat a:=rfl
   have D:(gh p.vars {bY p c (.mk 4 n [] thn els) (cK l k (.mk 4 n [] thn els) e7)with used:=c.used+1} n 0 a).trace=c.trace++if 1<aq p.vars n then [⟨2,n,0%aq p.vars n⟩]else []:=by
    show c.trace++eN p.w p.vars [c.store] []++_=_;rw [I];simp [eN]
   rw [←eY,←D]at A;refine ⟨?_,_,dP,A,fun _=>⟨sx,ha,gF.symm⟩,by omega,⟨m1,?_,by show(c.used:Int)+1=((c.used+1:Nat):Int);omega,m4,U,m6⟩,rfl,rfl,rfl,rfl⟩
   ·exact h.ov
   ·show v.cost=c.cost+aw []
    rw [N];simp [aw]
 ·obtain ⟨xQ,UN⟩:=aH y (by simp)
  have Mm:=iw J xL y xQ;simp (maxSteps:=9^7)-implicitDefEqProofs+contextual [-X.ev,IU,cM,d];apply ah
  ·(simp-implicitDefEqProofs [-X.ev];rfl)
  refine (DX (op:=4) (n:=n) (va:=va) (vt:=vt) (ve:=ve) Y J Q h.vars h.cap W P g1 g2 (y:=y) rfl xQ (by omega) (by rw [N];omega)).mono ?_;rintro x H2 ⟨rfl,vt1,h2,M2,k2⟩;have B:=jr.tr (v:=v) h2 M2 k2;have u1:=ek (w:=v.w) (V:=p.vars) (S:=[c.store]) y;have K:=aL h2.get h2.n0 (k:=5) (v:=v.vp) rfl;have f11:=aL h2.get h2.n0 (k:=11) (v:=.int .i64 v.used) rfl;rw [O]at K;rw [u]at f11;by_cases q:ps.length≤c.used
  ·have E:(c.used:Int)=(ps.length:Int):=by omega
   rw [if_pos q]at z;simp (maxSteps:=9^7)-implicitDefEqProofs+contextual [-X.ev,K,f11,u,E,bu,aM,aN];apply ah
   ·(simp-implicitDefEqProofs [-X.ev];rfl)
   refine (th (how:=4) (n:=k) B.mh).mono ?_;rintro x H3 ⟨rfl,g⟩;have A:=(A1.trans B).trans g;simp (maxSteps:=9^7)-implicitDefEqProofs+contextual [-X.ev];subst z
   have D:(dZ (bY p c (.mk 4 n [y] thn els) (cK l k (.mk 4 n [y] thn els) e7)) 4 k).trace=c.trace++mF v.w p.vars [c.store] y:=by
    show c.trace++eN p.w p.vars [c.store] [y]=_;rw [I];simp [eN]
   rw [←D]at A;refine ⟨?_,_,_,A,fun q=>by simp [dZ]at q,by simp,⟨rfl,?_,u,rfl,U,rfl⟩,rfl,rfl,rfl,rfl⟩
   ·rfl
   ·show v.cost+aA y=c.cost+aw [y]
    rw [N];simp [aw]
  ·have E:¬ (c.used:Int)=(ps.length:Int):=by omega
   rw [if_neg q]at z;simp (maxSteps:=9^7)-implicitDefEqProofs+contextual [-X.ev,K,f11,u,E,bu,aM,aN];apply ah
   ·(simp-implicitDefEqProofs [-X.ev];rfl)
   refine (js B.mh h.hr h.hf h.hs h.hl h.h0 (by omega) (by omega) (by omega) (by omega)).mono ?_;rintro x H3 ⟨pd,dP,sx,g,ha,gF,xu⟩;have B3:=B.trans g;have g11:=aL g.mh.get g.mh.n0 (k:=11) (v:=.int .i64 v.used) rfl;obtain ⟨H4,s4,T,Bb,pI⟩:=g.mh.cell (v':={v with vt:=vt1,cost:=v.cost+aA y,vf:=pd,used:=(c.used:Int)+1}) 11 (.int .i64 ((c.used:Int)+1)) (by omega) rfl rfl rfl rfl rfl;have R:=B3.trans T;have w2:IntKind.i64.wrap ((c.used:Int)+1)=(c.used:Int)+1:=ai ⟨by omega,by omega⟩;have w3:IntKind.i64.wrap (c.used:Int)=(c.used:Int):=ai ⟨by omega,by omega⟩;have e1:=aQ (R.mod.ldn (a:=⟨H.nx,0,none⟩) nb d) (j:=1) rfl;have f:=T.mh
   obtain ⟨a,o⟩:∃a,ps[c.used]?=some a:=⟨_,avg (by omega)⟩
   have gT:eu ps c.used=a:=by simp [eu,o]
   obtain ⟨bp,op_,cp_,Rq,eR⟩:=(fC.sub f.sub h.bN).at o;have r:=aL f.get f.n0 (k:=5) (v:=v.vp) rfl;have US:=aL f.get f.n0 (k:=11) (v:=.int .i64 ((c.used:Int)+1)) rfl;rw [Rq]at r;have cO:(c.used:Int)<(ps.length:Int):=by omega
   rw [u]at g11;simp (maxSteps:=9^7)-implicitDefEqProofs+contextual [-X.ev,g11,w2,s4,e1,r,US,w3,cO,eR];apply ah
   ·(simp-implicitDefEqProofs [-X.ev];rfl)
   refine (om (n:=n) (i:=(a6 v.w p.vars [c.store] y)) (a:=a) f J Q h.vars h.cap W (by omega) (by simp only [avp];omega)).mono ?_;rintro x H5 ⟨UR,h5,L,k5⟩;have M:=jr.trW h5 L k5;have A:=A1.trans (R.trans M);have RB:=L.nx;have Mq:=L.n0;simp (maxSteps:=9^7)-implicitDefEqProofs+contextual [-X.ev,bu,aM,aN,RB,Mq]
   have gk:c'=gh p.vars {bY p c (.mk 4 n [y] thn els) (cK l k (.mk 4 n [y] thn els) e7)with used:=c.used+1} n (a6 v.w p.vars [c.store] y) a:=by
    rw [z,if_pos P,gT];show gh _ _ _ (a6 p.w p.vars [c.store] y) _=_;rw [I]
   subst gk;have eY:(gh p.vars {bY p c (.mk 4 n [y] thn els) (cK l k (.mk 4 n [y] thn els) e7)with used:=c.used+1} n (a6 v.w p.vars [c.store] y) a).store=c.store.set (bl p.vars n+(a6 v.w p.vars [c.store] y)%aq p.vars n).toNat a:=rfl
   have D:(gh p.vars {bY p c (.mk 4 n [y] thn els) (cK l k (.mk 4 n [y] thn els) e7)with used:=c.used+1} n (a6 v.w p.vars [c.store] y) a).trace=c.trace++mF v.w p.vars [c.store] y++if 1<aq p.vars n then [⟨2,n,(a6 v.w p.vars [c.store] y)%aq p.vars n⟩]else []:=by
    show c.trace++eN p.w p.vars [c.store] [y]++_=_;rw [I];simp [eN]
   rw [←eY,←D]at A;refine ⟨?_,_,dP,A,fun _=>⟨sx,ha,gF.symm⟩,by omega,⟨m1,?_,by show(c.used:Int)+1=((c.used+1:Nat):Int);omega,m4,U,m6⟩,rfl,rfl,rfl,rfl⟩
   ·exact h.ov
   ·show v.cost+aA y=c.cost+aw [y]
    rw [N];simp [aw]
end
end
section
open Go
structure Inv (p:aU) (ps:List Int) (c:dY):Prop where
 head:aC p.w p.vars=true
 store:bq p.w p.vars c.store=true
 words:∀a∈ps,0≤a∧a<2^p.w.toNat
 used:c.used≤ps.length∧ps.length≤16
 UT:ar p.body≤400
 todo:∀it∈c.todo,0≤it.1∧it.1+bg it.2≤ar p.body∧fu p.w p.vars it.2=true∧bA it.2≤400
 fuel:0≤c.fuel∧c.fuel≤4096
 tr:(c.trace.length:Int)+500*c.fuel≤2^30
 ou:(c.outs.length:Int)+c.fuel≤2^30
 co:0≤c.cost∧c.cost+500*c.fuel≤2^40
theorem qE {w:Int} {V:List Vr} {C N:Int}:∀(l:List bF) (k:Int),0≤k→k+ar l≤C→gU w V l=true→av l≤N→∀it∈bO l k,0≤it.1∧it.1+bg it.2≤C∧fu w V it.2=true∧bA it.2≤N
 |[],k,_,_,_,_,it,h=>by simp [bO]at h
 |s::l,k,c,d,a,b,it,h=>by
  rw [mc]at h;rw [ar]at d;rw [av]at b;rw [gU,avj]at a;have g:=aK l;have h2:=kQ s;have f:=kO s;have e:=bH l;rcases avy.1 h with rfl|h
  ·exact ⟨c,by show k+bg s≤C;omega,a.1,by show bA s≤N;omega⟩
  ·exact qE l _ (by omega) (by omega) a.2 (by omega) it h
theorem zZ {w:Int} {V:List Vr} {s:List Int} (c:1≤w∧w≤8) (h:bq w V s=true) (k:Nat) {a:Int} (e:0≤a∧a<2^w.toNat):bq w V (s.set k a)=true:=by
 simp only [bq,avj,avs,avw,List.length_set]at h⊢;refine ⟨h.1,fun b d=>?_⟩;rcases List.mem_or_eq_of_mem_set d with q|q
 ·exact h.2 b q
 ·rw [q];exact nZ c e
theorem DY {p:aU} {ps:List Int} {c:dY} {n i a:Int} (h:Inv p ps c) (d:(c.trace.length:Int)+1+500*c.fuel≤2^30) (b:0≤a∧a<2^p.w.toNat):Inv p ps (gh p.vars c n i a)where
 head:=h.head
 store:=zZ ⟨(aD h.head).1,(aD h.head).2.1⟩ h.store _ b
 words:=h.words
 used:=h.used
 UT:=h.UT
 todo:=h.todo
 fuel:=h.fuel
 tr:=by
  show((c.trace++_).length:Int)+500*c.fuel≤2^30;rw [avp];split
  ·simp;omega
  ·simp;have:=h.tr;omega
 ou:=h.ou
 co:=h.co
theorem nu {p:aU} {ps:List Int} {c:dY} (h:Inv p ps c) (e n:Int):Inv p ps (dZ c e n):={h with todo:=by simp [dZ]}
theorem wx {p:aU} {S:List (List Int)} (b:aC p.w p.vars=true) (c:Bd p.w p.vars S):∀(l:List ch),(∀e∈l,dq p.w p.vars S.length e=true)→∀i,i<l.length→0≤eu (bV p.w p.vars S l) i∧eu (bV p.w p.vars S l) i<2^p.w.toNat:=by
 intro l a i hi
 have:eu (bV p.w p.vars S l) i=a6 p.w p.vars S (l[i]):=by
  unfold eu;rw [qv,avg hi];rfl
 rw [this];exact iw b c _ (a _ (List.getElem_mem hi))
theorem jt {w:Int} {V:List Vr} {S:List (List Int)}:∀l:List ch,(bV w V S l).length=l.length
 |[]=>rfl
 |e::l=>by simp [bV,jt l]
theorem qF {p:aU} {ps:List Int} {c:dY} (h:Inv p ps c):Inv p ps (bI p ps c):=by
 unfold bI;by_cases G:c.over=true
 ·rw [if_pos G];exact h
 rw [if_neg G]
 cases o:c.todo with
 |nil=>exact h
 |cons it next=>
  obtain ⟨k,s⟩:=it;show Inv p ps (if c.fuel=0 then _ else _);by_cases L:c.fuel=0
  ·rw [if_pos L];exact nu h _ _
  rw [if_neg L];obtain ⟨op,n,args,d,els⟩:=s;obtain ⟨K,J,F,H⟩:=h.todo (k,.mk op n args d els) (by rw [o];simp);obtain ⟨Z,P,Q,R⟩:=gj F;have Y:bg (.mk op n args d els)=1+ar d+ar els:=by rw [bg]
  simp only at K J H;rw [bA]at H;have pa:=bf args;have pt:=bH d;have pe:=bH els;have bt:=aK d;have be:=aK els;have hp:=fT (w:=p.w) ⟨(aD h.head).1,(aD h.head).2.1⟩;have xL:Bd p.w p.vars [c.store]:=fun t o=>by simp at o;subst o;exact h.store
  have O:=wx (S:=[c.store]) h.head xL args (fun e X=>(Z e X).1);have evb:=jX (w:=p.w) (V:=p.vars) (S:=[c.store]) (l:=args) (fun e _=>ek e);have W:=h.fuel;have Bi:=h.tr;have T:=h.ou;have MP:=h.co
  obtain ⟨b,g⟩:∃b,iz p c (.mk op n args d els) next=b:=⟨_,rfl⟩
  have e1:b.trace=c.trace++eN p.w p.vars [c.store] args:=by rw [←g];rfl
  have e2:b.cost=c.cost+1+aw args:=by rw [←g];rfl
  have u:b.fuel=c.fuel- 1:=by rw [←g];rfl
  have e4:b.todo=next:=by rw [←g];rfl
  have M:b.outs=c.outs:=by rw [←g];rfl
  have e6:b.used=c.used:=by rw [←g];rfl
  have r:∀it∈next,0≤it.1∧it.1+bg it.2≤ar p.body∧fu p.w p.vars it.2=true∧bA it.2≤400:=fun it i=>h.todo it (by rw [o];simp [i])
  have IQ:(b.trace.length:Int)+99+500*b.fuel≤2^30:=by rw [e1,u,avp];omega
  have f:Inv p ps b:={head:=h.head,store:=by rw [←g];exact h.store,words:=h.words,used:=by rw [e6];exact h.used,UT:=h.UT,todo:=by rw [e4];exact r,fuel:=by rw [u];omega,tr:=by omega,ou:=by rw [M,u];omega,co:=by rw [e2,u];omega}
  rw [show(bF.mk op n args d els).args=args from rfl];have j:=qE (w:=p.w) (V:=p.vars) (C:=ar p.body) (N:=400) d (k+1) (by omega) (by omega) P (by omega);have v:=qE (w:=p.w) (V:=p.vars) (C:=ar p.body) (N:=400) els (k+1+ar d) (by omega) (by omega) Q (by omega)
  have both:∀(l:List kJ),(∀it∈l,0≤it.1∧it.1+bg it.2≤ar p.body∧fu p.w p.vars it.2=true∧bA it.2≤400)→∀(e:Ev),Inv p ps {b with trace:=b.trace++[e],todo:=l}:=fun l x e=>
   {f with todo:=x,tr:=by show((b.trace++[e]).length:Int)+500*b.fuel≤2^30;rw [avp];simp;omega}
  have app:∀(l m:List kJ),(∀it∈l,0≤it.1∧it.1+bg it.2≤ar p.body∧fu p.w p.vars it.2=true∧bA it.2≤400)→(∀it∈m,0≤it.1∧it.1+bg it.2≤ar p.body∧fu p.w p.vars it.2=true∧bA it.2≤400)→∀it∈l++m,0≤it.1∧it.1+bg it.2≤ar p.body∧fu p.w p.vars it.2=true∧bA it.2≤400:=fun l m x U it i=>(avA.1 i).elim (x it) (U it)
  rw [g];unfold cN;by_cases E:op=0
  ·simp only [if_pos E]
   have I:0<args.length:=by
    rcases R with⟨_,_,⟨_,a,rfl⟩|⟨_,a,b,rfl⟩⟩|⟨q,_⟩|⟨q,_⟩|⟨q,_⟩|⟨q,_⟩|⟨q,_⟩
    ·simp
    ·simp
    all_goals omega
   exact DY f (by omega) (O _ (by rw [jt];omega))
  simp only [if_neg E];by_cases D:op=1
  ·simp only [if_pos D]
   by_cases q:eu (bV p.w p.vars [c.store] args) 0=0
   ·simp only [if_pos q];exact both _ (app _ _ v r) _
   ·simp only [if_neg q];exact both _ (app _ _ j r) _
  simp only [if_neg D];by_cases B:op=2
  ·simp only [if_pos B]
   by_cases q:eu (bV p.w p.vars [c.store] args) 0=0
   ·simp only [if_pos q];exact both _ r _
   ·simp only [if_neg q]
    exact both _ (app _ _ j (fun it i=>by
     rcases avy.1 i with rfl|i
     ·exact ⟨K,J,F,by show bA (.mk op n args d els)≤400;rw [bA];omega⟩
     ·exact r it i)) _
  simp only [if_neg B];by_cases A:op=3
  ·simp only [if_pos A]
   exact {f with ou:=by show((b.outs++[_]).length:Int)+b.fuel≤2^30;rw [avp,M,u];simp;omega}
  simp only [if_neg A];by_cases z:op=4
  ·simp only [if_pos z]
   by_cases q:ps.length≤b.used
   ·simp only [if_pos q];exact nu f _ _
   ·simp only [if_neg q]
    have hu:=f.used;refine DY (c:={b with used:=b.used+1}) {f with used:=by show b.used+1≤ps.length∧_;omega} (by show(b.trace.length:Int)+1+500*b.fuel≤2^30;omega) ?_;have:eu ps b.used=ps[b.used]'(by omega):=by simp [eu,avg (show b.used<ps.length by omega)]
    rw [this];exact h.words _ (List.getElem_mem _)
  simp only [if_neg z];by_cases y:op=5
  ·simp only [if_pos y]
   by_cases q:eu (bV p.w p.vars [c.store] args) 0=0
   ·simp only [if_pos q];exact nu f _ _
   ·simp only [if_neg q];exact f
  simp only [if_neg y];by_cases q:eu (bV p.w p.vars [c.store] args) 0=0
  ·simp only [if_pos q];exact nu f _ _
  ·simp only [if_neg q];exact f
end
end Go.Proofs.YtppcmpmnglaleaaGreatDoor.A
