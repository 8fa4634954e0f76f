/- Texts that stand one behind the other: S36, S37, S38, S39, S40, S41, S42, S43, S44, S45, S46, S47. -/
import Derived.Test.YtppcmpmnglaleaaGreatG14
set_option linter.unusedVariables false
set_option linter.unusedSimpArgs false
set_option maxRecDepth 10000
namespace Go.Proofs.YtppcmpmnglaleaaGreat.A
section
open Go
theorem C5 {l:List bH} {s:Value} {rows:List (List Value)} {H:AH} (Y:H.n0≤H.nx) (K:Rows H 5 s rows) (M:hY H rows l) (L:l.length<2^40) (mr:aw l<2^60):
 Ca E O 80 [s] H (fun x H'=>x= .int .i64 (al l)∧Ext H H'):=by
 refine Ca.aJ (F:=Xy) rfl rfl rfl ?_;obtain ⟨p0,c0,p⟩:=K.len;rw [M.length]at p;simp (maxSteps:=9^7)-implicitDefEqProofs+contextual [-X.ev,Xy,p];refine bZ (fun k j H'=>Ext H H'∧∃i:Nat,i+k=l.length∧j.get 6=s∧j.get 7= .int .i64 l.length∧j.get 8= .int .i64 i∧j.get 3= .int .i64 (al (l.take i))) ?_ l.length ⟨Ext.refl _,0,by simp,by simp [p],by simp,by simp,by simp [al]⟩;rintro k j a ⟨m,i,hi,A,v,u,r⟩;have I:=m.wf Y;have bt:=aR l;by_cases h:i<l.length
 ·obtain ⟨y,t⟩:∃y,l[i]?=some y:=⟨_,apG h⟩
  have t1:=fu t;have t2:=aX l (i+1);have t3:=aX l i;have u1:=fY t;have u2:=cl l i;have u3:=cl l (i+1);obtain ⟨e,f,G,C,D⟩:=y;obtain ⟨b,o,c',oT,oU,oV,Ux,Uy,Uz,J,Z,_,_,_,_,_,U,T,S,R,Q,g1,g2,g3,g4,g5,g6⟩:=hY.row (K.ext m) (hY.ext m M) t;have V:nK a [.int .i64 e,.int .i64 f,oT,oU,oV] (.mk e f G C D):=.mk U T S R Q g1 g2 g3 g4 g5 g6;have w:=A;rw [J]at w;obtain ⟨d,P,B,FB,FC,q,g⟩:=fg (H:=a) I (z:=5) (c:=[.int .i64 0,.int .i64 0,.slice none 0 0,.slice none 0 0,.slice none 0 0]) (vs:=[.int .i64 e,.int .i64 f,oT,oU,oV]) rfl;have q0:d.ld ⟨a.nx,0,none⟩=some (.int .i64 e):=g 0 _ rfl;have q1:d.ld ⟨a.nx,1,none⟩=some (.int .i64 f):=g 1 _ rfl;have q2:d.ld ⟨a.nx,2,none⟩=some oT:=g 2 _ rfl;have q3:d.ld ⟨a.nx,3,none⟩=some oU:=g 3 _ rfl;have q4:d.ld ⟨a.nx,4,none⟩=some oV:=g 4 _ rfl;clear g;replace q:d.ldn ⟨a.nx,0,none⟩ 5=some [.int .i64 e,.int .i64 f,oT,oU,oV]:=q;have W:=B.wf I;have N:IntKind.i64.wrap (al (l.take i)+bA (.mk e f G C D))=al (l.take (i+1)):=by rw [aj ⟨by omega,by omega⟩];omega
  simp (maxSteps:=9^7)-implicitDefEqProofs+contextual [-X.ev,w,r,v,u,h,Z,P,q];apply ah
  ·(simp-implicitDefEqProofs [-X.ev];rfl)
  refine (Bj _ _ _ d (apV _) W (nK.ext B V) (by omega)).mono ?_;rintro x H4 ⟨rfl,X4⟩;simp (maxSteps:=9^7)-implicitDefEqProofs+contextual [-X.ev,w,r,v,u,N];rw [aj (n:=(i:Int)+1) ⟨by omega,by omega⟩];exact ⟨k- 1,by omega,(m.trans B).trans X4,i+1,by omega,J.symm,by simp,rfl⟩
 rw [apN (by omega)]at r;rw [p]at A;simp (maxSteps:=9^7)-implicitDefEqProofs+contextual [-X.ev,A,r,v,u,h];exact m
theorem Kg {H:AH} {m:Nat} {d:Value} {rest:List Value} {rows:List (List Value)} {a:Option Addr} {n c:Nat} {k:Int} (L:H.n0≤H.nx) (g:H.get m=some (.cells 14 (d::rest))) (A:H.n0≤m) (l:fU H 2 d rows) (t:¬ aU d m) (f:rows.length≤2^40):
 Ca E O 37 [.pointer (some ⟨m,0,none⟩),.slice a n c,.int .i64 k] H (fun x H'=>∃e,H'.get m=some (.cells 14 (e::rest))∧fU H' 2 e (if n=0 then rows else rows++[[.slice a n c,.int .i64 k]])∧Mod (fun b=>b=m∨aU d b) H H'∧∀b,aU e b→aU d b∨H.nx≤b):=by
 refine Ca.aJ (F:=Tr) rfl rfl rfl ?_;by_cases u:n=0
 ·subst u
  simp (maxSteps:=9^7)-implicitDefEqProofs+contextual [-X.ev,Tr];exact ⟨d,g,l,Mod.refl _ _,fun b f=>.inl f⟩
 ·have N:0<n:=by omega
  have p:=aI g A (k:=0) (v:=d) rfl;have j:=mZ (sz:=2) (z:=[.slice none 0 0,.int .i64 0]) (H:=H) (v:=.agg #[.slice a n c,.int .i64 k]) rfl rfl rfl;simp only [dM]at j;have X:=Ext.alloc H (.cells 2 [.slice a n c,.int .i64 k])
  obtain ⟨H2,y⟩:∃H2,H.alloc (.cells 2 [.slice a n c,.int .i64 k])=H2:=⟨_,rfl⟩
  obtain ⟨e,H3,R,o,D,s,J,W,I⟩:=l.push (bytes:=32) L (by omega) (r:=[.slice a n c,.int .i64 k]) rfl y (by omega) (by omega);rw [y]at j X;have S:=D.get t g;obtain ⟨Z,G,C,V,Y,B⟩:=bV S (by rw [J];exact A) (k:=0) (vs:=[e]) (by simp);have M:aM (d::rest) 0 [e]=e::rest:=by simp [aM]
  rw [M]at B;obtain ⟨U,T,w⟩:=o.shape;rw [apP,List.length_singleton]at w;subst w;have K:=X.ld p;have Q:eM [.slice none 0 0,.int .i64 0] [(0,1,.slice a n c),(1,1,.int .i64 k)]=some (.agg #[.slice a n c,.int .i64 k]):=rfl;simp (maxSteps:=9^7)-implicitDefEqProofs+contextual [-X.ev,Tr,N,p,Q,j,R,G]
  have P:∀b,aU (.slice U (rows.length+1) T) b→¬ b=m:=by
   intro b f q;subst q;rcases s b f with h|h
   ·exact t h
   ·have:=AH.bk g;omega
  refine ⟨_,B,by rw [if_neg u];exact o.mod C P,(D.mono fun x _ i=>.inr i).trans (C.mono fun x _ i=>.inl i),s⟩
theorem Bk {G H:AH} {m:Nat} {s f:Value} {rest:List Value} {rows rs:List (List Value)} {cs:List Value} {k:Int} (o:H.n0≤H.nx) (gm:H.get m=some (.cells 14 (s::rest))) (h0:H.n0≤m) (L:fU H 2 s (rows++[[f,.int .i64 k]])) (hb:rows.length≤2^40) (X:Sub G H) (T:Rows G 5 f (cs::rs)):
 Ca E O 39 [.pointer (some ⟨m,0,none⟩)] H (fun x H'=>x= .tuple #[.agg cs.toArray,.int .i64 k,.bool true]∧Ext H H'):=by
 refine Ca.aJ (F:=Rc) rfl rfl rfl ?_;obtain ⟨b,c,rfl,hc,xq,lP,hz,Y,_,_⟩:=L.last;have R:=aI gm h0 (k:=0) (v:=.slice (some ⟨b,0,none⟩) (rows.length+1) c) rfl;have a:=Ext.alloc H (.cells 5 zS);have B:=cx H (.cells 5 zS)
 obtain ⟨H1,p⟩:∃H1,H.alloc (.cells 5 zS)=H1:=⟨_,rfl⟩
 rw [p]at a B;have g:=a.wf o;have n:=a.ld R;have A:=a.ldn Y;obtain ⟨H2,t,e,P,d,D⟩:=fC g (z:=2) (c:=[.slice none 0 0,.int .i64 0]) (vs:=[f,.int .i64 k]) rfl;have gT:=e.wf g;have u:=aI D (by rw [d];exact g) (k:=0) (v:=f) rfl;have K:=aI D (by rw [d];exact g) (k:=1) (v:=.int .i64 k) rfl;obtain ⟨b5,M,c5,j,y⟩:=((T.sub X).ext (a.trans e)).at (i:=0) (r:=cs) rfl;rw [List.length_cons]at j;have q:=e.get B;have l:cs.length=5:=(dF y).2;obtain ⟨H3,J,M3,N,w,C⟩:=bV q (by rw [d,a.n0];exact o) (k:=0) (vs:=cs) (by simp [l]);have S:aM zS 0 cs=cs:=k8 _ _ (by rw [l];rfl);rw [S]at C;have Q:H3.ldn ⟨H.nx,0,none⟩ 5=some cs:=by rw [bM C (by rw [w,d,a.n0];exact o) (by omega)];simp [apN (Nat.le_of_eq l)]
 rw [j]at u;rw [j]at t;have I:IntKind.i64.wrap (rows.length:Int)=(rows.length:Int):=aj ⟨by omega,by omega⟩;have n1:=a.nx;have n2:=e.nx;have W:H2.ldn ⟨b5,M,none⟩ 5=some cs:=by simpa using y
 have U:¬ ((rows.length:Int)+1=0):=by omega
 have e1:H1.nx=H.nx+1:=by rw [←p];rfl
 have Z:Nat.beq H1.nx H.nx=false:=aqj.2 fun h=>by have:=Nat.eq_of_beq_eq_true h;omega
 have V:(rows.length:Int)<(rows.length:Int)+1:=by omega
 simp only [j]at A;simp (maxSteps:=9^7)-implicitDefEqProofs+contextual [-X.ev,Rc,p,n,U,V,I,A,t,u,K,W,J,Q,aN,aD,aE,a.n0,d,w,P,N,l,AH.oi,AH.ez,AT,dq,Z];exact (a.trans e).mod M3 (fun b hb=>by omega)
theorem xF {H:AH} {m:Nat} {b:Value} {rest:List Value} (e:H.n0≤H.nx) (p:H.get m=some (.cells 14 (b::rest))) (o:H.n0≤m) (h:fU H 2 b []):
 Ca E O 39 [.pointer (some ⟨m,0,none⟩)] H (fun x H'=>x= .tuple #[.agg zS.toArray,.int .i64 0,.bool false]∧Ext H H'):=by
 refine Ca.aJ (F:=Rc) rfl rfl rfl ?_;obtain ⟨s,r,rfl⟩:=h.shape;have l:=aI p o (k:=0) (v:=.slice s 0 r) rfl;obtain ⟨u,d,t,w,i,q⟩:=fC e (z:=5) (c:=zS) (vs:=zS) rfl;have g:=Ext.alloc H (.cells 5 zS)
 obtain ⟨H1,f⟩:∃H1,H.alloc (.cells 5 zS)=H1:=⟨_,rfl⟩
 rw [f]at g d;have a:=g.ld l;have j:u.ldn ⟨H.nx,0,none⟩ 5=some zS:=by rw [bM q (by rw [i];exact e) (by simp)];rfl
 have n:eM zS []=some (.agg zS.toArray):=rfl;simp (maxSteps:=9^7)-implicitDefEqProofs+contextual [-X.ev,Rc,f,a,n,d,j,t]
theorem ac4 {G H:AH} (X:Sub G H) {f:Value} {cs:List Value} {rs:List (List Value)} (q:Rows G 5 f (cs::rs)) (u:Fit G f):∃a c,cj 5 H f (some (.int .i64 1)) none none=some (.slice a rs.length c)∧Rows G 5 (.slice a rs.length c) rs∧Fit G (.slice a rs.length c):=by
 obtain ⟨a,n,c,rfl,l,m⟩:=u;obtain ⟨B,z,e,k⟩:=q.is;cases e;obtain ⟨b,o,v,d⟩:=m (by simp);subst v
 have g:H.lz b 5=true:=by
  unfold AH.lz at d⊢;split at d
  ·rename_i t;rw [X.get _ _ t];exact d
  ·cases d
 simp only [List.length_cons]at l;by_cases j:c=1
 ·subst j
  have p:rs=[]:=aqe (by omega);subst p;exact ⟨some ⟨b,o,some 1⟩,0,rfl,⟨_,_,rfl,by simp⟩,⟨_,_,_,rfl,apK _,fun h=>absurd h (by simp)⟩⟩
 ·refine ⟨some ⟨b,o+5,none⟩,c- 1,?_,⟨_,_,rfl,fun i r hi=>?_⟩,⟨_,_,_,rfl,by omega,fun _=>⟨b,o+5,rfl,d⟩⟩⟩
  ·have x:¬ c=1:=j
   have w:(1:Int)≤(rs.length:Int)+1:=by omega
   have h2:1≤c:=by omega
   simp [cj,bQ,iH,x,w,l,g];rfl
  ·obtain ⟨A,y,e,s⟩:=k (i+1) r (by simpa using hi)
   cases e;refine ⟨b,o+5,rfl,?_⟩;rw [show o+5+i*5=o+(i+1)*5 by omega];exact s
theorem jW:∀s:bH,1≤bA s
 | .mk op n args a b=>by have:=aR a;have:=aR b;rw [bA];omega
def xG (rows rs:List (List Value)) (r:List Value):List (List Value):=if rs.length=0 then rows else rows++[r]
theorem Kh {G H:AH} {m:Nat} {h vl:Value} {rest:List Value} {rows rs:List (List Value)} {cs:List Value} {s:bH} {k:Int} (hw:H.n0≤H.nx) (gm:H.get m=some (.cells 14 (h::rest))) (V:H.n0≤m) (ow:fU H 2 h (rows++[[vl,.int .i64 k]])) (YP:¬ aU h m) (hb:rows.length≤2^40) (X:Sub G H) (hS:∀b,(b=m∨aU h b)→G.get b=none) (hr:Rows G 5 vl (cs::rs)) (hf:Fit G vl) (hs:nK G cs s) (mr:bx s<2^60) (wL:rs.length<2^60)
 (hk:0≤k∧k≤2^40) (C6:bA s≤2^40):
 Ca E O 77 [.pointer (some ⟨m,0,none⟩)] H (fun x H'=>∃D,H'.get m=some (.cells 14 (D::rest))∧(∃C,Rows G 5 C rs∧Fit G C∧fU H' 2 D (xG rows rs [C,.int .i64 (k+bA s)]))∧Mod (fun b=>b=m∨aU h b) H H'∧∀b,aU D b→aU h b):=by
 refine Ca.aJ (F:=Xw) rfl rfl rfl ?_;obtain ⟨b,c,rfl,hc,xq,lP,hz,hl,iS,_⟩:=ow.last;have g:b≠m:=fun q=>YP ((aS _ _ _ _ _).2 q.symm)
 have l0:=aI gm V (k:=0) (v:=.slice (some ⟨b,0,none⟩) (rows.length+1) c) rfl;obtain ⟨b5,o5,c5,N,Rx⟩:=(hr.sub X).at (i:=0) (r:=cs) rfl;rw [List.length_cons]at N;have OY:H.ldn ⟨b5,o5,none⟩ 5=some cs:=by simpa using Rx
 have w1:IntKind.i64.wrap (rows.length:Int)=(rows.length:Int):=aj ⟨by omega,by omega⟩;have dh:(rows.length:Int)<(rows.length:Int)+1:=by omega
 have I:H.ld ⟨b,rows.length*2,none⟩=some vl:=by simpa using aL hl (j:=0) rfl
 have q1:H.ld ⟨b,rows.length*2+1,none⟩=some (.int .i64 k):=aL hl (j:=1) rfl;rw [N]at I;have R:nK H cs s:=nK.sub X hs;have LQ:G.get m=none:=hS m (.inl rfl);simp (maxSteps:=9^7)-implicitDefEqProofs+contextual [-X.ev,Xw,l0,w1,dh,I,q1,OY,aN,aD,aE];apply ah
 ·(simp-implicitDefEqProofs [-X.ev];rfl)
 refine (Bj _ s cs H (apV _) hw R mr).mono ?_;rintro x H1 ⟨rfl,a⟩;have jK:=a.wf hw;have ct:=jW s;have Y:=a.get gm;have w2:IntKind.i64.wrap (k+bA s)=k+bA s:=aj ⟨by omega,by omega⟩;obtain ⟨w,c',e,_,mX,alK,hz1,yE,Q,_⟩:=(ow.ext a).last;cases e;obtain ⟨H2,s2,L,Z,tA,M⟩:=Q 1 (.int .i64 (k+bA s)) (by omega);replace L:fU H2 2 (.slice (some ⟨b,0,none⟩) (rows.length+1) c) (rows++[[vl,.int .i64 (k+bA s)]]):=L;have TX:=Z.get (fun q=>g q.symm) Y;have fP:Sub G H2:=(X.JZ a).mod Z (fun q d=>hS q (.inr ((aS _ _ _ _ _).2 d)));obtain ⟨B,A,U,DA,YQ⟩:=ac4 fP hr hf;obtain ⟨w,c',e,_,iK,alL,hz2,HW,P,_⟩:=L.last;cases e;have J:H2.ld ⟨b,rows.length*2,none⟩=some vl:=by simpa using aL HW (j:=0) rfl
 obtain ⟨H3,s3,z,M3,qx,lF⟩:=P 0 (.slice B rs.length A) (by omega);replace z:fU H3 2 (.slice (some ⟨b,0,none⟩) (rows.length+1) c) (rows++[[.slice B rs.length A,.int .i64 (k+bA s)]]):=z;have W:=M3.get (fun q=>g q.symm) TX;obtain ⟨w,c',e,hc3,yr,alM,hz3,T,alO,K⟩:=z.last;cases e;have p3:H3.ld ⟨b,rows.length*2,none⟩=some (.slice B rs.length A):=by simpa using aL T (j:=0) rfl
 have o:H2.st ⟨b,rows.length*2,none⟩ [.slice B rs.length A]=some H3:=s3;rw [N]at J U;have p:=a.ld I;have u:H3.n0=H.n0:=lF.trans (M.trans a.n0);have y:Mod (fun w=>w=m∨aU (.slice (some ⟨b,0,none⟩) (rows.length+1) c) w) H H3:=(Mod.bU a).trans ((Z.mono fun x _ t=>.inr ((aS _ _ _ _ _).2 t)).trans (M3.mono fun x _ t=>.inr ((aS _ _ _ _ _).2 t)));have f:=aV.1 q1;have UF:=a.ldn f;have l:=a.nx;have n:=a.n0;by_cases Bl:(rs.length:Int)=0
 ·obtain ⟨H4,s4,M4,yy,nN,g4⟩:=bV W (by rw [u];exact V) (k:=0) (vs:=[.slice (some ⟨b,0,none⟩) rows.length c]) (by simp)
  have iL:aM (.slice (some ⟨b,0,none⟩) (rows.length+1) c::rest) 0 [.slice (some ⟨b,0,none⟩) rows.length c]= .slice (some ⟨b,0,none⟩) rows.length c::rest:=by simp [aM]
  rw [iL]at g4;have l3:=aI W (by rw [u];exact V) (k:=0) (v:=.slice (some ⟨b,0,none⟩) (rows.length+1) c) rfl
  have zK:cj 2 H3 (.slice (some ⟨b,0,none⟩) (rows.length+1) c) none (some (.int .i64 rows.length)) none=some (.slice (some ⟨b,0,none⟩) rows.length c):=by
   have h1:¬ c=0:=by omega
   have h2:rows.length≤c:=by omega
   have h3:(rows.length:Int)≤(c:Int):=by omega
   simp [cj,bQ,iH,h1,h2,h3];rfl
  simp (maxSteps:=9^7)-implicitDefEqProofs+contextual [-X.ev,p,w2,s2,J,U,o,p3,l3,w1,zK,s4,Bl,f,UF,l,n,M,tA,aN,aD,aE];refine ⟨⟨nN.symm,by omega⟩,_,g4,⟨_,DA,YQ,?_⟩,y.trans (M4.mono fun x _ t=>.inl t),fun q d=>?_⟩
  ·rw [xG,if_pos (by omega)]
   exact K.mod M4 (fun q d e=>g (by rw [aS]at d;omega))
  ·rw [aS]at d⊢;exact d
 ·have S:¬ rs=[]:=fun q=>Bl (by rw [q];rfl)
  simp (maxSteps:=9^7)-implicitDefEqProofs+contextual [-X.ev,p,w2,s2,J,U,o,p3,S,f,UF,l,n,M,tA,aN,aD,aE];refine ⟨_,W,⟨_,DA,YQ,?_⟩,y,fun q d=>d⟩;rw [xG,if_neg (by omega)];exact z
open Go
def F3 (v:Value):Prop:=∃a n c,v= .slice a n c∧n≤c
theorem da.cap {H:AH} {sz:Nat} {v:Value} {rows:List (List Value)} (h:da H sz v rows):F3 v:=by
 rcases h.is with⟨rfl,_⟩|⟨b,rfl,_⟩
 ·exact ⟨_,_,_,rfl,apK _⟩
 ·exact ⟨_,_,_,rfl,apK _⟩
theorem Mod.then {R d:Nat→Prop} {H H1 H2:AH} (h:Mod R H H1) (k:Mod d H1 H2) (hs:∀b,b<H.nx→d b→R b):Mod R H H2:=
 ⟨k.n0.trans h.n0,ap2 h.nx k.nx,fun b a c=>(k.old b (ap3 a h.nx) fun q=>c (hs b a q)).trans (h.old b a c)⟩
theorem dy.sub {G H:AH} (X:Sub G H) {v:Value} {l:List Vr} (h:dy G v l):dy H v l:=Rows.sub X h
theorem sL {V:List Vr} {i:Nat} {y:Vr} (a:V[i]?=some y):bq V ((i+1:Nat):Int)=IntKind.i64.wrap (bq V (i:Int)+y.cells):=by
 simp only [bq,Int.toNat_natCast];rw [ap1];simp [dY,a,List.foldl_append]
theorem OZ {H:AH} {d:Value} {V:List Vr} {n:Int} (g:dy H d V) (j:F3 d) (i:0≤n∧n<V.length):∃a c f,d= .slice a V.length c∧cj 3 H d none (some (.int .i64 n)) none=some (.slice a n.toNat f):=by
 obtain ⟨a,m,c,rfl,p⟩:=j;obtain ⟨q,f,e⟩:=g.len;cases e;refine ⟨a,c,c,rfl,?_⟩;have l:¬ c=0:=by omega
 have h2:n≤(c:Int):=by omega
 have k:n.toNat≤c:=by omega
 obtain ⟨y,h⟩:∃y,V[0]?=some y:=⟨_,apG (by omega)⟩
 obtain ⟨b,o,f,e,_⟩:=g.at h;cases e;simp [cj,bQ,iH,l,h2,k,i.1];rfl
theorem tX {w k n:Int} {vv:Value} {V:List Vr} {H:AH} (f:H.n0≤H.nx) (t:dy H vv V) (L:F3 vv) (hl:V.length≤2^40) (J:0≤n∧n<V.length):
 Ca E O 127 [.agg #[.int .i64 w,vv,.int .i64 k],.int .i64 n] H (fun x H'=>x= .int .i64 (bq V n)∧Ext H H'):=by
 obtain ⟨e,rfl⟩:∃m:Nat,n=m:=⟨n.toNat,by omega⟩
 refine Ca.aJ (F:=Jf) rfl rfl rfl ?_;obtain ⟨a,c,Z,s,xH⟩:=OZ t L J;have p:=Ext.alloc H (.cells 3 [.int .i64 w,vv,.int .i64 k]);have Y:(H.alloc (.cells 3 [.int .i64 w,vv,.int .i64 k])).ld ⟨H.nx,0,none⟩=some (.int .i64 w):=ai f rfl;have v:(H.alloc (.cells 3 [.int .i64 w,vv,.int .i64 k])).ld ⟨H.nx,1,none⟩=some vv:=ai f rfl;have W:(H.alloc (.cells 3 [.int .i64 w,vv,.int .i64 k])).ld ⟨H.nx,2,none⟩=some (.int .i64 k):=ai f rfl;have d:(H.alloc (.cells 3 [.int .i64 w,vv,.int .i64 k])).ldn ⟨H.nx,0,none⟩ 3=some [.int .i64 w,vv,.int .i64 k]:=bj f 3 rfl;generalize U:H.alloc (.cells 3 [.int .i64 w,vv,.int .i64 k])=H1 at p Y v W d;have S:=p.wf f;obtain ⟨a1,c1,A,G,u⟩:=OZ (t.ext p) L J;rw [s]at G;cases G;rw [s]at v u;rw [Int.toNat_natCast]at u;simp (maxSteps:=9^7)-implicitDefEqProofs+contextual [-X.ev,Jf,U,v,u];refine bZ (fun k g H'=>Ext H1 H'∧∃i:Nat,i+k=e∧g.get 11= .slice a e A∧g.get 12= .int .i64 e∧g.get 13= .int .i64 i∧g.get 5= .int .i64 (bq V (i:Int))) ?_ e ⟨Ext.refl _,0,by simp,by simp,by simp,by simp,by simp [bq,dY]⟩;rintro k g j ⟨B,i,hi,f11,f12,f13,M⟩;have D:=B.wf S;have P:=p.trans B;by_cases h:i<e
 ·obtain ⟨y,C⟩:∃y,V[i]?=some y:=⟨_,apG (by omega)⟩
  obtain ⟨b,o,Z,I,K,_,_,_⟩:=(t.ext P).at C;rw [s]at I;cases I;simp only [Vr.row]at K;obtain ⟨r,Q,N,FB,FC,q,l⟩:=fg (H:=j) D (z:=3) (c:=[.string ⟨#[]⟩,.int .i64 0,.int .i64 0]) (vs:=[.string y.name,.int .i64 y.level,.int .i64 y.cells]) rfl;have q0:r.ld ⟨j.nx,0,none⟩=some (.string y.name):=l 0 _ rfl;have q1:r.ld ⟨j.nx,1,none⟩=some (.int .i64 y.level):=l 1 _ rfl;have R:r.ld ⟨j.nx,2,none⟩=some (.int .i64 y.cells):=l 2 _ rfl;clear l;replace q:r.ldn ⟨j.nx,0,none⟩ 3=some [.string y.name,.int .i64 y.level,.int .i64 y.cells]:=q;have xp:=N.wf D;have T:(i:Int)<(e:Int):=by omega
  have hk:k- 1<k:=by omega
  simp (maxSteps:=9^7)-implicitDefEqProofs+contextual [-X.ev,f11,f12,f13,M,h,K,Q,R];rw [aj (n:=(i:Int)+1) ⟨by omega,by omega⟩];exact ⟨k- 1,by omega,B.trans N,i+1,by omega,by simp,by rw [sL C]⟩
 ·simp (maxSteps:=9^7)-implicitDefEqProofs+contextual [-X.ev,f11,f12,f13,M,h]
  refine ⟨?_,P⟩;rw [show(i:Int)=e by omega]
structure UH (G:AH) (f:Nat) (first cap:Array Value) (I:List Ev→(Nat→Prop)→AH→Prop):Prop where
 call:∀{nO:List Ev} {R:Nat→Prop} {H:AH} {n i:Int},H.n0≤H.nx→I nO R H→Sub G H→(∀b,R b→G.get b=none)→nO.length<2^40→
  Ca E O f (first.toList++ .int .i64 n:: .int .i64 i::cap.toList) H (fun x H'=>∃R',I (nO++[⟨1,n,i⟩]) R' H'∧Mod R H H'∧∀b,R' b→R b∨H.nx≤b)
 mod:∀{nO:List Ev} {R T:Nat→Prop} {H H':AH},I nO R H→Mod T H H'→(∀b,T b→¬ R b)→I nO R H'
 lt:∀{nO:List Ev} {R:Nat→Prop} {H:AH},I nO R H→∀b,R b→b<H.nx
theorem UH.ext {G:AH} {f:Nat} {first cap:Array Value} {I:List Ev→(Nat→Prop)→AH→Prop} (h:UH G f first cap I) {a:List Ev} {R:Nat→Prop} {H H':AH} (i:I a R H) (X:Ext H H'):I a R H':=h.mod i (Mod.bU (S:=fun _=>False) X) (by simp)
def F5 (l:List Int):List Value:=[.int .i64 (et l 0),.int .i64 (et l 1),.int .i64 (et l 2)]
theorem p9 {w:Int} {V:List Vr} {S:List (List Int)}:∀(l:List bY) (i:Nat),bP w V S (l.take i)=(bP w V S l).take i
 |[],i=>by simp [bP]
 |e::es,0=>by simp [bP]
 |e::es,i+1=>by simp [bP,p9 es i]
theorem F6 {w:Int} {V:List Vr} {S:List (List Int)} {l:List bY} {i:Nat} {y:bY} (e:l.length≤3) (d:l[i]?=some y):aM (F5 (bP w V S (l.take i))) i [.int .i64 (aZ w V S y)]=F5 (bP w V S (l.take (i+1))):=by
 match l,i,e,d with
 |[a],0,_,d=>simp at d;subst d;rfl
 |[a,b],0,_,d=>simp at d;subst d;rfl
 |[a,b],1,_,d=>simp at d;subst d;rfl
 |[a,b,c],0,_,d=>simp at d;subst d;rfl
 |[a,b,c],1,_,d=>simp at d;subst d;rfl
 |[a,b,c],2,_,d=>simp at d;subst d;rfl
theorem F8 {G:AH} {w:Int} {vv vS:Value} {V:List Vr} {S:List (List Int)} {f:Nat} {first cap:Array Value} {I:List Ev→(Nat→Prop)→AH→Prop} (hV:aC w V=true) (hS:CZ w V S) (hv:dy G vv V) (il:F3 vv) (iS:ew G vS S) (Y:UH G f first cap I):
 ∀(N:Nat) (e:bY) (c:List Value) (H:AH) (J:List Ev) (R:Nat→Prop),SizeOf.sizeOf e<N→H.n0≤H.nx→Sub G H→I J R H→(∀b,R b→G.get b=none)→nm G c e→dA w V S.length e=true→(J.length:Int)+aB e≤2^40→
 Ca E O 119 [.agg #[.int .i64 w,vv,.int .i64 S.length],vS,.agg c.toArray,.func (.func f) first cap] H (fun x H'=>x= .int .i64 (aZ w V S e)∧∃T,I (J++mN w V S e) T H'∧Mod R H H'∧∀b,T b→R b∨H.nx≤b):=by
 have eh:1≤w∧w≤8:=⟨(aF hV).1,(aF hV).2.1⟩
 have hp:=iV eh;have hVl:=(aF hV).2.2.2;intro N
 induction N with
 |zero=>intro e c H J R h;omega
 |succ N ih=>
  intro e c H J R hN Q X hI Ma he hf mr
  cases he with| @mk op n cp va rows args i1 i2 i3 hlen hr hl=>
  refine Ca.aJ (F:=I9) rfl rfl rfl ?_;obtain ⟨aH,hc⟩:=lg eh hf
  have OD:args.length≤3:=by
   rcases hc with⟨_,rfl,_⟩|⟨_,_,_,_,_,⟨rfl,_⟩|⟨⟨a,rfl⟩,_⟩⟩|⟨_,a,rfl⟩|⟨_,a,b,c,rfl⟩|⟨_,a,b,rfl⟩<;>simp
  have wd:∀y∈args,0≤aZ w V S y∧aZ w V S y<2^w.toNat:=fun y B=>iv hV hS y (aH y B)
  rw [aB]at mr;obtain ⟨p0,c0,fO⟩:=hr.len;rw [hl.length]at fO;have g1:=cx H (.cells 3 [.int .i64 w,vv,.int .i64 S.length]);have X1:=Ext.alloc H (.cells 3 [.int .i64 w,vv,.int .i64 S.length]);have d0:(H.alloc (.cells 3 [.int .i64 w,vv,.int .i64 S.length])).ld ⟨H.nx,0,none⟩=some (.int .i64 w):=ai Q rfl;have d1:(H.alloc (.cells 3 [.int .i64 w,vv,.int .i64 S.length])).ld ⟨H.nx,1,none⟩=some vv:=ai Q rfl;have d2:(H.alloc (.cells 3 [.int .i64 w,vv,.int .i64 S.length])).ld ⟨H.nx,2,none⟩=some (.int .i64 S.length):=ai Q rfl;have d:(H.alloc (.cells 3 [.int .i64 w,vv,.int .i64 S.length])).ldn ⟨H.nx,0,none⟩ 3=some [.int .i64 w,vv,.int .i64 S.length]:=bj Q 3 rfl;generalize cA:H.alloc (.cells 3 [.int .i64 w,vv,.int .i64 S.length])=t at X1 d0 d1 d2 d;have bD:=X1.wf Q;rw [cA]at g1;have g2:=cx t (.cells 4 [.int .i64 op,.int .i64 n,.int .i64 cp,va]);have nE1:t.nx=H.nx+1:=by rw [←cA];rfl
  have X2:=Ext.alloc t (.cells 4 [.int .i64 op,.int .i64 n,.int .i64 cp,va]);have A:(t.alloc (.cells 4 [.int .i64 op,.int .i64 n,.int .i64 cp,va])).ld ⟨t.nx,0,none⟩=some (.int .i64 op):=ai bD rfl;have e1:(t.alloc (.cells 4 [.int .i64 op,.int .i64 n,.int .i64 cp,va])).ld ⟨t.nx,1,none⟩=some (.int .i64 n):=ai bD rfl;have e2:(t.alloc (.cells 4 [.int .i64 op,.int .i64 n,.int .i64 cp,va])).ld ⟨t.nx,2,none⟩=some (.int .i64 cp):=ai bD rfl;have e3:(t.alloc (.cells 4 [.int .i64 op,.int .i64 n,.int .i64 cp,va])).ld ⟨t.nx,3,none⟩=some va:=ai bD rfl;have e:(t.alloc (.cells 4 [.int .i64 op,.int .i64 n,.int .i64 cp,va])).ldn ⟨t.nx,0,none⟩ 4=some [.int .i64 op,.int .i64 n,.int .i64 cp,va]:=bj bD 4 rfl;generalize iE:t.alloc (.cells 4 [.int .i64 op,.int .i64 n,.int .i64 cp,va])=H2 at X2 A e1 e2 e3 e;have jL:=X2.wf bD;rw [iE]at g2;have nE2:H2.nx=H.nx+2:=by rw [←iE];show t.nx+1=_;omega
  have X3:=Ext.alloc H2 (.cells 3 [.int .i64 0,.int .i64 0,.int .i64 0]);have g3:=cx H2 (.cells 3 [.int .i64 0,.int .i64 0,.int .i64 0])
  obtain ⟨H3,OO⟩:∃H3,H2.alloc (.cells 3 [.int .i64 0,.int .i64 0,.int .i64 0])=H3:=⟨_,rfl⟩
  rw [OO]at X3 g3;have nE3:H3.nx=H.nx+3:=by rw [←OO];show H2.nx+1=_;omega
  have D3:=X3.ld e3;rw [fO]at D3;have gM:=X1.trans (X2.trans X3);have g1':=X3.get (X2.get g1);have YR:=X3.get g2;rw [nE1]at YR D3;rw [nE2]at g3;have UI:=Y.lt hI;simp (maxSteps:=9^7)-implicitDefEqProofs+contextual [-X.ev,I9,cA,iE,OO,nE1,nE2,D3]
  refine bZ (fun k C H'=>Mod R H H'∧H3.nx≤H'.nx∧H'.get H.nx=some (.cells 3 [.int .i64 w,vv,.int .i64 S.length])∧H'.get (H.nx+1)=some (.cells 4 [.int .i64 op,.int .i64 n,.int .i64 cp,va])∧∃(i:Nat) (T:Nat→Prop),i+k=args.length∧H'.get (H.nx+2)=some (.cells 3 (F5 (bP w V S (args.take i))))∧I (J++iX w V S (args.take i)) T H'∧(∀b,T b→R b∨H3.nx≤b)∧
   C.get 1=vS∧C.get 3= .func (.func f) first cap∧C.get 4= .pointer (some ⟨H.nx,0,none⟩)∧C.get 6= .pointer (some ⟨H.nx+1,0,none⟩)∧C.get 9= .pointer (some ⟨H.nx+2,0,none⟩)∧C.get 18=va∧C.get 19= .int .i64 args.length∧C.get 20= .int .i64 i) ?_ args.length ⟨Mod.bU gM,apK _,g1',YR,0,R,by simp,by simpa [bP,F5,et]using g3,by simpa [iX]using Y.ext hI gM,fun b p=>.inl p,by simp,by simp,by simp,by simp,by simp,by simp [fO],by simp,by simp⟩
  rintro k C H4 ⟨M4,yy,k1,k2,i,R4,hi,k3,YS,Z,f1,f3,f4,D,f9,f18,f19,f20⟩;have W:=M4.wf Q;have nN:=M4.n0;have K:Sub G H4:=X.mod M4 Ma;have Gnx:=X.nx
  have O1:∀b,R4 b→G.get b=none:=fun b p=>by
   rcases Z b p with h|h
   ·exact Ma b h
   ·exact AH.iF (by omega)
  have O2:∀b,R4 b→b<H.nx∨H.nx+3≤b:=fun b p=>by
   rcases Z b p with h|h
   ·exact .inl (UI b h)
   ·omega
  have tl:=mq (w:=w) (V:=V) (S:=S) args i;by_cases h:i<args.length
  ·obtain ⟨y,B⟩:∃y,args[i]?=some y:=⟨_,apG h⟩
   have t1:=eJ B;have t2:=bo args (i+1);have jG:=gA (op:=op) (n:=n) (cp:=cp) B;obtain ⟨b,o,c',vy,r,b9,bK,rfl,km⟩:=gj.row (hr.sub K) (gj.sub K hl) B;obtain ⟨b',o',Du,YT,r',UJ,UK,rfl,adf⟩:=gj.row hr hl B;rw [b9]at UJ;cases UJ
   have hvy:YT=vy:=by
    have:=K.ldn UK;rw [bK]at this;cases this;rfl
   subst hvy;have O3:=f18;rw [b9]at O3;obtain ⟨H5,sH5,g,alS,alT,q,UL⟩:=fg (H:=H4) W (z:=4) (c:=[.int .i64 0,.int .i64 0,.int .i64 0,.slice none 0 0]) (vs:=[.int .i64 y.op,.int .i64 y.n,.int .i64 y.cp,YT]) rfl;have q0:H5.ld ⟨H4.nx,0,none⟩=some (.int .i64 y.op):=UL 0 _ rfl;have q1:H5.ld ⟨H4.nx,1,none⟩=some (.int .i64 y.n):=UL 1 _ rfl;have q2:H5.ld ⟨H4.nx,2,none⟩=some (.int .i64 y.cp):=UL 2 _ rfl;have q3:H5.ld ⟨H4.nx,3,none⟩=some YT:=UL 3 _ rfl;clear UL;replace q:H5.ldn ⟨H4.nx,0,none⟩ 4=some [.int .i64 y.op,.int .i64 y.n,.int .i64 y.cp,YT]:=q;have UM:=g.wf W;have kk1:=g.get k1;have l1:H5.ldn ⟨H.nx,0,none⟩ 3=some [.int .i64 w,vv,.int .i64 S.length]:=by rw [bM kk1 (by rw [g.n0,nN];exact Q) (by simp)];rfl
   have n5:=g.nx
   have evl:((J++iX w V S (args.take i)).length:Int)+aB y≤2^40:=by
    have u:=bo args i;have u2:=jl (w:=w) (V:=V) (S:=S) (l:=args.take i) (fun e _=>dV e);rw [apP];omega
   simp (maxSteps:=9^7)-implicitDefEqProofs+contextual [-X.ev,f1,f3,f4,O3,f19,f20,h,bK,sH5,q,l1];apply ah
   ·(simp-implicitDefEqProofs [-X.ev];rfl)
   refine (ih y _ H5 _ R4 (by omega) UM (K.JZ g) (Y.ext YS g) O1 adf (aH y (apL B)) evl).mono ?_;rintro x H6 ⟨rfl,R6,hI6,M6,YU⟩;have A0:=M6.wf UM;have n6:=M6.nx;have P:∀j,j<3→¬ R4 (H.nx+j):=fun j hj q=>by have:=O2 _ q;omega
   have j1:=M6.get (P 0 (by omega)) kk1;have j2:=M6.get (P 1 (by omega)) (g.get k2);have j3:=M6.get (P 2 (by omega)) (g.get k3);have Ka:H6.n0=H.n0:=M6.n0.trans (g.n0.trans nN);obtain ⟨H7,s7,M7,YJ,CU,g7⟩:=bV j3 (by rw [Ka];omega) (k:=i) (vs:=[.int .i64 (aZ w V S y)]) (by simp [F5];omega);rw [F6 OD B]at g7;have hi3:(i:Int)<3:=by omega
   simp (maxSteps:=9^7)-implicitDefEqProofs+contextual [-X.ev,f1,f3,f4,f9,O3,f19,f20,s7,hi3];rw [aj (n:=(i:Int)+1) ⟨by omega,by omega⟩];refine ⟨k- 1,by omega,((M4.trans (Mod.bU g)).then M6 (fun b p q=>?_)).then M7 (fun b p q=>by omega),by omega,M7.get (by omega) j1,M7.get (by omega) j2,i+1,by omega,g7,R6,?_,fun b p=>?_,D,b9.symm,by simp⟩
   ·rcases Z b q with h|h
    ·exact h
    ·omega
   ·rw [mn B,←ap5]
    exact Y.mod hI6 M7 (fun b p q=>by
     rcases YU b q with h|h
     ·have:=O2 b h;omega
     ·omega)
   ·rcases YU b p with h|h
    ·exact Z b h
    ·right;omega
  have hti:args.take i=args:=apN (by omega);rw [hti]at k3 YS;have B0:H4.n0≤H.nx:=by rw [nN];exact Q
  have u0:=aI k1 B0 (k:=0) (v:=.int .i64 w) rfl;have u1:=aI k1 B0 (k:=1) (v:=vv) rfl;have un:H4.ldn ⟨H.nx,0,none⟩ 3=some [.int .i64 w,vv,.int .i64 S.length]:=by rw [bM k1 B0 (by simp)];rfl
  have M:=aI k2 (by omega) (k:=0) (v:=.int .i64 op) rfl;have v1:=aI k2 (by omega) (k:=1) (v:=.int .i64 n) rfl;have v2:=aI k2 (by omega) (k:=2) (v:=.int .i64 cp) rfl;have v3:=aI k2 (by omega) (k:=3) (v:=va) rfl;have L:=aI k3 (by omega) (k:=0) (v:=.int .i64 (et (bP w V S args) 0)) rfl;have x1:=aI k3 (by omega) (k:=1) (v:=.int .i64 (et (bP w V S args) 1)) rfl;have x2:=aI k3 (by omega) (k:=2) (v:=.int .i64 (et (bP w V S args) 2)) rfl;rw [fO]at f18 v3
  have fin:∀{H':AH},(¬ (op=1∧args≠[]))→Ext H4 H'→∃T,I (J++mN w V S (.mk op n cp args)) T H'∧Mod R H H'∧∀b,T b→R b∨H.nx≤b:=fun tz XX=>by
   refine ⟨R4,?_,M4.trans (Mod.bU XX),fun b p=>(Z b p).imp id (fun q=>by omega)⟩;rw [mN,if_neg tz,List.append_nil];exact Y.ext YS XX
  rcases hc with⟨rfl,rfl,h1,h2⟩|⟨rfl,h1,h2,h3,h4,fV⟩|⟨rfl,y0,rfl⟩|⟨rfl,y0,y1,y2,rfl⟩|⟨ho,y0,y1,rfl⟩
  ·have:=fin (H':=H4) (by omega) (Ext.refl _)
   have m:¬ (i:Int)<0:=by omega
   simp (maxSteps:=9^7)-implicitDefEqProofs+contextual [-X.ev,f18,f19,f20,m,D,M,v1,aZ];exact this
  ·obtain ⟨s,Kd⟩:∃s,S[cp.toNat]?=some s:=⟨_,apG (by omega)⟩
   have adg:=hS s (apL Kd);have Ut:storeAt S cp=s:=by simp [storeAt,Kd]
   have mm:=mO hV ⟨h1,h2⟩ (et (bP w V S args) 0);obtain ⟨x,hx,D7,Ar,xC⟩:=iu eh adg (i:=bq V n+et (bP w V S args) 0%ak V n) (by omega)
   have m:bq V n+et (bP w V S args) 0%ak V n<(s.length:Int):=by
    have:=(apM.1 hx).1;omega
   have RJ:cp<S.length:=by omega
   rcases fV with⟨rfl,RI⟩|⟨⟨y,rfl⟩,RI⟩
   ·have qH:¬ (i:Int)<0:=by omega
    obtain ⟨b,o,c',a',Du,nG,dP,CT⟩:=(iS.sub K).at Kd;obtain ⟨b3,o3,c3,Dt,qM⟩:=CT.at hx;cases Dt;have A:et (bP w V S []) 0=0:=rfl;rw [A]at mm m qM xC;simp only [Int.zero_emod,Int.add_zero]at mm m qM xC;have UN:=aV.1 v2;have HN:=aV.1 dP;have ww:IntKind.i64.wrap (bq V n)=bq V n:=aj ⟨by omega,by omega⟩
    have sg:aZ w V S (.mk 1 n cp [])=x:=by
     rw [aZ,if_neg (by omega),if_pos rfl,Ut,A,Int.zero_emod,Int.add_zero,xC]
    rw [nG]at f1;simp (maxSteps:=9^7)-implicitDefEqProofs+contextual [-X.ev,f1,f18,f19,f20,qH,f4,D,M,v1,v2,v3,un,dP,h3,RJ];apply ah
    ·(simp-implicitDefEqProofs [-X.ev];rfl)
    refine (tX W (dy.sub K hv) il (by omega) ⟨h1,h2⟩).mono ?_;rintro x' H5 ⟨rfl,g⟩;have g1:0≤bq V n:=by omega
    have adh:=fin (H':=H5) (by simp) g;have adi:=g.ld qM;have adj:=g.ldn UN;have HN5:=g.ldn HN;have Mg:=g.nx;have Ik:=g.n0;simp (maxSteps:=9^7)-implicitDefEqProofs+contextual [-X.ev,ww,aN,aD,aE,UN,HN,adj,HN5,g1,m,adi,sg,Mg,Ik];exact adh
   ·have qH:¬ (i:Int)<1:=by simp at h;omega
    obtain ⟨yv,zI⟩:∃yv,V[n.toNat]?=some yv:=⟨_,apG (by omega)⟩
    have zF:ak V n=yv.cells:=by simp [ak,zI]
    obtain ⟨b,o,c',lD,_,_,_,zL⟩:=(dy.sub K hv).at zI;have Ij:=wd y (by simp);have A:et (bP w V S [y]) 0=aZ w V S y:=rfl;rw [A]at mm m hx xC L;rw [zF]at mm m hx xC RI;have rn:=gG (b:=yv.cells) Ij.1;rw [if_neg (by omega)]at rn;have u1':=u1;rw [lD]at u1'
    have bd:((J++iX w V S [y]).length:Int)<2^40:=by
     have u2:=jl (w:=w) (V:=V) (S:=S) (l:=[y]) (fun e _=>dV e);rw [apP];omega
    simp (maxSteps:=9^7)-implicitDefEqProofs+contextual [-X.ev,f18,f19,f20,qH,f3,f4,D,f9,M,v1,v3,L,u1',h1,h2,zL,rn,aN,aD,aE];apply pV
    ·(simp-implicitDefEqProofs [-X.ev,-Value.func.injEq,f3];rfl)
    ·(simp-implicitDefEqProofs [-X.ev,f3];rfl)
    refine (Y.call (n:=n) (i:=aZ w V S y%yv.cells) W YS K O1 (by omega)).mono ?_;rintro x' H5 ⟨R5,hI5,U,hR5⟩;have rk:=U.wf W;have SG5:Sub G H5:=K.mod U O1;have P:∀j,j<3→¬ R4 (H.nx+j):=fun j hj q=>by have:=O2 _ q;omega
    have vv1:=U.ld (P 1 (by omega)) v1;have vv2:=U.ld (P 1 (by omega)) v2;have vv0:=U.ld (P 1 (by omega)) M;have unn:=U.ldn (P 0 (by omega)) un;obtain ⟨b5,o5,c5,a',Du,nG,dP,CT⟩:=(iS.sub SG5).at Kd;obtain ⟨b3,o3,c3,Dt,qM⟩:=CT.at hx;cases Dt;have UN:=aV.1 vv2;have HN:=aV.1 dP;have ww:IntKind.i64.wrap (bq V n+aZ w V S y%yv.cells)=bq V n+aZ w V S y%yv.cells:=aj ⟨by omega,by omega⟩
    have sg:aZ w V S (.mk 1 n cp [y])=x:=by
     rw [aZ,if_neg (by omega),if_pos rfl,Ut,A,zF,xC]
    have adk:mN w V S (.mk 1 n cp [y])=iX w V S [y]++[⟨1,n,aZ w V S y%yv.cells⟩]:=by rw [mN,if_pos ⟨rfl,by simp⟩,A,zF]
    rw [nG]at f1;simp (maxSteps:=9^7)-implicitDefEqProofs+contextual [-X.ev,f1,f4,D,vv0,vv1,vv2,unn,dP,h3,RJ];apply ah
    ·(simp-implicitDefEqProofs [-X.ev];rfl)
    refine (tX rk (dy.sub SG5 hv) il (by omega) ⟨h1,h2⟩).mono ?_;rintro x' H6 ⟨rfl,X6⟩;have g1:0≤bq V n+aZ w V S y%yv.cells:=by omega
    have adl:=X6.ld qM;have ado:=X6.ldn UN;have HN6:=X6.ldn HN;have YV:=X6.nx;have UO:=X6.n0;have L3:=U.nx;simp (maxSteps:=9^7)-implicitDefEqProofs+contextual [-X.ev,ww,aN,aD,aE,UN,HN,ado,HN6,g1,m,adl,sg,YV,UO];rw [adk,←ap5];refine ⟨R5,Y.ext hI5 X6,(M4.then U (fun b p q=>?_)).trans (Mod.bU X6),fun b p=>?_⟩
    ·rcases Z b q with h|h
     ·exact h
     ·omega
    ·rcases hR5 b p with h|h
     ·exact (Z b h).imp id (fun q=>by omega)
     ·right;omega
  ·have Ij:=wd y0 (by simp)
   have A:et (bP w V S [y0]) 0=aZ w V S y0:=rfl;rw [A]at L;have m:¬ (i:Int)<1:=by simp at h;omega
   simp (maxSteps:=9^7)-implicitDefEqProofs+contextual [-X.ev,f18,f19,f20,m,D,f4,f9,M,u0,L];apply ah
   ·(simp-implicitDefEqProofs [-X.ev];rfl)
   refine (J8 W eh Ij).mono ?_;rintro x H5 ⟨rfl,g⟩;have:=fin (H':=H5) (by omega) g;simp (maxSteps:=9^7)-implicitDefEqProofs+contextual [-X.ev];refine ⟨?_,this⟩;rw [aZ,if_neg (by omega),if_neg (by omega),if_pos rfl];rfl
  ·have:=fin (H':=H4) (by omega) (Ext.refl _)
   have m:¬ (i:Int)<3:=by simp at h;omega
   by_cases q:et (bP w V S [y0,y1,y2]) 0=0
   ·simp (maxSteps:=9^7)-implicitDefEqProofs+contextual [-X.ev,f18,f19,f20,m,D,f9,M,L,x2,q]
    refine ⟨?_,this⟩;rw [aZ,if_neg (by omega),if_neg (by omega),if_neg (by omega),if_pos rfl,if_pos q]
   ·simp (maxSteps:=9^7)-implicitDefEqProofs+contextual [-X.ev,f18,f19,f20,m,D,f9,M,L,x1,q]
    refine ⟨?_,this⟩;rw [aZ,if_neg (by omega),if_neg (by omega),if_neg (by omega),if_pos rfl,if_neg q]
  ·have m0:¬ op=0:=by omega
   have m1:¬ op=1:=by omega
   have m12:¬ op=12:=by omega
   have m15:¬ op=15:=by omega
   have A:et (bP w V S [y0,y1]) 0=aZ w V S y0:=rfl;have e1:et (bP w V S [y0,y1]) 1=aZ w V S y1:=rfl;rw [A]at L;rw [e1]at x1;have m:¬ (i:Int)<2:=by simp at h;omega
   simp (maxSteps:=9^7)-implicitDefEqProofs+contextual [-X.ev,f18,f19,f20,m,D,f4,f9,M,u0,L,x1,m0,m1,m12,m15];apply ah
   ·(simp-implicitDefEqProofs [-X.ev];rfl)
   refine (OG W ho eh (wd y0 (by simp)) (wd y1 (by simp))).mono ?_;rintro x H5 ⟨rfl,g⟩;have:=fin (H':=H5) (by omega) g;simp (maxSteps:=9^7)-implicitDefEqProofs+contextual [-X.ev];refine ⟨?_,this⟩;rw [aZ,if_neg m0,if_neg m1,if_neg m12,if_neg m15,A,e1]
end
section
open Go
structure MV where
 vf:Value
 w:Int
 vv:Value
 vb:Value
 fuel:Int
 vp:Value
 en:Int
 vs:Value
 vo:Value
 vt:Value
 cost:Int
 used:Int
 wh:Int
 ended:Bool
abbrev MV.rest (v:MV):List Value:=[.int .i64 v.w,v.vv,v.vb,.int .i64 v.fuel,v.vp,.int .i64 v.en,v.vs,v.vo,v.vt,.int .i64 v.cost,.int .i64 v.used,.int .i64 v.wh,.bool v.ended]
abbrev MV.cells (v:MV):List Value:=v.vf::v.rest
def zM (o:Int×Int):List Value:=[.int .i64 o.1,.int .i64 o.2]
def dw (l:List (Int×Int)):List (List Value):=l.map zM
theorem sN (l m:List (Int×Int)):dw (l++m)=dw l++dw m:=by simp [dw]
theorem gH (l:List (Int×Int)):(dw l).length=l.length:=by simp [dw]
def Mf (m:Nat) (v:MV) (b:Nat):Prop:=b=m∨aU v.vf b∨aU v.vs b∨aU v.vo b∨aU v.vt b
structure MH (G H:AH) (m:Nat) (v:MV) (rows:List (List Value)) (store:List Int) (outs:List (Int×Int)) (trace:List Ev):Prop where
 get:H.get m=some (.cells 14 v.cells)
 n0:H.n0≤m
 sub:Sub G H
 wf:H.n0≤H.nx
 fr:fU H 2 v.vf rows
 st:da H 1 v.vs (bC store)
 ou:da H 2 v.vo (dw outs)
 tr:da H 3 v.vt (cU trace)
 d1:¬ aU v.vf m∧¬ aU v.vs m∧¬ aU v.vo m∧¬ aU v.vt m
 d2:∀b,aU v.vf b→¬ aU v.vs b∧¬ aU v.vo b∧¬ aU v.vt b
 d3:∀b,aU v.vs b→¬ aU v.vo b∧¬ aU v.vt b
 d4:∀b,aU v.vo b→¬ aU v.vt b
 out:∀b,Mf m v b→G.get b=none
theorem MH.lt {G H:AH} {m:Nat} {v:MV} {rows:List (List Value)} {store:List Int} {outs:List (Int×Int)} {trace:List Ev} (h:MH G H m v rows store outs trace) {b:Nat} (a:Mf m v b):b<H.nx:=by
 rcases a with rfl|a|a|a|a
 ·exact AH.bk h.get
 ·exact h.fr.lt a
 ·exact h.st.lt a
 ·exact h.ou.lt a
 ·exact h.tr.lt a
theorem MH.mod {G H H':AH} {m:Nat} {v:MV} {rows:List (List Value)} {store:List Int} {outs:List (Int×Int)} {trace:List Ev} {T:Nat→Prop} (h:MH G H m v rows store outs trace) (M:Mod T H H') (c:∀b,T b→¬ Mf m v b) (d:∀b,T b→G.get b=none):MH G H' m v rows store outs trace where
 get:=M.get (fun q=>c m q (.inl rfl)) h.get
 n0:=by rw [M.n0];exact h.n0
 sub:=h.sub.mod M d
 wf:=M.wf h.wf
 fr:=h.fr.mod M fun b a q=>c b q (.inr (.inl a))
 st:=h.st.mod M fun b a q=>c b q (.inr (.inr (.inl a)))
 ou:=h.ou.mod M fun b a q=>c b q (.inr (.inr (.inr (.inl a))))
 tr:=h.tr.mod M fun b a q=>c b q (.inr (.inr (.inr (.inr a))))
 d1:=h.d1
 d2:=h.d2
 d3:=h.d3
 d4:=h.d4
 out:=h.out
theorem MH.ext {G H H':AH} {m:Nat} {v:MV} {rows:List (List Value)} {store:List Int} {outs:List (Int×Int)} {trace:List Ev} (h:MH G H m v rows store outs trace) (X:Ext H H'):MH G H' m v rows store outs trace:=h.mod (Mod.bU (S:=fun _=>False) X) (by simp) (by simp)
theorem MH.vB {G H H':AH} {m:Nat} {v:MV} {rows:List (List Value)} {store:List Int} {outs:List (Int×Int)} {trace d:List Ev} {vt:Value} {cost:Int} (h:MH G H m v rows store outs trace) (M:Mod (fun b=>b=m∨aU v.vt b) H H') (g:H'.get m=some (.cells 14 ({v with vt:=vt,cost:=cost}:MV).cells)) (o:da H' 3 vt (cU d)) (c:∀b,aU vt b→aU v.vt b∨H.nx≤b):MH G H' m {v with vt:=vt,cost:=cost} rows store outs d where
 get:=g
 n0:=by rw [M.n0];exact h.n0
 sub:=h.sub.mod M fun b a=>h.out b (by rcases a with q|q;exact .inl q;exact .inr (.inr (.inr (.inr q))))
 wf:=M.wf h.wf
 fr:=h.fr.mod M fun b a q=>by rcases q with rfl|q;exact h.d1.1 a;exact (h.d2 b a).2.2 q
 st:=h.st.mod M fun b a q=>by rcases q with rfl|q;exact h.d1.2.1 a;exact (h.d3 b a).2 q
 ou:=h.ou.mod M fun b a q=>by rcases q with rfl|q;exact h.d1.2.2.1 a;exact h.d4 b a q
 tr:=o
 d1:=⟨h.d1.1,h.d1.2.1,h.d1.2.2.1,fun q=>by rcases c m q with q|q;exact h.d1.2.2.2 q;have:=h.lt (.inl rfl);omega⟩
 d2:=fun b a=>⟨(h.d2 b a).1,(h.d2 b a).2.1,fun q=>by rcases c b q with q|q;exact (h.d2 b a).2.2 q;have:=h.lt (.inr (.inl a));omega⟩
 d3:=fun b a=>⟨(h.d3 b a).1,fun q=>by rcases c b q with q|q;exact (h.d3 b a).2 q;have:=h.lt (.inr (.inr (.inl a)));omega⟩
 d4:=fun b a q=>by rcases c b q with q|q;exact h.d4 b a q;have:=h.lt (.inr (.inr (.inr (.inl a))));omega
 out:=fun b a=>by
  rcases a with q|q|q|q|q
  ·exact h.out b (.inl q)
  ·exact h.out b (.inr (.inl q))
  ·exact h.out b (.inr (.inr (.inl q)))
  ·exact h.out b (.inr (.inr (.inr (.inl q))))
  ·rcases c b q with q|q
   ·exact h.out b (.inr (.inr (.inr (.inr q))))
   ·exact AH.iF (ap2 h.sub.nx q)
theorem tell {H:AH} {m:Nat} {v:MV} {trace:List Ev} (e:Ev) (F:H.n0≤H.nx) (g:H.get m=some (.cells 14 v.cells)) (J:H.n0≤m) (o:da H 3 v.vt (cU trace)) (G:¬ aU v.vt m) (s:trace.length≤2^41):
 ∃H1 a c H2 d,pU 1 3 [.int .i64 0,.int .i64 0,.int .i64 0] H [(0,3,.agg #[.int .i64 e.kind,.int .i64 e.at_,.int .i64 e.val])]=some (.slice (some ⟨H.nx,0,none⟩) 1 1,H1)∧bL 3 24 H1 v.vt (.slice (some ⟨H.nx,0,none⟩) 1 1)=some (.slice a (trace.length+1) c,H2)∧H2.st ⟨m,9,none⟩ [.slice a (trace.length+1) c]=some d∧
  d.get m=some (.cells 14 ({v with vt:=.slice a (trace.length+1) c}:MV).cells)∧da d 3 (.slice a (trace.length+1) c) (cU (trace++[e]))∧Mod (fun b=>b=m∨aU v.vt b) H d∧(∀b,aU (.slice a (trace.length+1) c) b→H.nx≤b)∧H1.n0=H.n0∧H.nx≤H1.nx∧Ext H H1∧H2.n0=H.n0∧H1.nx≤H2.nx∧d.n0=H.n0∧d.nx=H2.nx∧Mod (aU v.vt) H H2:=by
 have i:=mZ (sz:=3) (z:=[.int .i64 0,.int .i64 0,.int .i64 0]) (H:=H) (v:=.agg #[.int .i64 e.kind,.int .i64 e.at_,.int .i64 e.val]) rfl rfl rfl;simp only [dM]at i;have X:=Ext.alloc H (.cells 3 [.int .i64 e.kind,.int .i64 e.at_,.int .i64 e.val])
 obtain ⟨H1,t⟩:∃H1,H.alloc (.cells 3 [.int .i64 e.kind,.int .i64 e.at_,.int .i64 e.val])=H1:=⟨_,rfl⟩
 obtain ⟨M,H2,I,l,j,n,f,N,w,E,C,B⟩:=gF (bytes:=24) F o (r:=[.int .i64 e.kind,.int .i64 e.at_,.int .i64 e.val]) rfl t (by rw [cF];omega) (by rw [cF];omega);rw [t]at i X;obtain ⟨a,c,p⟩:=l.shape;rw [apP,List.length_singleton,cF]at p;subst p;have L:=j.get G g;obtain ⟨d,y,u,A,D,K⟩:=bV L (by rw [f];exact J) (k:=9) (vs:=[.slice a (trace.length+1) c]) (by simp);refine ⟨H1,a,c,H2,d,i,I,y,K,?_,(j.mono fun x _ h=>.inr h).trans (u.mono fun x _ h=>.inl h),n,E,C,X,f,B,D.trans f,A,j⟩;rw [kb];exact l.mod u fun b s q=>by have:=n b s;have:=AH.bk g;omega
def UQ (m:Nat) (v:MV) (YW:List Ev) (nO:List Ev) (R:Nat→Prop) (H:AH):Prop:=∃vt,R=(fun b=>b=m∨aU vt b)∧H.get m=some (.cells 14 ({v with vt:=vt}:MV).cells)∧H.n0≤m∧da H 3 vt (cU (YW++nO))∧¬ aU vt m
theorem O4 {G:AH} {m B:Nat} {v:MV} {r:List Ev} (C:G.ld ⟨B,0,none⟩=some (.pointer (some ⟨m,0,none⟩))) (y:r.length≤2^40):UH G 102 #[] #[.pointer (some ⟨B,0,none⟩)] (UQ m v r)where
 call:=by
  rintro E R H n i P ⟨vt,rfl,g,e,o,h⟩ X S hl;refine Ca.aJ (F:=IW) rfl rfl rfl ?_;have w:=X.ld C;obtain ⟨Z,a,c,Y,H3,d,z,x,D,s,V,p,N,K,U,L,t,u,I,W⟩:=tell (v:={v with vt:=vt}) ⟨1,n,i⟩ P g e o h (by rw [apP];omega);simp only [apP]at z x D s p;have j:=(X.mod W (fun b d=>S b (.inr d))).ldn (aV.1 C);have J:Z.nx≤Y.nx:=t;have O:=aI g e (k:=9) (v:=vt) rfl;have Q:eM [.int .i64 0,.int .i64 0,.int .i64 0] [(0,1,.int .i64 1),(1,1,.int .i64 n),(2,1,.int .i64 i)]=some (.agg #[.int .i64 1,.int .i64 n,.int .i64 i]):=rfl;have f:=aV.1 w;have l:=U.ldn f;simp (maxSteps:=9^7)-implicitDefEqProofs+contextual [-X.ev,IW,w,O,Q,d,z,x,f,l,j,N,K,L,t,u,I,aN,aD,aE];exact ⟨_,⟨_,rfl,D,by rw [u];exact e,by simpa [ap5]using s,fun q=>by have:=p m q;have:=AH.bk g;omega⟩,V,fun b d=>d.imp (fun q=>.inl q) (fun q=>p b q)⟩
 mod:=by
  rintro E R T H H' ⟨vt,rfl,g,e,o,h⟩ M A;exact ⟨vt,rfl,M.get (fun q=>A m q (.inl rfl)) g,by rw [M.n0];exact e,o.mod M (fun b d q=>A b q (.inr d)),h⟩
 lt:=by
  rintro E R H ⟨vt,rfl,g,e,o,h⟩ b d;rcases d with rfl|d
  ·exact AH.bk g
  ·exact o.lt d
open Go
theorem F9 {G:AH} {w:Int} {h o:Value} {V:List Vr} {S:List (List Int)} {f:Nat} {first cap:Array Value} {I:List Ev→(Nat→Prop)→AH→Prop} (D:aC w V=true) (J:CZ w V S) (A:dy G h V) (u:F3 h) (r:ew G o S) (k:UH G f first cap I)
 {e:bY} {c:List Value} {H:AH} {i:List Ev} {R:Nat→Prop} (p:H.n0≤H.nx) (X:Sub G H) (v:I i R H) (K:∀b,R b→G.get b=none) (t:nm G c e) (B:dA w V S.length e=true) (l:(i.length:Int)+aB e≤2^40):
 Ca E O 101 [.int .i64 w,h,o,.agg c.toArray,.func (.func f) first cap] H (fun x H'=>x= .int .i64 (aZ w V S e)∧∃y,I (i++mN w V S e) y H'∧Mod R H H'∧∀b,y b→R b∨H.nx≤b):=by
 refine Ca.aJ (F:=IV) rfl rfl rfl ?_;obtain ⟨a,Z,j⟩:=r.len;have U:c.length=4:=by cases t;rfl
 have W:=k.lt v;have g:=Ext.alloc H (.cells c.length c);have d:(H.alloc (.cells c.length c)).ldn ⟨H.nx,0,none⟩ 4=some c:=bj p 4 (by assumption);generalize L:H.alloc (.cells c.length c)=P at g d;have z:=g.wf p
 have C:eM [.int .i64 0,.slice none 0 0,.int .i64 0] [(0,1,.int .i64 w),(1,1,h),(2,1,.int .i64 S.length)]=some (.agg #[.int .i64 w,h,.int .i64 S.length]):=by
  obtain ⟨a1,T,Y,rfl,_⟩:=u;rfl
 have s:=F8 D J A u r k _ e c P i R (apV _) z (X.JZ g) (k.ext v g) K t B l;rw [j]at s⊢;simp (maxSteps:=9^7)-implicitDefEqProofs+contextual [-X.ev,IV,L,C,d];apply ah
 ·(simp-implicitDefEqProofs [-X.ev];rfl)
 refine (s).mono ?_;rintro x H2 ⟨rfl,M,n,N,m⟩;have Q:=g.nx;simp (maxSteps:=9^7)-implicitDefEqProofs+contextual [-X.ev];exact ⟨M,n,(Mod.bU g).then N (fun b _ q=>q),fun b l=>(m b l).imp id (fun q=>by omega)⟩
theorem Ga {G H:AH} {R:Nat→Prop} (X:Sub G H) (a:∀b,R b→G.get b=none):Sub G (part H 0 R):=
 ⟨by rw [oP,X.n0],by rw [vz];exact X.nx,fun b x k=>jz.2 ⟨X.get b x k,ap8 _,fun q=>by rw [a b q]at k;cases k⟩⟩
theorem tY {H:AH} {n:Nat} {R:Nat→Prop} {b:Nat} (a:R b):(part H n R).get b=none:=by
 cases h:(part H n R).get b with
 |none=>rfl
 |some x=>exact absurd a (jz.1 h).2.2
theorem kF {G H:AH} {m:Nat} {v:MV} {rows:List (List Value)} {store:List Int} {outs:List (Int×Int)} {trace:List Ev} {V:List Vr} {e:bY} {c:List Value} (h:MH G H m v rows store outs trace) (hV:aC v.w V=true) (hS:ch v.w V store=true) (hv:dy G v.vv V) (il:F3 v.vv) (S:nm G c e) (hf:dA v.w V 1 e=true) (a:(trace.length:Int)+aB e≤2^40) (hc:0≤v.cost∧v.cost+aB e≤2^60):
 Ca E O 76 [.pointer (some ⟨m,0,none⟩),.agg c.toArray] H (fun x H'=>x= .int .i64 (aZ v.w V [store] e)∧∃s,MH G H' m {v with vt:=s,cost:=v.cost+aB e} rows store outs (trace++mN v.w V [store] e)∧Mod (fun b=>b=m∨aU v.vt b) H H'∧∀b,aU s b→aU v.vt b∨H.nx≤b):=by
 refine Ca.aJ (F:=Xv) rfl rfl rfl ?_;have hc4:c.length=4:=by cases S;rfl
 have y:=h.wf;have gB:=cx H (.cells 1 [.pointer (some ⟨m,0,none⟩)]);have K:=Ext.alloc H (.cells 1 [.pointer (some ⟨m,0,none⟩)]);have d0:(H.alloc (.cells 1 [.pointer (some ⟨m,0,none⟩)])).ld ⟨H.nx,0,none⟩=some (.pointer (some ⟨m,0,none⟩)):=ai y rfl;have d:(H.alloc (.cells 1 [.pointer (some ⟨m,0,none⟩)])).ldn ⟨H.nx,0,none⟩ 1=some [.pointer (some ⟨m,0,none⟩)]:=bj y 1 rfl;generalize cA:H.alloc (.cells 1 [.pointer (some ⟨m,0,none⟩)])=C at K d0 d;have bD:=K.wf y;rw [cA]at gB;have p:=Ext.alloc C (.cells c.length c);have q:(C.alloc (.cells c.length c)).ldn ⟨C.nx,0,none⟩ 4=some c:=bj bD 4 (by assumption);generalize iE:C.alloc (.cells c.length c)=H2 at p q;have jL:=p.wf bD;have Y:=K.trans p;have h2:=h.ext Y;have x1:=K.nx;have x2:=p.nx;have pn:=dZ e;have ltm:=h.lt (.inl rfl);have RC:=p.ld d0;have u:=aI h2.get h2.n0 (k:=10) (v:=.int .i64 v.cost) rfl;have dn:=aV.1 RC;have ln:=aV.1 u;simp (maxSteps:=9^7)-implicitDefEqProofs+contextual [-X.ev,Xv,cA,iE,RC,u,q];apply ah
 ·(simp-implicitDefEqProofs [-X.ev];rfl)
 refine (tR _ _ c H2 (apV _) jL (S.sub h2.sub) (by omega)).mono ?_;rintro x H3 ⟨rfl,i⟩;have J:=h2.ext i;have x3:=i.nx;have r:=i.n0;have W:=i.ldn dn;have N:=i.ldn ln;have ww:IntKind.i64.wrap (v.cost+aB e)=v.cost+aB e:=aj ⟨by omega,by omega⟩;obtain ⟨f,s4,B,yy,nN,g4⟩:=bV J.get J.n0 (k:=10) (vs:=[.int .i64 (v.cost+aB e)]) (by simp);have g:MH G f m {v with vt:=v.vt,cost:=v.cost+aB e} rows store outs trace:=J.vB (B.mono fun x _ R=>.inl R) g4 (J.tr.mod B fun b a q=>h.d1.2.2.2 (q▸a)) (fun b a=>.inl a);have mK:=g.wf;have UR:f.n0=H.n0:=nN.trans (r.trans Y.n0);have RK:=B.get (fun q=>by omega) (i.get (p.get gB));have Q:f.ld ⟨H.nx,0,none⟩=some (.pointer (some ⟨m,0,none⟩)):=aI RK (by rw [UR];exact y) rfl;have q4:f.ldn ⟨C.nx,0,none⟩ 4=some c:=B.ldn (fun q=>by simp at q;omega) (i.ldn q);have r1:=aI g.get g.n0 (k:=1) (v:=.int .i64 v.w) rfl;have r2:=aI g.get g.n0 (k:=2) (v:=v.vv) rfl;have Z:=aI g.get g.n0 (k:=7) (v:=v.vs) rfl;obtain ⟨sa,sc,D⟩:=h.st.shape;have I:=mZ (sz:=1) (z:=[.slice none 0 0]) (H:=f) (v:=v.vs) (by rw [D];rfl) (by rw [D];rfl) rfl;have SK:aW v.vs=[v.vs]:=by rw [D];rfl
 rw [SK]at I;have l:=Ext.alloc f (.cells 1 [v.vs]);have g5:=cx f (.cells 1 [v.vs])
 obtain ⟨H5,OP⟩:∃H5,f.alloc (.cells 1 [v.vs])=H5:=⟨_,rfl⟩
 rw [OP]at I l g5;have j:=g.ext l;have x5:=l.nx;have rk:=j.wf;have M:=l.n0
 obtain ⟨o,A⟩:∃o:Nat→Prop,o=(fun b=>b=m∨aU v.vt b):=⟨_,rfl⟩
 have Ma:∀b,o b→G.get b=none:=fun b a=>h.out b (by subst A;rcases a with q|q;exact .inl q;exact .inr (.inr (.inr (.inr q))))
 have UT:∀b,o b→b<H.nx:=fun b a=>h.lt (by subst A;rcases a with q|q;exact .inl q;exact .inr (.inr (.inr (.inr q))))
 have SG:=Ga j.sub Ma;have P:(part H5 0 o).ld ⟨H.nx,0,none⟩=some (.pointer (some ⟨m,0,none⟩)):=aI (jz.2 ⟨l.get RK,ap8 _,fun q=>by have:=UT _ q;omega⟩) (by rw [oP,M,UR];exact y) rfl
 have oS:da H5 1 (.slice (some ⟨f.nx,0,none⟩) 1 1) [[v.vs]]:=⟨.inr ⟨f.nx,rfl,by rw [M];exact mK,g5⟩,by simp⟩
 have sC:ew (part H5 0 o) (.slice (some ⟨f.nx,0,none⟩) 1 1) [store]:=⟨[[v.vs]],(oS.part fun b a=>⟨ap8 _,fun q=>by rw [aS]at a;have:=UT _ q;omega⟩).rows,.cons ⟨v.vs,rfl,(j.st.part fun b a=>⟨ap8 _,fun q=>by
  subst A;rcases q with rfl|q
  ·exact h.d1.2.1 a
  ·exact (h.d3 b a).2 q⟩).ints⟩ .nil⟩
 have hI:UQ m {v with vt:=v.vt,cost:=v.cost+aB e} trace [] o H5:=⟨v.vt,A,j.get,j.n0,by simpa using j.tr,h.d1.2.2.2⟩
 have yB:CZ v.w V [store]:=fun t ht=>by simp at ht;subst ht;exact hS
 have key:=F9 hV yB (dy.sub SG hv) il sC (O4 P (by omega)) rk (Bh _ _ _) hI (fun b a=>tY a) (S.sub SG) hf (by simp;omega);have w1:=aj (n:=v.cost+aB e) ⟨by omega,by omega⟩;rw [D]at Z I;simp (maxSteps:=9^7)-implicitDefEqProofs+contextual [-X.ev,ww,s4,x3,r,yy,nN,dn,W,ln,N,aN,aD,aE,Q,r1,r2,Z,I,l.ldn q4];rw [yy]at key;apply ah
 ·(simp-implicitDefEqProofs [-X.ev];rfl)
 refine (key).mono ?_;rintro x H6 ⟨rfl,R6,⟨s,U,g6,h06,o6,T⟩,L,YU⟩;have x6:=L.nx;have UO:=L.n0;simp (maxSteps:=9^7)-implicitDefEqProofs+contextual [-X.ev,aN,aD,aE,x5,M,x6,UO];subst A
 have fresh:∀b,aU s b→aU v.vt b∨H5.nx≤b:=fun b a=>by
  rcases YU b (by rw [U];exact .inr a)with(q|q)|q
  ·subst q;exact absurd a T
  ·exact .inl q
  ·exact .inr q
 refine ⟨s,j.vB L g6 (by simpa using o6) fresh,?_,fun b a=>(fresh b a).imp id (fun q=>by omega)⟩;exact (((Mod.bU (Y.trans i)).trans (B.mono fun x _ R=>.inl R)).trans (Mod.bU l)).trans L
end
section
open Go
section
variable{G H H':AH} {m:Nat} {v:MV} {rows dJ:List (List Value)} {store:List Int} {outs sP:List (Int×Int)} {trace sO:List Ev}
theorem MH.ads {vf:Value} (h:MH G H m v rows store outs trace) (M:Mod (fun b=>b=m∨aU v.vf b) H H') (g:H'.get m=some (.cells 14 ({v with vf:=vf}:MV).cells)) (o:fU H' 2 vf dJ) (c:∀b,aU vf b→aU v.vf b∨H.nx≤b):MH G H' m {v with vf:=vf} dJ store outs trace where
 get:=g
 n0:=by rw [M.n0];exact h.n0
 sub:=h.sub.mod M fun b a=>h.out b (by rcases a with q|q;exact .inl q;exact .inr (.inl q))
 wf:=M.wf h.wf
 fr:=o
 st:=h.st.mod M fun b a q=>by rcases q with rfl|q;exact h.d1.2.1 a;exact (h.d2 b q).1 a
 ou:=h.ou.mod M fun b a q=>by rcases q with rfl|q;exact h.d1.2.2.1 a;exact (h.d2 b q).2.1 a
 tr:=h.tr.mod M fun b a q=>by rcases q with rfl|q;exact h.d1.2.2.2 a;exact (h.d2 b q).2.2 a
 d1:=⟨fun q=>by rcases c m q with q|q;exact h.d1.1 q;have:=h.lt (.inl rfl);omega,h.d1.2.1,h.d1.2.2.1,h.d1.2.2.2⟩
 d2:=fun b a=>by
  rcases c b a with q|q
  ·exact h.d2 b q
  ·exact ⟨fun k=>by have:=h.lt (.inr (.inr (.inl k)));omega,fun k=>by have:=h.lt (.inr (.inr (.inr (.inl k))));omega,fun k=>by have:=h.lt (.inr (.inr (.inr (.inr k))));omega⟩
 d3:=h.d3
 d4:=h.d4
 out:=fun b a=>by
  rcases a with q|q|q
  ·exact h.out b (.inl q)
  ·rcases c b q with q|q
   ·exact h.out b (.inr (.inl q))
   ·exact AH.iF (ap2 h.sub.nx q)
  ·exact h.out b (.inr (.inr q))
theorem MH.UU {vo:Value} (h:MH G H m v rows store outs trace) (M:Mod (fun b=>b=m∨aU v.vo b) H H') (g:H'.get m=some (.cells 14 ({v with vo:=vo}:MV).cells)) (o:da H' 2 vo (dw sP)) (c:∀b,aU vo b→aU v.vo b∨H.nx≤b):MH G H' m {v with vo:=vo} rows store sP trace where
 get:=g
 n0:=by rw [M.n0];exact h.n0
 sub:=h.sub.mod M fun b a=>h.out b (by rcases a with q|q;exact .inl q;exact .inr (.inr (.inr (.inl q))))
 wf:=M.wf h.wf
 fr:=h.fr.mod M fun b a q=>by rcases q with rfl|q;exact h.d1.1 a;exact (h.d2 b a).2.1 q
 st:=h.st.mod M fun b a q=>by rcases q with rfl|q;exact h.d1.2.1 a;exact (h.d3 b a).1 q
 ou:=o
 tr:=h.tr.mod M fun b a q=>by rcases q with rfl|q;exact h.d1.2.2.2 a;exact h.d4 b q a
 d1:=⟨h.d1.1,h.d1.2.1,fun q=>by rcases c m q with q|q;exact h.d1.2.2.1 q;have:=h.lt (.inl rfl);omega,h.d1.2.2.2⟩
 d2:=fun b a=>⟨(h.d2 b a).1,fun q=>by rcases c b q with q|q;exact (h.d2 b a).2.1 q;have:=h.lt (.inr (.inl a));omega,(h.d2 b a).2.2⟩
 d3:=fun b a=>⟨fun q=>by rcases c b q with q|q;exact (h.d3 b a).1 q;have:=h.lt (.inr (.inr (.inl a)));omega,(h.d3 b a).2⟩
 d4:=fun b a q=>by rcases c b a with k|k;exact h.d4 b k q;have:=h.lt (.inr (.inr (.inr (.inr q))));omega
 out:=fun b a=>by
  rcases a with q|q|q|q|q
  ·exact h.out b (.inl q)
  ·exact h.out b (.inr (.inl q))
  ·exact h.out b (.inr (.inr (.inl q)))
  ·rcases c b q with q|q
   ·exact h.out b (.inr (.inr (.inr (.inl q))))
   ·exact AH.iF (ap2 h.sub.nx q)
  ·exact h.out b (.inr (.inr (.inr (.inr q))))
theorem MH.O5 {v':MV} (h:MH G H m v rows store outs trace) (M:Mod (fun b=>b=m) H H') (g:H'.get m=some (.cells 14 v'.cells)) (f:v'.vf=v.vf) (e:v'.vs=v.vs) (d:v'.vo=v.vo) (c:v'.vt=v.vt):MH G H' m v' rows store outs trace where
 get:=g
 n0:=by rw [M.n0];exact h.n0
 sub:=h.sub.mod M fun b a=>h.out b (.inl a)
 wf:=M.wf h.wf
 fr:=by rw [f];exact h.fr.mod M fun b a q=>h.d1.1 (q▸a)
 st:=by rw [e];exact h.st.mod M fun b a q=>h.d1.2.1 (q▸a)
 ou:=by rw [d];exact h.ou.mod M fun b a q=>h.d1.2.2.1 (q▸a)
 tr:=by rw [c];exact h.tr.mod M fun b a q=>h.d1.2.2.2 (q▸a)
 d1:=by rw [f,e,d,c];exact h.d1
 d2:=by rw [f,e,d,c];exact h.d2
 d3:=by rw [e,d,c];exact h.d3
 d4:=by rw [d,c];exact h.d4
 out:=fun b a=>h.out b (by unfold Mf at a⊢;rw [f,e,d,c]at a;exact a)
theorem nP {x:Value}:∀{l:List Value} {k:Nat},k<l.length→aM l k [x]=l.set k x
 |y::l,0,_=>by simp [aM]
 |y::l,k+1,h=>by simp only [aM,List.set_cons_succ];rw [nP (by simpa using h)]
theorem jd (l:List Int):(bC l).flatten=l.map (fun n=>.int .i64 n):=by
 induction l with
 |nil=>rfl
 |cons x l ih=>simp only [bC,List.map_cons,List.flatten_cons,List.singleton_append]at ih⊢;rw [ih]
theorem MH.adt {k:Nat} (a:Int) (h:MH G H m v rows store outs trace) (f:k<store.length):∃b H',v.vs= .slice (some ⟨b,0,none⟩) store.length store.length∧H.st ⟨b,k,none⟩ [.int .i64 a]=some H'∧MH G H' m v rows (store.set k a) outs trace∧Mod (Mf m v) H H'∧H'.nx=H.nx∧H'.n0=H.n0:=by
 rcases h.st.is with⟨_,e⟩|⟨b,e,i,g⟩
 · have:=congrArg List.length e;simp [bC]at this;subst this;simp at f
 rw [jd]at g;have el:(bC store).length=store.length:=by simp [bC]
 rw [el]at e;have d:aU v.vs b:=by rw [e];exact (aS _ _ _ _ _).2 rfl
 obtain ⟨H',st,M,l,n0,j⟩:=bV g i (k:=k) (vs:=[.int .i64 a]) (by simp;omega);rw [nP (by simpa using f),←List.map_set,←jd]at j;refine ⟨b,H',e,st, ?_,M.mono fun x _ c=> .inr (.inr (.inl (c▸d))),l,n0⟩
 exact
  {get:=M.get (fun q=>h.d1.2.1 (by rw [q];exact d)) h.get
   n0:=by rw [n0];exact h.n0
   sub:=h.sub.mod M fun x c=>h.out x (.inr (.inr (.inl (c▸d))))
   wf:=M.wf h.wf
   fr:=h.fr.mod M fun x c q=>(h.d2 x c).1 (q▸d)
   st:=⟨.inr ⟨b,by rw [e];simp [bC],by rw [n0];exact i,j⟩,fun r n=>by obtain ⟨o,_,rfl⟩:=aqd.1 n;rfl⟩
   ou:=h.ou.mod M fun x c q=>(h.d3 x (q▸d)).1 c
   tr:=h.tr.mod M fun x c q=>(h.d3 x (q▸d)).2 c
   d1:=h.d1,d2:=h.d2,d3:=h.d3,d4:=h.d4,out:=h.out}
end
section
variable{G H:AH} {m:Nat} {v:MV} {rows:List (List Value)} {store:List Int} {outs:List (Int×Int)} {trace:List Ev} {V:List Vr}
theorem Bm {op n:Int} {va vt ve:Value} (h:MH G H m v rows store outs trace) (q:dy G v.vv V) (i:0≤n∧n<V.length) (j:¬ 1<ak V n):
 Ca E O 75 [.pointer (some ⟨m,0,none⟩),.agg #[.int .i64 op,.int .i64 n,va,vt,ve]] H (fun x H'=>x= .int .i64 0∧Ext H H'):=by
 refine Ca.aJ (F:=Rf) rfl rfl rfl ?_;have a:=h.wf;have c:=Ext.alloc H (.cells 5 [.int .i64 op,.int .i64 n,va,vt,ve]);have z:(H.alloc (.cells 5 [.int .i64 op,.int .i64 n,va,vt,ve])).ld ⟨H.nx,0,none⟩=some (.int .i64 op):=ai a rfl;have l:(H.alloc (.cells 5 [.int .i64 op,.int .i64 n,va,vt,ve])).ld ⟨H.nx,1,none⟩=some (.int .i64 n):=ai a rfl;have y:(H.alloc (.cells 5 [.int .i64 op,.int .i64 n,va,vt,ve])).ld ⟨H.nx,2,none⟩=some va:=ai a rfl;have w:(H.alloc (.cells 5 [.int .i64 op,.int .i64 n,va,vt,ve])).ld ⟨H.nx,3,none⟩=some vt:=ai a rfl;have u:(H.alloc (.cells 5 [.int .i64 op,.int .i64 n,va,vt,ve])).ld ⟨H.nx,4,none⟩=some ve:=ai a rfl;have d:(H.alloc (.cells 5 [.int .i64 op,.int .i64 n,va,vt,ve])).ldn ⟨H.nx,0,none⟩ 5=some [.int .i64 op,.int .i64 n,va,vt,ve]:=bj a 5 rfl;generalize t:H.alloc (.cells 5 [.int .i64 op,.int .i64 n,va,vt,ve])=C at c z l y w u d;have A:=c.wf a;have e:=h.ext c
 obtain ⟨yv,g⟩:∃yv,V[n.toNat]?=some yv:=⟨_,apG (by omega)⟩
 have s:ak V n=yv.cells:=by simp [ak,g]
 obtain ⟨b,o,B,p,_,_,_,r⟩:=(dy.sub e.sub q).at g;have f:=aI e.get e.n0 (k:=2) (v:=v.vv) rfl;rw [p]at f;rw [s]at j;simp (maxSteps:=9^7)-implicitDefEqProofs+contextual [-X.ev,Rf,t,f,l,i.1,i.2,r,j,aN,aD,aE];exact c
theorem Bn {op n:Int} {va vt ve:Value} {j:List (List Value)} {args:List bY} {y:bY} (h:MH G H m v rows store outs trace) (W:aC v.w V=true) (Y:ch v.w V store=true) (t:dy G v.vv V) (U:F3 v.vv) (u:0≤n∧n<V.length) (z:1<ak V n)
 (L:Rows G 4 va j) (P:gj G j args) (s:args[0]?=some y) (Q:dA v.w V 1 y=true) (i:(trace.length:Int)+aB y≤2^40) (T:0≤v.cost∧v.cost+aB y≤2^60):
 Ca E O 75 [.pointer (some ⟨m,0,none⟩),.agg #[.int .i64 op,.int .i64 n,va,vt,ve]] H (fun x H'=>x= .int .i64 (aZ v.w V [store] y)∧∃f,MH G H' m {v with vt:=f,cost:=v.cost+aB y} rows store outs (trace++mN v.w V [store] y)∧Mod (fun b=>b=m∨aU v.vt b) H H'∧∀b,aU f b→aU v.vt b∨H.nx≤b):=by
 refine Ca.aJ (F:=Rf) rfl rfl rfl ?_;have a:=h.wf;have e:=Ext.alloc H (.cells 5 [.int .i64 op,.int .i64 n,va,vt,ve]);have d0:(H.alloc (.cells 5 [.int .i64 op,.int .i64 n,va,vt,ve])).ld ⟨H.nx,0,none⟩=some (.int .i64 op):=ai a rfl;have C:(H.alloc (.cells 5 [.int .i64 op,.int .i64 n,va,vt,ve])).ld ⟨H.nx,1,none⟩=some (.int .i64 n):=ai a rfl;have B:(H.alloc (.cells 5 [.int .i64 op,.int .i64 n,va,vt,ve])).ld ⟨H.nx,2,none⟩=some va:=ai a rfl;have d3:(H.alloc (.cells 5 [.int .i64 op,.int .i64 n,va,vt,ve])).ld ⟨H.nx,3,none⟩=some vt:=ai a rfl;have d4:(H.alloc (.cells 5 [.int .i64 op,.int .i64 n,va,vt,ve])).ld ⟨H.nx,4,none⟩=some ve:=ai a rfl;have d:(H.alloc (.cells 5 [.int .i64 op,.int .i64 n,va,vt,ve])).ldn ⟨H.nx,0,none⟩ 5=some [.int .i64 op,.int .i64 n,va,vt,ve]:=bj a 5 rfl;generalize Z:H.alloc (.cells 5 [.int .i64 op,.int .i64 n,va,vt,ve])=H1 at e d0 C B d3 d4 d;have bD:=e.wf a;have c:=h.ext e
 obtain ⟨yv,p⟩:∃yv,V[n.toNat]?=some yv:=⟨_,apG (by omega)⟩
 have S:ak V n=yv.cells:=by simp [ak,p]
 obtain ⟨b,o,c',I,_,_,_,N⟩:=(dy.sub c.sub t).at p;have l:=aI c.get c.n0 (k:=2) (v:=v.vv) rfl;rw [I]at l;rw [S]at z;obtain ⟨b4,o4,c4,vy,r,J,M,K,R⟩:=gj.row L P s;have g:=c.sub.ldn M;simp only [Nat.zero_mul,Nat.add_zero]at g;have O7:0<args.length:=by have:=(apM.1 s).1;omega
 rw [←K]at g;have A:=B;rw [J]at A;have x1:=e.nx;simp (maxSteps:=9^7)-implicitDefEqProofs+contextual [-X.ev,Rf,Z,l,C,A,u.1,u.2,N,z,O7,g,aN,aD,aE];apply ah
 ·(simp-implicitDefEqProofs [-X.ev];rfl)
 refine (kF c W Y t U R Q i T).mono ?_;rintro x H2 ⟨rfl,f,h2,M2,D⟩;simp (maxSteps:=9^7)-implicitDefEqProofs+contextual [-X.ev];exact ⟨f,h2,(Mod.bU e).trans M2,fun b i=>(D b i).imp id (fun q=>by omega)⟩
end
end
section
open Go
section
variable{G H:AH} {m:Nat} {v:MV} {rows:List (List Value)} {store:List Int} {outs:List (Int×Int)} {trace:List Ev} {V:List Vr}
theorem MH.tell (e:Ev) (h:MH G H m v rows store outs trace) (g:trace.length≤2^41):
 ∃H1 a c f d,pU 1 3 [.int .i64 0,.int .i64 0,.int .i64 0] H [(0,3,.agg #[.int .i64 e.kind,.int .i64 e.at_,.int .i64 e.val])]=some (.slice (some ⟨H.nx,0,none⟩) 1 1,H1)∧bL 3 24 H1 v.vt (.slice (some ⟨H.nx,0,none⟩) 1 1)=some (.slice a (trace.length+1) c,f)∧f.st ⟨m,9,none⟩ [.slice a (trace.length+1) c]=some d∧
  MH G d m {v with vt:=.slice a (trace.length+1) c} rows store outs (trace++[e])∧Mod (fun b=>b=m∨aU v.vt b) H d∧(∀b,aU (.slice a (trace.length+1) c) b→H.nx≤b)∧H1.n0=H.n0∧H.nx≤H1.nx∧f.n0=H.n0∧H1.nx≤f.nx∧d.n0=H.n0∧d.nx=f.nx:=by
 obtain ⟨H1,a,c,f,d,t,u,s,w,k,j,i,r,o,x,q,n,p,l,y⟩:=A.tell e h.wf h.get h.n0 h.tr h.d1.2.2.2 g;exact ⟨H1,a,c,f,d,t,u,s,h.vB j w k (fun b g=>.inr (i b g)),j,i,r,o,q,n,p,l⟩
theorem mR {n i a:Int} (h:MH G H m v rows store outs trace) (K:aC v.w V=true) (hS:ch v.w V store=true) (U:dy G v.vv V) (il:F3 v.vv) (hn:0≤n∧n<V.length) (hi:0≤i∧i≤2^40) (e:trace.length≤2^41):
 Ca E O 78 [.pointer (some ⟨m,0,none⟩),.int .i64 n,.int .i64 i,.int .i64 a] H (fun x H'=>∃f,MH G H' m {v with vt:=f} rows (store.set (bq V n+i%ak V n).toNat a) outs (trace++if 1<ak V n then [⟨2,n,i%ak V n⟩]else [])∧Mod (Mf m v) H H'∧∀b,aU f b→aU v.vt b∨H.nx≤b):=by
 refine Ca.aJ (F:=Rg) rfl rfl rfl ?_;have hw:=h.wf
 obtain ⟨nn,rfl⟩:∃k:Nat,n=k:=⟨n.toNat,by omega⟩
 obtain ⟨yv,zI⟩:∃yv,V[nn]?=some yv:=⟨_,apG (by omega)⟩
 have zF:ak V nn=yv.cells:=by simp [ak,zI]
 obtain ⟨b,o,c',S,_,_,_,zL⟩:=(dy.sub h.sub U).at zI;have mm:=mO K hn i;have M:=gG (b:=yv.cells) hi.1;rw [if_neg (by omega)]at M;have hVl:=(aF K).2.2.2
 have eh:1≤v.w∧v.w≤8:=⟨(aF K).1,(aF K).2.1⟩
 obtain ⟨x0,R,_⟩:=iu eh hS (i:=bq V nn+i%ak V nn) (by omega);have dh:=(apM.1 R).1;rw [zF]at mm dh⊢;have N:=aI h.get h.n0 (k:=2) (v:=v.vv) rfl;rw [S]at N;have A:nn<V.length:=by omega
 have Mh:H.ld ⟨b,o+nn*3+2,none⟩=some (.int .i64 yv.cells):=by simpa using zL
 have amf:Mf m v m:=.inl rfl;have UW:∀b,aU v.vt b→Mf m v b:=fun b e=>.inr (.inr (.inr (.inr e)))
 refine AV [.r,.r] (fun d C=>d.get 0= .pointer (some ⟨m,0,none⟩)∧d.get 1= .int .i64 nn∧d.get 2= .int .i64 i∧d.get 3= .int .i64 a∧d.get 8= .int .i64 yv.cells∧∃f,MH G C m {v with vt:=f} rows store outs (trace++if 1<yv.cells then [⟨2,nn,i%yv.cells⟩]else [])∧Mod (Mf m v) H C∧∀b,aU f b→aU v.vt b∨H.nx≤b) rfl ?_ ?_
 ·rintro d C ⟨s,f1,p,l,g,f,B,M1,k1⟩
  obtain ⟨a',c1,Z,zp,W⟩:=OZ (n:=nn) (dy.sub B.sub U) il hn;rw [Int.toNat_natCast]at W;have s2:=aI B.get B.n0 (k:=2) (v:=v.vv) rfl;rw [S]at zp W s2;cases zp;have jK:=B.wf;simp (maxSteps:=9^7)-implicitDefEqProofs+contextual [-X.ev,Rg,s,f1,p,l,g,s2,W];refine bZ (fun k d H'=>Ext C H'∧∃j:Nat,j+k=nn∧d.get 0= .pointer (some ⟨m,0,none⟩)∧d.get 2= .int .i64 i∧d.get 3= .int .i64 a∧d.get 8= .int .i64 yv.cells∧d.get 45= .slice (some ⟨b,o,none⟩) nn Z∧d.get 46= .int .i64 nn∧d.get 47= .int .i64 j∧d.get 9= .int .i64 (bq V (j:Int))) ?_ nn ⟨Ext.refl _,0,by simp,by simp [s],by simp [p],by simp [l],by simp [g],by simp,by simp,by simp,by simp [bq,dY]⟩;clear s f1 p l g d;rintro k d u ⟨L,j,hj,s,p,l,g,f45,f46,f47,f9⟩;have gT:=L.wf jK;have h2:=B.ext L;by_cases q:j<nn
  ·obtain ⟨y,hy⟩:∃y,V[j]?=some y:=⟨_,apG (by omega)⟩
   obtain ⟨b',o',Du,b9,bK,_,_,_⟩:=(dy.sub h2.sub U).at hy;rw [S]at b9;cases b9;simp only [Vr.row]at bK;obtain ⟨t,DD,X3,FB,FC,z,D⟩:=fg (H:=u) gT (z:=3) (c:=[.string ⟨#[]⟩,.int .i64 0,.int .i64 0]) (vs:=[.string y.name,.int .i64 y.level,.int .i64 y.cells]) rfl;have z0:t.ld ⟨u.nx,0,none⟩=some (.string y.name):=D 0 _ rfl;have z1:t.ld ⟨u.nx,1,none⟩=some (.int .i64 y.level):=D 1 _ rfl;have z2:t.ld ⟨u.nx,2,none⟩=some (.int .i64 y.cells):=D 2 _ rfl;clear D;replace z:t.ldn ⟨u.nx,0,none⟩ 3=some [.string y.name,.int .i64 y.level,.int .i64 y.cells]:=z;have xp:=X3.wf gT;simp (maxSteps:=9^7)-implicitDefEqProofs+contextual [-X.ev,f45,f46,f47,f9,q,bK,DD,z2];rw [aj (n:=(j:Int)+1) ⟨by omega,by omega⟩];exact ⟨k- 1,by omega,L.trans X3,j+1,by omega,s,p,l,g,by simp,by rw [sL hy]⟩
  ·have D6:j=nn:=by omega
   subst D6;have ww:IntKind.i64.wrap (bq V j+i%yv.cells)=bq V j+i%yv.cells:=aj ⟨by omega,by omega⟩;obtain ⟨bs,t,nG,iS,Y,M3,P,Q⟩:=h2.adt (k:=(bq V j+i%yv.cells).toNat) a dh;have s7:=aI h2.get h2.n0 (k:=7) (v:=v.vs) rfl;have T:v.vs= .slice (some ⟨bs,0,none⟩) store.length store.length:=nG;rw [T]at s7;have g0:0≤bq V j+i%yv.cells:=by omega
   have gl:bq V j+i%yv.cells<(store.length:Int):=by omega
   simp (maxSteps:=9^7)-implicitDefEqProofs+contextual [-X.ev,s,p,l,g,f45,f46,f47,f9,q,s7,M,ww,g0,gl,iS,Q,P,aN,aD,aE];refine ⟨f,Y,(M1.trans (Mod.bU L)).then M3 (fun b e q=>?_),k1⟩;rcases q with q|q|q|q|q
   ·exact .inl q
   ·exact .inr (.inl q)
   ·exact .inr (.inr (.inl q))
   ·exact .inr (.inr (.inr (.inl q)))
   ·rcases k1 b q with k|k
    ·exact UW b k
    ·omega
 ·intro rest I
  by_cases J:1<yv.cells
  ·obtain ⟨C,a',c1,u,t,mY,ha,hs,Y,M3,k3,xz,DH,nk,tA,Q,P⟩:=h.tell ⟨2,nn,i%yv.cells⟩ e
   have s9:=aI h.get h.n0 (k:=9) (v:=v.vt) rfl;have sK:eM [.int .i64 0,.int .i64 0,.int .i64 0] [(0,1,.int .i64 2),(1,1,.int .i64 nn),(2,1,.int .i64 (i%yv.cells))]=some (.agg #[.int .i64 2,.int .i64 nn,.int .i64 (i%yv.cells)]):=rfl;rw [if_pos J]at I;simp (maxSteps:=9^7)-implicitDefEqProofs+contextual [-X.ev,Rg,N,A,Mh,J,s9,M,sK,mY,ha,hs,xz,DH,nk,tA,Q,P,aN,aD,aE];refine I _ _ ⟨by simp,by simp,by simp,by simp,by simp,_,Y,M3.mono (fun b _ e=>?_),fun b e=>.inr (k3 b e)⟩;rcases e with q|q
   ·exact .inl q
   ·exact UW b q
  ·rw [if_neg J,List.append_nil]at I
   simp (maxSteps:=9^7)-implicitDefEqProofs+contextual [-X.ev,Rg,N,A,Mh,J];exact I _ _ ⟨by simp,by simp,by simp,by simp,by simp,_,h,Mod.refl _ _,fun b e=>.inl e⟩
end
end
section
open Go
structure dS where
 en:Int
 store:List Int
 outs:List (Int×Int)
 trace:List Ev
 cost:Int
 used:Nat
 wh:Int
 fuel:Int
 todo:List jM
 dG:Bool
def eY (c:dS) (e n:Int):dS:={c with en:=e,wh:=n,todo:=[],dG:=true}
def fL (V:List Vr) (c:dS) (n i a:Int):dS:={c with store:=c.store.set (bq V n+i%ak V n).toNat a,trace:=c.trace++if 1<ak V n then [⟨2,n,i%ak V n⟩]else []}
def bH.args:bH→List bY| .mk _ _ a _ _=>a
def cM (p:eD) (ps:List Int) (c:dS) (k:Int) (s:bH) (vals:List Int) (next:List jM):dS:=
 match s with
 | .mk op n args thn els=>
  if op=0 then fL p.vars c n (if 1<ak p.vars n then et vals 0 else 0) (et vals (vals.length- 1))
  else if op=1 then{c with trace:=c.trace++[⟨0,k,if et vals 0=0 then 0 else 1⟩],todo:=(if et vals 0=0 then bI els (k+1+al thn)else bI thn (k+1))++next}
  else if op=2 then{c with trace:=c.trace++[⟨0,k,if et vals 0=0 then 0 else 1⟩],todo:=if et vals 0=0 then next else bI thn (k+1)++(k,.mk op n args thn els)::next}
  else if op=3 then{c with outs:=c.outs++[(n,et vals 0)]}
  else if op=4 then(if ps.length≤c.used then eY c 4 k else fL p.vars {c with used:=c.used+1} n (if 1<ak p.vars n then et vals 0 else 0) (et ps c.used))
  else if op=5 then(if et vals 0=0 then eY c 1 k else c)
  else(if et vals 0=0 then eY c 2 k else c)
def iO (p:eD) (c:dS) (s:bH) (next:List jM):dS:={c with todo:=next,fuel:=c.fuel- 1,cost:=c.cost+1+aq s.args,trace:=c.trace++iX p.w p.vars [c.store] s.args}
def bG (p:eD) (ps:List Int) (c:dS):dS:=
 if c.dG=true then c else match c.todo with
 |[]=>c
 |(k,s)::next=>if c.fuel=0 then eY c 3 k else cM p ps (iO p c s next) k s (bP p.w p.vars [c.store] s.args) next
structure iw (G H:AH) (m:Nat) (v:MV) (H':AH) (v':MV) (dJ:List (List Value)) (vC:List Int) (sP:List (Int×Int)) (sO:List Ev):Prop where
 mh:MH G H' m v' dJ vC sP sO
 mod:Mod (Mf m v) H H'
 new:∀b,Mf m v' b→Mf m v b∨H.nx≤b
section
variable{G H H1 H2:AH} {m:Nat} {v v1 v2:MV} {rows oX Mi:List (List Value)} {store sQ Gb:List Int} {outs sR Mj:List (Int×Int)} {trace nQ Gc:List Ev} {V:List Vr}
theorem iw.refl (h:MH G H m v rows store outs trace):iw G H m v H v rows store outs trace:=⟨h,Mod.refl _ _,fun b a=>.inl a⟩
theorem iw.trans (a:iw G H m v H1 v1 oX sQ sR nQ) (b:iw G H1 m v1 H2 v2 Mi Gb Mj Gc):iw G H m v H2 v2 Mi Gb Mj Gc where
 mh:=b.mh
 mod:=a.mod.then b.mod fun x c q=>by rcases a.new x q with k|k;exact k;omega
 new:=fun x c=>by
  have:=a.mod.nx;rcases b.new x c with q|q
  ·exact a.new x q
  ·right;omega
theorem iw.ext (a:iw G H m v H1 v1 oX sQ sR nQ) (X:Ext H1 H2):iw G H m v H2 v1 oX sQ sR nQ:=⟨a.mh.ext X,a.mod.trans (Mod.bU X),a.new⟩
theorem iw.mu (h:MH G H m v rows store outs trace) (X:Ext H H1):iw G H m v H1 v rows store outs trace:=(iw.refl h).ext X
theorem iw.tr {vt:Value} {cost:Int} (h:MH G H1 m {v with vt:=vt,cost:=cost} oX sQ sR nQ) (M:Mod (fun b=>b=m∨aU v.vt b) H H1) (k:∀b,aU vt b→aU v.vt b∨H.nx≤b):iw G H m v H1 {v with vt:=vt,cost:=cost} oX sQ sR nQ where
 mh:=h
 mod:=M.mono fun b _ q=>q.elim .inl fun q=>.inr (.inr (.inr (.inr q)))
 new:=fun b a=>by
  rcases a with q|q|q|q|q
  ·exact .inl (.inl q)
  ·exact .inl (.inr (.inl q))
  ·exact .inl (.inr (.inr (.inl q)))
  ·exact .inl (.inr (.inr (.inr (.inl q))))
  ·exact (k b q).imp (fun q=>.inr (.inr (.inr (.inr q)))) id
theorem iw.YX {vt:Value} {a:List Int} (h:MH G H1 m {v with vt:=vt} oX a sR nQ) (M:Mod (Mf m v) H H1) (k:∀b,aU vt b→aU v.vt b∨H.nx≤b):iw G H m v H1 {v with vt:=vt} oX a sR nQ where
 mh:=h
 mod:=M
 new:=fun b c=>by
  rcases c with q|q|q|q|q
  ·exact .inl (.inl q)
  ·exact .inl (.inr (.inl q))
  ·exact .inl (.inr (.inr (.inl q)))
  ·exact .inl (.inr (.inr (.inr (.inl q))))
  ·exact (k b q).imp (fun q=>.inr (.inr (.inr (.inr q)))) id
theorem iw.fr {vf:Value} (h:MH G H m v rows store outs trace) (M:Mod (fun b=>b=m∨aU v.vf b) H H1) (g:H1.get m=some (.cells 14 ({v with vf:=vf}:MV).cells)) (o:fU H1 2 vf oX) (a:∀b,aU vf b→aU v.vf b∨H.nx≤b):iw G H m v H1 {v with vf:=vf} oX store outs trace where
 mh:=h.ads M g o a
 mod:=M.mono fun b _ q=>q.elim .inl fun q=>.inr (.inl q)
 new:=fun b c=>by
  rcases c with q|q|q
  ·exact .inl (.inl q)
  ·exact (a b q).imp (fun q=>.inr (.inl q)) id
  ·exact .inl (.inr (.inr q))
theorem MH.cell {v':MV} (k:Nat) (x:Value) (h:MH G H m v rows store outs trace) (n:k<14) (e:v.cells.set k x=v'.cells) (i:v'.vf=v.vf) (f:v'.vs=v.vs) (d:v'.vo=v.vo) (c:v'.vt=v.vt):∃H',H.st ⟨m,k,none⟩ [x]=some H'∧iw G H m v H' v' rows store outs trace∧H'.nx=H.nx∧H'.n0=H.n0:=by
 obtain ⟨H',st,M,j,l,g⟩:=bV h.get h.n0 (k:=k) (vs:=[x]) (by simp;omega);rw [nP (by simp;omega),e]at g;refine ⟨H',st,⟨h.O5 M g i f d c,M.mono fun b _ q=>.inl q,fun b a=>.inl ?_⟩,j,l⟩;unfold Mf at a⊢;rw [i,f,d,c]at a;exact a
theorem sS {op n k:Int} {va vt ve:Value} {t:List (List Value)} {args:List bY} {y:bY} (h:MH G H m v rows store outs trace) (U:aC v.w V=true) (W:ch v.w V store=true) (J:dy G v.vv V) (T:F3 v.vv)
 (L:Rows G 4 va t) (N:gj G t args) (u:args[0]?=some y) (P:dA v.w V 1 y=true) (o:(trace.length:Int)+aB y≤2^40) (R:0≤v.cost∧v.cost+aB y≤2^60):
 Ca E O 79 [.pointer (some ⟨m,0,none⟩),.agg #[.int .i64 op,.int .i64 n,va,vt,ve],.int .i64 k] H (fun x H'=>x= .bool (!decide (aZ v.w V [store] y=0))∧∃c,iw G H m v H' {v with vt:=c,cost:=v.cost+aB y} rows store outs (trace++mN v.w V [store] y++[⟨0,k,if aZ v.w V [store] y=0 then 0 else 1⟩])):=by
 refine Ca.aJ (F:=Xx) rfl rfl rfl ?_;have a:=h.wf;have e:=Ext.alloc H (.cells 5 [.int .i64 op,.int .i64 n,va,vt,ve]);have d0:(H.alloc (.cells 5 [.int .i64 op,.int .i64 n,va,vt,ve])).ld ⟨H.nx,0,none⟩=some (.int .i64 op):=ai a rfl;have d1:(H.alloc (.cells 5 [.int .i64 op,.int .i64 n,va,vt,ve])).ld ⟨H.nx,1,none⟩=some (.int .i64 n):=ai a rfl;have B:(H.alloc (.cells 5 [.int .i64 op,.int .i64 n,va,vt,ve])).ld ⟨H.nx,2,none⟩=some va:=ai a rfl;have d3:(H.alloc (.cells 5 [.int .i64 op,.int .i64 n,va,vt,ve])).ld ⟨H.nx,3,none⟩=some vt:=ai a rfl;have d4:(H.alloc (.cells 5 [.int .i64 op,.int .i64 n,va,vt,ve])).ld ⟨H.nx,4,none⟩=some ve:=ai a rfl;have d:(H.alloc (.cells 5 [.int .i64 op,.int .i64 n,va,vt,ve])).ldn ⟨H.nx,0,none⟩ 5=some [.int .i64 op,.int .i64 n,va,vt,ve]:=bj a 5 rfl;generalize Y:H.alloc (.cells 5 [.int .i64 op,.int .i64 n,va,vt,ve])=H1 at e d0 d1 B d3 d4 d;have bD:=e.wf a;have z:=h.ext e;obtain ⟨b4,o4,c4,vy,r,I,M,K,Q⟩:=gj.row L N u;have j:=z.sub.ldn M;simp only [Nat.zero_mul,Nat.add_zero]at j;have O7:0<args.length:=by have:=(apM.1 u).1;omega
 rw [←K]at j;have A:=B;rw [I]at A;have x1:=e.nx;have u2:=dV (w:=v.w) (V:=V) (S:=[store]) y;simp (maxSteps:=9^7)-implicitDefEqProofs+contextual [-X.ev,Xx,Y,A,O7,j];apply ah
 ·(simp-implicitDefEqProofs [-X.ev];rfl)
 refine (kF z U W J T Q P o R).mono ?_;rintro x H2 ⟨rfl,c,h2,M2,D⟩;obtain ⟨Ha,a',c1,Hb,H3,g,p,i,Z,M3,C,xz,DH,nk,tA,lF,qx⟩:=h2.tell ⟨0,k,if aZ v.w V [store] y=0 then 0 else 1⟩ (by rw [apP];omega);have s:=aI h2.get h2.n0 (k:=9) (v:=c) rfl;have A2:iw G H1 m v H2 {v with vt:=c,cost:=v.cost+aB y} rows store outs (trace++mN v.w V [store] y):=iw.tr h2 M2 D;have f:=(iw.mu h e).trans (A2.trans (iw.tr (v:={v with vt:=c,cost:=v.cost+aB y}) Z M3 (fun b o=>.inr (C b o))));simp only [apP]at p i f;by_cases q:aZ v.w V [store] y=0
 ·rw [if_pos q]at g f
  have l:eM [.int .i64 0,.int .i64 0,.int .i64 0] [(0,1,.int .i64 0),(1,1,.int .i64 k),(2,1,.int .i64 0)]=some (.agg #[.int .i64 0,.int .i64 k,.int .i64 0]):=rfl;simp (maxSteps:=9^7)-implicitDefEqProofs+contextual [-X.ev,q,s,l,g,p,i];exact ⟨_,by simpa [q]using f⟩
 ·rw [if_neg q]at g f
  have l:eM [.int .i64 0,.int .i64 0,.int .i64 0] [(0,1,.int .i64 0),(1,1,.int .i64 k),(2,1,.int .i64 1)]=some (.agg #[.int .i64 0,.int .i64 k,.int .i64 1]):=rfl;simp (maxSteps:=9^7)-implicitDefEqProofs+contextual [-X.ev,q,s,l,g,p,i];exact ⟨_,by simpa [q]using f⟩
end
end
section
open Go
def Mk (G:AH) (r:List Value) (f:List bH×Int):Prop:=∃vl rs,r=[vl,.int .i64 f.2]∧Rows G 5 vl rs∧fh G rs f.1∧Fit G vl∧f.1≠[]∧f.1.length≤2^30
def my (fs:List (List bH×Int)):List jM:=fs.foldl (fun t f=>bI f.1 f.2++t) []
theorem gX (fs:List (List bH×Int)) (f:List bH×Int):my (fs++[f])=bI f.1 f.2++my fs:=by simp [my,List.foldl_append]
theorem fE.snoc {α β:Type} {C:α→β→Prop}:∀{l:List α} {k:List β} {a:α} {b:β},fE C l k→C a b→fE C (l++[a]) (k++[b])
 |_,_,_,_,.nil,h=>.cons h .nil
 |_,_,_,_,.cons x y,h=>.cons x (fE.snoc y h)
theorem jB (s:bH) (l:List bH) (k:Int):bI (s::l) k=(k,s)::bI l (k+bA s):=by
 obtain ⟨op,n,args,a,b⟩:=s;rw [bI,bA];simp only [List.cons.injEq,true_and];congr 1;omega
section
variable{G H:AH} {m:Nat} {v:MV} {rows dt:List (List Value)} {store:List Int} {outs:List (Int×Int)} {trace:List Ev} {V:List Vr}
theorem iy {f:Value} {cs:List Value} {rs:List (List Value)} {s:bH} {l:List bH} {k:Int} {e:List (List bH×Int)} (h:MH G H m v (dt++[[f,.int .i64 k]]) store outs trace) (B:Rows G 5 f (cs::rs)) (I:Fit G f) (hs:yD G cs s) (d:fh G rs l) (t:fE (Mk G) dt e)
 (p:dt.length≤2^40) (J:bx s≤2^30) (y:l.length≤2^30) (D:0≤k∧k≤2^40):
 Ca E O 77 [.pointer (some ⟨m,0,none⟩)] H (fun x H'=>∃a j u,iw G H m v H' {v with vf:=a} j store outs trace∧fE (Mk G) j u∧my u=bI l (k+bA s)++my e∧j.length≤dt.length+1):=by
 have K:bA s≤bx s:=by
  obtain ⟨op,n,args,i,r⟩:=s;have:=(aR i).2;have:=(aR r).2;have:=bh args;rw [bA,bx];omega
 refine (Kh h.wf h.get h.n0 h.fr h.d1.1 p h.sub (fun b q=>h.out b (q.elim .inl fun q=>.inr (.inl q))) B I hs.toC (by omega) (by rw [d.length];omega) D (by omega)).mono ?_;rintro x H' ⟨a,g,⟨w,z,F,o⟩,M,kk⟩;have A:=iw.fr h M g o (fun b p=>.inl (kk b p));by_cases c:rs.length=0
 ·have C:l=[]:=aqe (by rw [←d.length];exact c)
  rw [xG,if_pos c]at A;exact ⟨a,dt,e,A,t,by rw [C];rfl,by omega⟩
 ·rw [xG,if_neg c]at A
  exact ⟨a,_,e++[(l,k+bA s)],A,t.snoc ⟨w,rs,rfl,z,d,F,fun q=>c (by rw [d.length];simp at q;rw [q];rfl),y⟩,by rw [gX],by simp⟩
theorem oY {vt:Value} {rt:List (List Value)} {thn:List bH} {k:Int} {fs:List (List bH×Int)} (h:MH G H m v rows store outs trace) (j:Rows G 5 vt rt) (l:fh G rt thn) (s:Fit G vt) (n:fE (Mk G) rows fs) (t:rows.length≤2^40) (b:thn.length≤2^30):
 Ca E O 37 [.pointer (some ⟨m,0,none⟩),vt,.int .i64 k] H (fun x H'=>∃d f p,iw G H m v H' {v with vf:=d} f store outs trace∧fE (Mk G) f p∧my p=bI thn k++my fs∧f.length≤rows.length+1):=by
 obtain ⟨a,c,i⟩:=j.len;rw [l.length]at i;subst i;refine (Kg h.wf h.get h.n0 h.fr h.d1.1 t).mono ?_;rintro x H' ⟨d,g,o,M,kk⟩;have A:=iw.fr h M g o kk;by_cases e:thn.length=0
 ·have r:thn=[]:=aqe e
  rw [if_pos e]at A;exact ⟨d,rows,fs,A,n,by rw [r];rfl,by omega⟩
 ·rw [if_neg e]at A
  exact ⟨d,_,fs++[(thn,k)],A,n.snoc ⟨_,rt,rfl,j,l,s,fun q=>e (by simp at q;rw [q];rfl),b⟩,by rw [gX],by simp⟩
theorem rl {how n:Int} (h:MH G H m v rows store outs trace):
 Ca E O 40 [.pointer (some ⟨m,0,none⟩),.int .i64 how,.int .i64 n] H (fun x H'=>x= .bool false∧iw G H m v H' {v with en:=how,wh:=n,ended:=true} rows store outs trace):=by
 refine Ca.aJ (F:=Xd) rfl rfl rfl ?_;obtain ⟨j,e,b,_,_⟩:=h.cell (v':={v with ended:=true}) 13 (.bool true) (by omega) rfl rfl rfl rfl rfl;obtain ⟨i,d,a,_,_⟩:=b.mh.cell (v':={v with ended:=true,en:=how}) 6 (.int .i64 how) (by omega) rfl rfl rfl rfl rfl;obtain ⟨g,c,f,_,_⟩:=a.mh.cell (v':={v with ended:=true,en:=how,wh:=n}) 12 (.int .i64 n) (by omega) rfl rfl rfl rfl rfl;simp (maxSteps:=9^7)-implicitDefEqProofs+contextual [-X.ev,Xd,e,d,c];exact b.trans (a.trans f)
end
def Mt (v:MV) (c:dS):Prop:=v.en=c.en∧v.cost=c.cost∧v.used=(c.used:Int)∧v.wh=c.wh∧v.fuel=c.fuel∧v.ended=c.dG
def Sm (v v':MV):Prop:=v'.w=v.w∧v'.vv=v.vv∧v'.vp=v.vp∧v'.vb=v.vb
structure Il (G H:AH) (m:Nat) (p:eD) (ps:List Int) (v:MV) (c:dS) (dt:List (List Value)) (eK:List (List bH×Int)) (vl:Value) (cs:List Value) (rs:List (List Value)) (k:Int) (s:bH) (l:List bH):Prop where
 mh:MH G H m v (dt++[[vl,.int .i64 k]]) c.store c.outs c.trace
 hr:Rows G 5 vl (cs::rs)
 hf:Fit G vl
 hs:yD G cs s
 hl:fh G rs l
 h0:fE (Mk G) dt eK
 w:v.w=p.w
 vars:dy G v.vv p.vars
 cap:F3 v.vv
 bz:ep G v.vp ps
 head:aC p.w p.vars=true
 store:ch p.w p.vars c.store=true
 mt:Mt v c
 ov:c.dG=false
 row:fk p.w p.vars s=true
 b1:dt.length≤2^30
 b2:0≤k∧k≤2^30
 b3:bx s≤2^20
 b4:l.length+1≤2^30
 b5:c.trace.length≤2^31
 b6:c.outs.length≤2^31
 b7:0≤c.cost∧c.cost≤2^50
 b8:c.used≤ps.length∧ps.length≤2^20
structure Did (G H:AH) (m:Nat) (p:eD) (ps:List Int) (v:MV) (H':AH) (n:Nat) (c':dS):Prop where
 is:∃v' dJ,iw G H m v H' v' dJ c'.store c'.outs c'.trace∧(c'.dG=false→∃qy,fE (Mk G) dJ qy∧c'.todo=my qy)∧dJ.length≤n+2∧Mt v' c'∧Sm v v'
def bN (p:eD) (c:dS) (s:bH) (next:List jM):dS:={c with todo:=next,cost:=c.cost+aq s.args,trace:=c.trace++iX p.w p.vars [c.store] s.args}
abbrev cG (l:List bH) (k:Int) (s:bH) (eK:List (List bH×Int)):List jM:=bI l (k+bA s)++my eK
section
variable{G H:AH} {m:Nat} {p:eD} {ps:List Int} {v:MV} {c:dS} {dt rs:List (List Value)} {eK:List (List bH×Int)} {vl:Value} {cs:List Value} {k:Int} {s:bH} {l:List bH}
theorem fZ {w:Int} {V:List Vr} {op n:Int} {args:List bY} {thn els:List bH} (h:fk w V (.mk op n args thn els)=true):
 (∀e∈args,dA w V 1 e=true∧aB e≤400)∧fX w V thn=true∧fX w V els=true∧
   ((op=0∧(0≤n∧n<V.length)∧((¬ 1<ak V n∧∃a,args=[a])∨(1<ak V n∧∃a b,args=[a,b])))∨(op=1∧∃a,args=[a])∨(op=2∧∃a,args=[a])∨(op=3∧∃a,args=[a])∨
    (op=4∧(0≤n∧n<V.length)∧((¬ 1<ak V n∧args=[])∨(1<ak V n∧∃a,args=[a])))∨((op=5∨op=6)∧∃a,args=[a])):=by
 rw [fk,apJ,apJ,apJ,apW]at h;obtain ⟨d,h2,x,u⟩:=h;refine ⟨fun e t=>?_,h2,x,?_⟩
 · have:=u e t
   simp only [gL,apJ,apS]at this;exact ⟨this.2.2,this.1⟩
 unfold cD at d;by_cases r:op=0
 · rw [if_pos r]at d
   simp only [mg,apJ,apS]at d;refine .inl ⟨r,⟨d.2.1,d.2.2.1⟩,?_⟩;by_cases f:1<ak V n
   · have:=d.2.2.2;rw [if_pos f]at this
     exact .inr ⟨f,FQ (by omega)⟩
   · have:=d.2.2.2;rw [if_neg f]at this
     exact .inl ⟨f,aqm.1 (by omega)⟩
 rw [if_neg r]at d;by_cases q:op=1
 · rw [if_pos q]at d;simp only [apJ,apS]at d
   exact .inr (.inl ⟨q,aqm.1 (by omega)⟩)
 rw [if_neg q]at d;by_cases o:op=2
 · rw [if_pos o]at d;simp only [apJ,apS]at d
   exact .inr (.inr (.inl ⟨o,aqm.1 (by omega)⟩))
 rw [if_neg o]at d;by_cases j:op=3
 · rw [if_pos j]at d;simp only [apJ,apS]at d
   exact .inr (.inr (.inr (.inl ⟨j,aqm.1 (by omega)⟩)))
 rw [if_neg j]at d;by_cases i:op=4
 · rw [if_pos i]at d
   simp only [mg,apJ,apS]at d;refine .inr (.inr (.inr (.inr (.inl ⟨i,⟨d.2.1,d.2.2.1⟩,?_⟩))));by_cases f:1<ak V n
   · have:=d.2.2.2;rw [if_pos f]at this
     exact .inr ⟨f,aqm.1 (by omega)⟩
   · have:=d.2.2.2;rw [if_neg f]at this
     exact .inl ⟨f,aqe (by omega)⟩
 rw [if_neg i]at d;by_cases g:op=5∨op=6
 · rw [if_pos g]at d;simp only [apJ,apS]at d
   exact .inr (.inr (.inr (.inr (.inr ⟨g,aqm.1 (by omega)⟩))))
 rw [if_neg g]at d;cases d
def Gd (how:Int):AF:=⟨3,21,[.tmp 6],.seq (.cL [o 4 (.box (.t 1)),o 6 (.mv (.k (.bool false)))]) (.seq (.seq (.cL [o 7 (.mv (.t 0)),o 8 (.fa 2 (.t 4)),o 9 (.ld (.t 8)),o 10 (.ia 4 (.t 9) (.k (.int .i64 0))),o 11 (.ldn 4 (.t 10)),o 12 (.call 76 [.t 7,.t 11]),o 13 (.bin .eql (.t 12) (.k (.int .i64 0)))]) (.cond (.t 13) (.seq (.cL [o 14 (.mv (.t 0)),o 15 (.mv (.t 2)),o 16 (.call 40 [.t 14,.k (.int .i64 how),.t 15]),o 6 (.mv (.t 16))]) .ret) .skip)) (.seq (.cL [o 17 (.mv (.t 0)),o 18 (.bB (.t 17)),o 19 (.fa 0 (.t 18)),o 20 (.call 77 [.t 19])]) (.seq (.cL [o 6 (.mv (.k (.bool true)))]) .ret)))⟩
def lj (G H:AH) (f:Nat) (m:Nat) (p:eD) (ps:List Int) (v:MV) (c:dS) (n:Nat) (eK:List (List bH×Int)) (cs:List Value) (k:Int) (s:bH) (l:List bH):Prop:=
 ∀c',c'=cM p ps (bN p c s (cG l k s eK)) k s (bP p.w p.vars [c.store] s.args) (cG l k s eK)→
  Ca E O f [.pointer (some ⟨m,0,none⟩),.agg cs.toArray,.int .i64 k] H (fun x H'=>x= .bool (!c'.dG)∧Did G H m p ps v H' n c')
theorem xJ {f:Nat} {op n how:Int} {args:List bY} {thn els:List bH} (W:O f=none) (he:E f=some (Gd how)) (V:(op=5∧how=1)∨(op=6∧how=2)) (h:Il G H m p ps v c dt eK vl cs rs k (.mk op n args thn els) l):
 lj G H f m p ps v c dt.length eK cs k (.mk op n args thn els) l:=by
 intro c' D;obtain ⟨aH,_,_,U⟩:=fZ h.row
 obtain ⟨y,rfl⟩:∃y,args=[y]:=by
  rcases U with⟨q,_⟩|⟨q,_⟩|⟨q,_⟩|⟨q,_⟩|⟨q,_⟩|⟨_,q⟩
  ·omega
  ·omega
  ·omega
  ·omega
  ·omega
  ·exact q
 obtain ⟨Z,O9⟩:=aH y (by simp);have e0:et (bP p.w p.vars [c.store] [y]) 0=aZ p.w p.vars [c.store] y:=rfl
 have b:c'=if aZ p.w p.vars [c.store] y=0 then eY (bN p c (.mk op n [y] thn els) (cG l k (.mk op n [y] thn els) eK)) how k else bN p c (.mk op n [y] thn els) (cG l k (.mk op n [y] thn els) eK):=by
  rw [D,cM];rcases V with⟨rfl,rfl⟩|⟨rfl,rfl⟩
  ·rw [if_neg (by omega),if_neg (by omega),if_neg (by omega),if_neg (by omega),if_neg (by omega),if_pos rfl];rfl
  ·rw [if_neg (by omega),if_neg (by omega),if_neg (by omega),if_neg (by omega),if_neg (by omega),if_neg (by omega)];rfl
 clear D;obtain ⟨Q,B,z,P,u,N⟩:=h.mt;have jO:=h.hs
 cases jO with| @mk _ _ va vt ve ra rt re _ _ _ i1 i2 i3 i4 i5 g1 g2 g3 g4 g5 g6 g7 g8=>
 refine Ca.aJ (F:=Gd how) W he rfl ?_;have a:=h.mh.wf;have e:=Ext.alloc H (.cells 5 [.int .i64 op,.int .i64 n,va,vt,ve]);have d0:(H.alloc (.cells 5 [.int .i64 op,.int .i64 n,va,vt,ve])).ld ⟨H.nx,0,none⟩=some (.int .i64 op):=ai a rfl;have d1:(H.alloc (.cells 5 [.int .i64 op,.int .i64 n,va,vt,ve])).ld ⟨H.nx,1,none⟩=some (.int .i64 n):=ai a rfl;have K:(H.alloc (.cells 5 [.int .i64 op,.int .i64 n,va,vt,ve])).ld ⟨H.nx,2,none⟩=some va:=ai a rfl;have d3:(H.alloc (.cells 5 [.int .i64 op,.int .i64 n,va,vt,ve])).ld ⟨H.nx,3,none⟩=some vt:=ai a rfl;have d4:(H.alloc (.cells 5 [.int .i64 op,.int .i64 n,va,vt,ve])).ld ⟨H.nx,4,none⟩=some ve:=ai a rfl;have d:(H.alloc (.cells 5 [.int .i64 op,.int .i64 n,va,vt,ve])).ldn ⟨H.nx,0,none⟩ 5=some [.int .i64 op,.int .i64 n,va,vt,ve]:=bj a 5 rfl;generalize cA:H.alloc (.cells 5 [.int .i64 op,.int .i64 n,va,vt,ve])=H1 at e d0 d1 K d3 d4 d;have bD:=e.wf a;have I:=h.mh.ext e;obtain ⟨b4,o4,c4,vy,r,S,Y,T,km⟩:=gj.row g1 g2 (i:=0) (y:=y) rfl;have o:=I.sub.ldn Y;simp only [Nat.zero_mul,Nat.add_zero]at o;rw [←T]at o;have J:=K;rw [S]at J;have b7:=h.b7;have b5:=h.b5;have j:=h.w;have C:=h.w.symm;have key:=kF I (by rw [j];exact h.head) (by rw [j];exact h.store) h.vars h.cap km (by rw [j];exact Z) (by omega) (by rw [B];omega);have A1:=iw.mu h.mh e;have ev:iX p.w p.vars [c.store] [y]=mN p.w p.vars [c.store] y:=by simp [iX]
 have nl:aq [y]=aB y:=by simp [aq]
 simp (maxSteps:=9^7)-implicitDefEqProofs+contextual [-X.ev,Gd,cA,J,o];apply ah
 ·(simp-implicitDefEqProofs [-X.ev];rfl)
 refine (key).mono ?_;rintro x H2 ⟨rfl,lR,h2,M2,R⟩;have g:=A1.trans (iw.tr (v:=v) h2 M2 R);rw [C]at b;have M:v.cost+aB y=(bN p c (.mk op n [y] thn els) (cG l k (.mk op n [y] thn els) eK)).cost:=by rw [B,bN];show _=c.cost+aq [y];rw [nl]
 have L:c.trace++mN v.w p.vars [c.store] y=(bN p c (.mk op n [y] thn els) (cG l k (.mk op n [y] thn els) eK)).trace:=by rw [bN];show _=c.trace++iX p.w p.vars [c.store] [y];rw [ev,C]
 by_cases q:aZ v.w p.vars [c.store] y=0
 ·rw [if_pos q]at b
  subst b;simp (maxSteps:=9^7)-implicitDefEqProofs+contextual [-X.ev,q];apply ah
  ·(simp-implicitDefEqProofs [-X.ev];rfl)
  refine (rl (how:=how) (n:=k) g.mh).mono ?_;rintro x H3 ⟨rfl,t⟩;simp (maxSteps:=9^7)-implicitDefEqProofs+contextual [-X.ev,eY];have A:=g.trans t;rw [M,L]at A;exact ⟨_,_,A,fun q=>by simp at q,by simp,⟨rfl,rfl,z,rfl,u,rfl⟩,rfl,rfl,rfl,rfl⟩
 ·rw [if_neg q]at b
  subst b;simp (maxSteps:=9^7)-implicitDefEqProofs+contextual [-X.ev,q];apply ah
  ·(simp-implicitDefEqProofs [-X.ev];rfl)
  refine (iy g.mh h.hr h.hf h.hs h.hl h.h0 (by have:=h.b1;omega) (by have:=h.b3;omega) (by have:=h.b4;omega) (by have:=h.b2;omega)).mono ?_;rintro x H3 ⟨kc,dJ,qy,t,ha,fJ,qK⟩;have A:=g.trans t;rw [M,L]at A;simp (maxSteps:=9^7)-implicitDefEqProofs+contextual [-X.ev,bN,h.ov];exact ⟨_,_,A,fun _=>⟨qy,ha,fJ.symm⟩,by omega,⟨Q,rfl,z,P,u,N.trans h.ov⟩,rfl,rfl,rfl,rfl⟩
end
end
section
open Go
section
variable{G H:AH} {m:Nat} {p:eD} {ps:List Int} {v:MV} {c:dS} {dt rs:List (List Value)} {eK:List (List bH×Int)} {vl:Value} {cs:List Value} {k:Int} {s:bH} {l:List bH}
theorem iw.ou {H':AH} {rows:List (List Value)} {store:List Int} {outs a:List (Int×Int)} {trace:List Ev} {vo:Value} (h:MH G H m v rows store outs trace) (M:Mod (fun b=>b=m∨aU v.vo b) H H') (f:MH G H' m {v with vo:=vo} rows store a trace) (d:∀b,aU vo b→aU v.vo b∨H.nx≤b):iw G H m v H' {v with vo:=vo} rows store a trace where
 mh:=f
 mod:=M.mono fun b _ q=>q.elim .inl fun q=>.inr (.inr (.inr (.inl q)))
 new:=fun b e=>by
  rcases e with q|q|q|q|q
  ·exact .inl (.inl q)
  ·exact .inl (.inr (.inl q))
  ·exact .inl (.inr (.inr (.inl q)))
  ·exact (d b q).imp (fun q=>.inr (.inr (.inr (.inl q)))) id
  ·exact .inl (.inr (.inr (.inr (.inr q))))
theorem Ge {n:Int} {args:List bY} {thn els:List bH} (h:Il G H m p ps v c dt eK vl cs rs k (.mk 5 n args thn els) l):
 lj G H 46 m p ps v c dt.length eK cs k (.mk 5 n args thn els) l:=xJ (how:=1) rfl rfl (.inl ⟨rfl,rfl⟩) h
theorem Gf {n:Int} {args:List bY} {thn els:List bH} (h:Il G H m p ps v c dt eK vl cs rs k (.mk 6 n args thn els) l):
 lj G H 47 m p ps v c dt.length eK cs k (.mk 6 n args thn els) l:=xJ (how:=2) rfl rfl (.inr ⟨rfl,rfl⟩) h
theorem Pa {w:Int} {V:List Vr} {op n:Int} {args:List bY} {thn els:List bH} (h:fk w V (.mk op n args thn els)=true) (d:op=1∨op=2∨op=3):∃y,args=[y]∧dA w V 1 y=true∧aB y≤400:=by
 obtain ⟨b,_,_,a⟩:=fZ h
 obtain ⟨y,rfl⟩:∃y,args=[y]:=by
  rcases a with⟨q,_⟩|⟨_,q⟩|⟨_,q⟩|⟨_,q⟩|⟨q,_⟩|⟨q,_⟩
  ·omega
  ·exact q
  ·exact q
  ·exact q
  ·omega
  ·omega
 exact ⟨y,rfl,b y (by simp)⟩
theorem C7 {n:Int} {args:List bY} {thn els:List bH} (h:Il G H m p ps v c dt eK vl cs rs k (.mk 1 n args thn els) l):
 lj G H 42 m p ps v c dt.length eK cs k (.mk 1 n args thn els) l:=by
 intro c' lL;obtain ⟨y,rfl,vD,O9⟩:=Pa h.row (by omega)
 have g:c'={bN p c (.mk 1 n [y] thn els) (cG l k (.mk 1 n [y] thn els) eK)with trace:=(bN p c (.mk 1 n [y] thn els) (cG l k (.mk 1 n [y] thn els) eK)).trace++[⟨0,k,if aZ p.w p.vars [c.store] y=0 then 0 else 1⟩],todo:=(if aZ p.w p.vars [c.store] y=0 then bI els (k+1+al thn)else bI thn (k+1))++cG l k (.mk 1 n [y] thn els) eK}:=by
  rw [lL,cM,if_neg (by omega),if_pos rfl];rfl
 clear lL;obtain ⟨Y,W,V,U,T,S⟩:=h.mt;have jO:=h.hs
 cases jO with| @mk _ _ va vt ve ra rt re _ _ _ i1 i2 i3 i4 i5 g1 g2 g3 g4 g5 g6 g7 g8=>
 refine Ca.aJ (F:=Xf) rfl rfl rfl ?_;have b:=h.mh.wf;have t:=Ext.alloc H (.cells 5 [.int .i64 1,.int .i64 n,va,vt,ve]);have d0:(H.alloc (.cells 5 [.int .i64 1,.int .i64 n,va,vt,ve])).ld ⟨H.nx,0,none⟩=some (.int .i64 1):=ai b rfl;have d1:(H.alloc (.cells 5 [.int .i64 1,.int .i64 n,va,vt,ve])).ld ⟨H.nx,1,none⟩=some (.int .i64 n):=ai b rfl;have d2:(H.alloc (.cells 5 [.int .i64 1,.int .i64 n,va,vt,ve])).ld ⟨H.nx,2,none⟩=some va:=ai b rfl;have d3:(H.alloc (.cells 5 [.int .i64 1,.int .i64 n,va,vt,ve])).ld ⟨H.nx,3,none⟩=some vt:=ai b rfl;have d4:(H.alloc (.cells 5 [.int .i64 1,.int .i64 n,va,vt,ve])).ld ⟨H.nx,4,none⟩=some ve:=ai b rfl;have d:(H.alloc (.cells 5 [.int .i64 1,.int .i64 n,va,vt,ve])).ldn ⟨H.nx,0,none⟩ 5=some [.int .i64 1,.int .i64 n,va,vt,ve]:=bj b 5 rfl;generalize cA:H.alloc (.cells 5 [.int .i64 1,.int .i64 n,va,vt,ve])=H1 at t d0 d1 d2 d3 d4 d;have bD:=t.wf b;have h1:=h.mh.ext t;have b7:=h.b7;have b5:=h.b5;have b1:=h.b1;have b2:=h.b2;have b3:=h.b3;rw [bx]at b3;have b4:=h.b4;have pa:=bh [y];have bt:=aR thn;have lt1:=fv thn;have qQ:=fv els;have be:=aR els;have D:=h.w;have Z:=h.w.symm;have key:=sS (op:=1) (n:=n) (vt:=vt) (ve:=ve) (k:=k) h1 (by rw [D];exact h.head) (by rw [D];exact h.store) h.vars h.cap g1 g2 (y:=y) rfl (by rw [D];exact vD) (by omega) (by rw [W];omega);have A1:=iw.mu h.mh t;have ev:iX p.w p.vars [c.store] [y]=mN p.w p.vars [c.store] y:=by simp [iX]
 have nl:aq [y]=aB y:=by simp [aq]
 rw [Z]at g;have cc:v.cost+aB y=(bN p c (.mk 1 n [y] thn els) (cG l k (.mk 1 n [y] thn els) eK)).cost:=by rw [W,bN];show _=c.cost+aq [y];rw [nl]
 have ct:c.trace++mN v.w p.vars [c.store] y=(bN p c (.mk 1 n [y] thn els) (cG l k (.mk 1 n [y] thn els) eK)).trace:=by rw [bN];show _=c.trace++iX p.w p.vars [c.store] [y];rw [ev,Z]
 rw [cc,ct]at key;simp (maxSteps:=9^7)-implicitDefEqProofs+contextual [-X.ev,Xf,cA,d];apply ah
 ·(simp-implicitDefEqProofs [-X.ev];rfl)
 refine (key).mono ?_;rintro x H2 ⟨rfl,lR,R⟩;have dd:=R.mod.ldn (a:=⟨H.nx,0,none⟩) (fun q=>by have:=h.mh.lt q;simp at this) d;simp (maxSteps:=9^7)-implicitDefEqProofs+contextual [-X.ev];apply ah
 ·(simp-implicitDefEqProofs [-X.ev];rfl)
 refine (iy R.mh h.hr h.hf h.hs h.hl h.h0 (by omega) (by rw [bx];omega) (by omega) (by omega)).mono ?_;rintro x H3 ⟨kc,dJ,qy,f,ha,fJ,qK⟩;have r:=R.trans f;have i:=r.mod.ldn (a:=⟨H.nx,0,none⟩) (fun q=>by have:=h.mh.lt q;simp at this) d;have N:=aL i (j:=3) rfl;have M:=aL i (j:=4) rfl;by_cases q:aZ v.w p.vars [c.store] y=0
 ·rw [if_pos q,if_pos q]at g
  have B:IntKind.i64.wrap (k+1)=k+1:=aj ⟨by omega,by omega⟩;have e3n:=aV.1 N;have Rm:=aV.1 M;simp only [q,if_true]at f r;have J:=f.mh;simp (maxSteps:=9^7)-implicitDefEqProofs+contextual [-X.ev,q,B,N,M];apply ah
  ·(simp-implicitDefEqProofs [-X.ev];rfl)
  refine (C5 J.wf (g3.sub J.sub) (hY.sub J.sub g4.Uw) (by omega) (by omega)).mono ?_;rintro x H4 ⟨rfl,o⟩;have u:=o.nx;have z:=o.n0;have L:=o.ldn Rm;have C:dz ve ve=true:=by obtain ⟨a,c,e⟩:=g6.len;rw [e];simp
  have w2:IntKind.i64.wrap (k+1+al thn)=k+1+al thn:=aj ⟨by omega,by omega⟩;have Q:=f.ext o;simp (maxSteps:=9^7)-implicitDefEqProofs+contextual [-X.ev,w2];apply ah
  ·(simp-implicitDefEqProofs [-X.ev];rfl)
  refine (oY (k:=k+1+al thn) Q.mh g6 g7 g8 ha (by omega) (by omega)).mono ?_;rintro x H5 ⟨U0,Gg,K,O,I,E,Pb⟩;have A:=A1.trans ((r.ext o).trans O);have Mg:=O.mod.nx;have Ik:=O.mod.n0;simp (maxSteps:=9^7)-implicitDefEqProofs+contextual [-X.ev,aN,aD,aE,u,z,Mg,Ik,Rm,L,C];subst g;refine ⟨?_,_,_,A,fun _=>⟨K,I,?_⟩,by omega,⟨Y,rfl,V,U,T,S⟩,rfl,rfl,rfl,rfl⟩
  ·exact h.ov
  ·rw [E,fJ]
 ·rw [if_neg q,if_neg q]at g
  have B:IntKind.i64.wrap (k+1)=k+1:=aj ⟨by omega,by omega⟩;simp only [q,if_false]at f r;simp (maxSteps:=9^7)-implicitDefEqProofs+contextual [-X.ev,q,B,N,M];apply ah
  ·(simp-implicitDefEqProofs [-X.ev];rfl)
  refine (oY (k:=k+1) f.mh g3 g4 g5 ha (by omega) (by omega)).mono ?_;rintro x H4 ⟨U0,Gg,K,P,I,E,Pb⟩;have A:=A1.trans (r.trans P);have z:=P.mod.n0;have u:=P.mod.nx;simp (maxSteps:=9^7)-implicitDefEqProofs+contextual [-X.ev,aN,aD,aE,z,u];subst g;refine ⟨?_,_,_,A,fun _=>⟨K,I,?_⟩,by omega,⟨Y,rfl,V,U,T,S⟩,rfl,rfl,rfl,rfl⟩
  ·exact h.ov
  ·rw [E,fJ]
theorem Kj {n:Int} {args:List bY} {thn els:List bH} (h:Il G H m p ps v c dt eK vl cs rs k (.mk 2 n args thn els) l):
 lj G H 43 m p ps v c dt.length eK cs k (.mk 2 n args thn els) l:=by
 intro c' E;obtain ⟨y,rfl,O,O9⟩:=Pa h.row (by omega)
 have f:c'={bN p c (.mk 2 n [y] thn els) (cG l k (.mk 2 n [y] thn els) eK)with trace:=(bN p c (.mk 2 n [y] thn els) (cG l k (.mk 2 n [y] thn els) eK)).trace++[⟨0,k,if aZ p.w p.vars [c.store] y=0 then 0 else 1⟩],todo:=if aZ p.w p.vars [c.store] y=0 then cG l k (.mk 2 n [y] thn els) eK else bI thn (k+1)++(k,.mk 2 n [y] thn els)::cG l k (.mk 2 n [y] thn els) eK}:=by
  rw [E,cM,if_neg (by omega),if_neg (by omega),if_pos rfl];rfl
 clear E;obtain ⟨C,B,z,u,t,r⟩:=h.mt;have S:=h.hs
 cases S with| @mk _ _ va vt ve ra rt re _ _ _ i1 i2 i3 i4 i5 g1 g2 g3 Z Y g6 g7 g8=>
 refine Ca.aJ (F:=Xg) rfl rfl rfl ?_;have b:=h.mh.wf;have g:=Ext.alloc H (.cells 5 [.int .i64 2,.int .i64 n,va,vt,ve]);have d0:(H.alloc (.cells 5 [.int .i64 2,.int .i64 n,va,vt,ve])).ld ⟨H.nx,0,none⟩=some (.int .i64 2):=ai b rfl;have d1:(H.alloc (.cells 5 [.int .i64 2,.int .i64 n,va,vt,ve])).ld ⟨H.nx,1,none⟩=some (.int .i64 n):=ai b rfl;have d2:(H.alloc (.cells 5 [.int .i64 2,.int .i64 n,va,vt,ve])).ld ⟨H.nx,2,none⟩=some va:=ai b rfl;have d3:(H.alloc (.cells 5 [.int .i64 2,.int .i64 n,va,vt,ve])).ld ⟨H.nx,3,none⟩=some vt:=ai b rfl;have d4:(H.alloc (.cells 5 [.int .i64 2,.int .i64 n,va,vt,ve])).ld ⟨H.nx,4,none⟩=some ve:=ai b rfl;have d:(H.alloc (.cells 5 [.int .i64 2,.int .i64 n,va,vt,ve])).ldn ⟨H.nx,0,none⟩ 5=some [.int .i64 2,.int .i64 n,va,vt,ve]:=bj b 5 rfl;generalize V:H.alloc (.cells 5 [.int .i64 2,.int .i64 n,va,vt,ve])=H1 at g d0 d1 d2 d3 d4 d;have bD:=g.wf b;have W:=h.mh.ext g;have b7:=h.b7;have b5:=h.b5;have b1:=h.b1;have b2:=h.b2;have b3:=h.b3;rw [bx]at b3;have b4:=h.b4;have pa:=bh [y];have bt:=aR thn;have M:=fv thn;have qQ:=fv els;have be:=aR els;have i:=h.w;have D:=h.w.symm;have key:=sS (op:=2) (n:=n) (vt:=vt) (ve:=ve) (k:=k) W (by rw [i];exact h.head) (by rw [i];exact h.store) h.vars h.cap g1 g2 (y:=y) rfl (by rw [i];exact O) (by omega) (by rw [B];omega);have I:=iw.mu h.mh g;have ev:iX p.w p.vars [c.store] [y]=mN p.w p.vars [c.store] y:=by simp [iX]
 have nl:aq [y]=aB y:=by simp [aq]
 rw [D]at f;have cc:v.cost+aB y=(bN p c (.mk 2 n [y] thn els) (cG l k (.mk 2 n [y] thn els) eK)).cost:=by rw [B,bN];show _=c.cost+aq [y];rw [nl]
 have ct:c.trace++mN v.w p.vars [c.store] y=(bN p c (.mk 2 n [y] thn els) (cG l k (.mk 2 n [y] thn els) eK)).trace:=by rw [bN];show _=c.trace++iX p.w p.vars [c.store] [y];rw [ev,D]
 rw [cc,ct]at key;simp (maxSteps:=9^7)-implicitDefEqProofs+contextual [-X.ev,Xg,V,d];apply ah
 ·(simp-implicitDefEqProofs [-X.ev];rfl)
 refine (key).mono ?_;rintro x H2 ⟨rfl,lR,e⟩;have dd:=e.mod.ldn (a:=⟨H.nx,0,none⟩) (fun q=>by have:=h.mh.lt q;simp at this) d;have e3:=aL dd (j:=3) rfl;by_cases q:aZ v.w p.vars [c.store] y=0
 ·rw [if_pos q,if_pos q]at f
  simp only [q,if_true]at e;simp (maxSteps:=9^7)-implicitDefEqProofs+contextual [-X.ev,q];apply ah
  ·(simp-implicitDefEqProofs [-X.ev];rfl)
  refine (iy e.mh h.hr h.hf h.hs h.hl h.h0 (by omega) (by rw [bx];omega) (by omega) (by omega)).mono ?_;rintro x H3 ⟨kc,dJ,qy,A3,U,R,qK⟩;have A:=I.trans (e.trans A3);simp (maxSteps:=9^7)-implicitDefEqProofs+contextual [-X.ev];subst f;refine ⟨?_,_,_,A,fun _=>⟨qy,U,?_⟩,by omega,⟨C,rfl,z,u,t,r⟩,rfl,rfl,rfl,rfl⟩
  ·exact h.ov
  ·exact R.symm
 ·rw [if_neg q,if_neg q]at f
  have L:IntKind.i64.wrap (k+1)=k+1:=aj ⟨by omega,by omega⟩;simp only [q,if_false]at e;have P:fE (Mk G) (dt++[[vl,.int .i64 k]]) (eK++[(.mk 2 n [y] thn els::l,k)]):=h.h0.snoc ⟨vl,_,rfl,h.hr,.cons h.hs h.hl,h.hf,by simp,by simpa using b4⟩;simp (maxSteps:=9^7)-implicitDefEqProofs+contextual [-X.ev,q,L,e3];apply ah
  ·(simp-implicitDefEqProofs [-X.ev];rfl)
  refine (oY (k:=k+1) e.mh g3 Z Y P (by simp;omega) (by omega)).mono ?_;rintro x H4 ⟨U0,Gg,Gi,o,T,Q,N⟩;have A:=I.trans (e.trans o);have K:=o.mod.n0;have J:=o.mod.nx;simp (maxSteps:=9^7)-implicitDefEqProofs+contextual [-X.ev,aN,aD,aE,K,J];subst f;simp at N;refine ⟨?_,_,_,A,fun _=>⟨Gi,T,?_⟩,by omega,⟨C,rfl,z,u,t,r⟩,rfl,rfl,rfl,rfl⟩
  ·exact h.ov
  ·rw [Q,gX,jB];simp
theorem Kk {n:Int} {args:List bY} {thn els:List bH} (h:Il G H m p ps v c dt eK vl cs rs k (.mk 3 n args thn els) l):
 lj G H 44 m p ps v c dt.length eK cs k (.mk 3 n args thn els) l:=by
 intro c' lL;obtain ⟨y,rfl,vD,O9⟩:=Pa h.row (by omega)
 have fF:c'={bN p c (.mk 3 n [y] thn els) (cG l k (.mk 3 n [y] thn els) eK)with outs:=c.outs++[(n,aZ p.w p.vars [c.store] y)]}:=by
  rw [lL,cM,if_neg (by omega),if_neg (by omega),if_neg (by omega),if_pos rfl];rfl
 clear lL;obtain ⟨m1,Z,m3,m4,m5,m6⟩:=h.mt;have jO:=h.hs
 cases jO with| @mk _ _ va vt ve ra rt re _ _ _ i1 i2 i3 i4 i5 g1 g2 g3 g4 g5 g6 g7 g8=>
 refine Ca.aJ (F:=Xh) rfl rfl rfl ?_;have e:=h.mh.wf;have t:=Ext.alloc H (.cells 5 [.int .i64 3,.int .i64 n,va,vt,ve]);have d0:(H.alloc (.cells 5 [.int .i64 3,.int .i64 n,va,vt,ve])).ld ⟨H.nx,0,none⟩=some (.int .i64 3):=ai e rfl;have U:(H.alloc (.cells 5 [.int .i64 3,.int .i64 n,va,vt,ve])).ld ⟨H.nx,1,none⟩=some (.int .i64 n):=ai e rfl;have d2:(H.alloc (.cells 5 [.int .i64 3,.int .i64 n,va,vt,ve])).ld ⟨H.nx,2,none⟩=some va:=ai e rfl;have d3:(H.alloc (.cells 5 [.int .i64 3,.int .i64 n,va,vt,ve])).ld ⟨H.nx,3,none⟩=some vt:=ai e rfl;have d4:(H.alloc (.cells 5 [.int .i64 3,.int .i64 n,va,vt,ve])).ld ⟨H.nx,4,none⟩=some ve:=ai e rfl;have d:(H.alloc (.cells 5 [.int .i64 3,.int .i64 n,va,vt,ve])).ldn ⟨H.nx,0,none⟩ 5=some [.int .i64 3,.int .i64 n,va,vt,ve]:=bj e 5 rfl;generalize cA:H.alloc (.cells 5 [.int .i64 3,.int .i64 n,va,vt,ve])=H1 at t d0 U d2 d3 d4 d;have bD:=t.wf e;have o:=h.mh.ext t;have b7:=h.b7;have b5:=h.b5;have b6:=h.b6;have b1:=h.b1;have b2:=h.b2;have b3:=h.b3;have b4:=h.b4;have N:=h.w;have nZ:=h.w.symm;obtain ⟨b4',o4,c4,vy,r,fO,bK,xI,km⟩:=gj.row g1 g2 (i:=0) (y:=y) rfl;have O:=o.sub.ldn bK;simp only [Nat.zero_mul,Nat.add_zero]at O;rw [←xI]at O;have CH:=d2;rw [fO]at CH;have key:=kF o (by rw [N];exact h.head) (by rw [N];exact h.store) h.vars h.cap km (by rw [N];exact vD) (by omega) (by rw [Z];omega);have A1:=iw.mu h.mh t;have ev:iX p.w p.vars [c.store] [y]=mN p.w p.vars [c.store] y:=by simp [iX]
 have nl:aq [y]=aB y:=by simp [aq]
 rw [nZ]at fF;have cc:v.cost+aB y=(bN p c (.mk 3 n [y] thn els) (cG l k (.mk 3 n [y] thn els) eK)).cost:=by rw [Z,bN];show _=c.cost+aq [y];rw [nl]
 have ct:c.trace++mN v.w p.vars [c.store] y=(bN p c (.mk 3 n [y] thn els) (cG l k (.mk 3 n [y] thn els) eK)).trace:=by rw [bN];show _=c.trace++iX p.w p.vars [c.store] [y];rw [ev,nZ]
 rw [cc,ct]at key;have W:=aI o.get o.n0 (k:=8) (v:=v.vo) rfl;obtain ⟨oa,oc,uG⟩:=h.mh.ou.shape;simp (maxSteps:=9^7)-implicitDefEqProofs+contextual [-X.ev,Xh,cA,U,CH,O,W];apply ah
 ·(simp-implicitDefEqProofs [-X.ev];rfl)
 refine (key).mono ?_;rintro x B ⟨rfl,lR,h2,u,k2⟩;have A2:=A1.trans (iw.tr (v:=v) h2 u k2);have C:=u.nx;have U1:=u.n0;have J:=aI h2.get h2.n0 (k:=8) (v:=v.vo) rfl;have E:=aV.1 W;have I:=aV.1 J
 have dd:=u.ldn (a:=⟨H.nx,0,none⟩) (fun q=>by
  rcases q with q|q
  ·have:=h.mh.lt (.inl rfl);simp at q;omega
  ·have:=h.mh.tr.lt q;simp at this) d
 have T:=aV.1 U;have S:=aV.1 (aL dd (j:=1) rfl);have P:=mZ (sz:=2) (z:=[.int .i64 0,.int .i64 0]) (H:=B) (v:=.agg #[.int .i64 n,.int .i64 (aZ v.w p.vars [c.store] y)]) rfl rfl rfl;simp only [dM]at P;have X3:=Ext.alloc B (.cells 2 [.int .i64 n,.int .i64 (aZ v.w p.vars [c.store] y)])
 obtain ⟨H3,OO⟩:∃H3,B.alloc (.cells 2 [.int .i64 n,.int .i64 (aZ v.w p.vars [c.store] y)])=H3:=⟨_,rfl⟩
 obtain ⟨s',H4,ha,f,M4,L,Y,yy,wf4,lF,qx,K⟩:=gF (bytes:=16) h2.wf h2.ou (r:=[.int .i64 n,.int .i64 (aZ v.w p.vars [c.store] y)]) rfl OO (by rw [gH];omega) (by rw [gH];omega);rw [OO]at P X3;obtain ⟨a,V,hs⟩:=f.shape;rw [apP,List.length_singleton,gH]at hs;subst hs;have R:=M4.get h2.d1.2.2.1 h2.get;obtain ⟨H5,s5,M5,L3,yz,Q⟩:=bV R (by rw [Y];exact h2.n0) (k:=8) (vs:=[.slice a (c.outs.length+1) V]) (by simp)
 have o5:da H5 2 (.slice a (c.outs.length+1) V) (dw (c.outs++[(n,aZ v.w p.vars [c.store] y)])):=by
  rw [sN];exact f.mod M5 fun b g q=>by have:=L b g;have:=h2.lt (.inl rfl);omega
 have L4:Mod (fun b=>b=m∨aU v.vo b) B H5:=(M4.mono fun x _ M=>.inr M).trans (M5.mono fun x _ M=>.inl M);have h5:=h2.UU (vo:=.slice a (c.outs.length+1) V) L4 Q o5 (fun b g=>.inr (L b g));have A5:=iw.ou h2 L4 h5 (fun b g=>.inr (L b g));have D:dz v.vo v.vo=true:=by rw [uG];simp
 have sK:eM [.int .i64 0,.int .i64 0] [(0,1,.int .i64 n),(1,1,.int .i64 (aZ v.w p.vars [c.store] y))]=some (.agg #[.int .i64 n,.int .i64 (aZ v.w p.vars [c.store] y)]):=rfl;simp (maxSteps:=9^7)-implicitDefEqProofs+contextual [-X.ev,sK,P,ha,s5,C,U1,E,I,T,S,D,lF,Y,yz,qx,K,L3,aN,aD,aE];apply ah
 ·(simp-implicitDefEqProofs [-X.ev];rfl)
 refine (iy A5.mh h.hr h.hf h.hs h.hl h.h0 (by omega) (by omega) (by omega) (by omega)).mono ?_;rintro x H6 ⟨kc,dJ,qy,A6,OQ,fJ,qK⟩;have A:=A2.trans (A5.trans A6);simp (maxSteps:=9^7)-implicitDefEqProofs+contextual [-X.ev];subst fF;refine ⟨?_,_,_,A,fun _=>⟨qy,OQ,?_⟩,by omega,⟨m1,rfl,m3,m4,m5,m6⟩,rfl,rfl,rfl,rfl⟩
 ·exact h.ov
 ·exact fJ.symm
end
end
section
open Go
section
variable{G H:AH} {m:Nat} {p:eD} {ps:List Int} {v:MV} {c:dS} {dt rs:List (List Value)} {eK:List (List bH×Int)} {vl:Value} {cs:List Value} {k:Int} {s:bH} {l:List bH}
theorem Kl {n:Int} {args:List bY} {thn els:List bH} (h:Il G H m p ps v c dt eK vl cs rs k (.mk 0 n args thn els) l):
 lj G H 41 m p ps v c dt.length eK cs k (.mk 0 n args thn els) l:=by
 intro c' lL;rw [cM,if_pos rfl]at lL;obtain ⟨O,_,_,Bo⟩:=fZ h.row;obtain ⟨m1,C,m3,m4,m5,m6⟩:=h.mt;have jO:=h.hs
 cases jO with| @mk _ _ va vt ve ra rt re _ _ _ i1 i2 i3 i4 i5 g1 g2 g3 g4 g5 g6 g7 g8=>
 refine Ca.aJ (F:=Ts) rfl rfl rfl ?_;have g:=h.mh.wf;have Q:=Ext.alloc H (.cells 5 [.int .i64 0,.int .i64 n,va,vt,ve]);have d0:(H.alloc (.cells 5 [.int .i64 0,.int .i64 n,va,vt,ve])).ld ⟨H.nx,0,none⟩=some (.int .i64 0):=ai g rfl;have d1:(H.alloc (.cells 5 [.int .i64 0,.int .i64 n,va,vt,ve])).ld ⟨H.nx,1,none⟩=some (.int .i64 n):=ai g rfl;have d2:(H.alloc (.cells 5 [.int .i64 0,.int .i64 n,va,vt,ve])).ld ⟨H.nx,2,none⟩=some va:=ai g rfl;have d3:(H.alloc (.cells 5 [.int .i64 0,.int .i64 n,va,vt,ve])).ld ⟨H.nx,3,none⟩=some vt:=ai g rfl;have d4:(H.alloc (.cells 5 [.int .i64 0,.int .i64 n,va,vt,ve])).ld ⟨H.nx,4,none⟩=some ve:=ai g rfl;have d:(H.alloc (.cells 5 [.int .i64 0,.int .i64 n,va,vt,ve])).ldn ⟨H.nx,0,none⟩ 5=some [.int .i64 0,.int .i64 n,va,vt,ve]:=bj g 5 rfl;generalize cA:H.alloc (.cells 5 [.int .i64 0,.int .i64 n,va,vt,ve])=H1 at Q d0 d1 d2 d3 d4 d;have bD:=Q.wf g;have P:=h.mh.ext Q;have b7:=h.b7;have b5:=h.b5;have b6:=h.b6;have b1:=h.b1;have b2:=h.b2;have b3:=h.b3;have b4:=h.b4;have b8:=h.b8;have xK:=h.w;have B:=h.w.symm;have f:=h.head;have u:=h.store;rw [B]at f u;have A1:=iw.mu h.mh Q
 have eh:1≤v.w∧v.w≤8:=⟨(aF f).1,(aF f).2.1⟩
 have hp:=iV eh;have yB:CZ v.w p.vars [c.store]:=fun t ht=>by simp at ht;subst ht;exact u
 have out:∀b,(b=m∨aU v.vt b)→b≠H.nx:=fun b hb e=>by
  subst e;rcases hb with q|q
  ·have:=h.mh.lt (.inl q);omega
  ·have:=h.mh.tr.lt q;omega
 rw [B]at O;have nb:¬ Mf m v H.nx:=fun q=>by have:=h.mh.lt q;omega
 have w0:IntKind.i64.wrap 0=0:=rfl;have U2:IntKind.i64.wrap 1=1:=rfl
 obtain ⟨N,fV⟩:(0≤n∧n<p.vars.length)∧((¬ 1<ak p.vars n∧∃a,args=[a])∨(1<ak p.vars n∧∃a b,args=[a,b])):=by
  rcases Bo with⟨_,q⟩|⟨q,_⟩|⟨q,_⟩|⟨q,_⟩|⟨q,_⟩|⟨q,_⟩
  ·exact q
  ·omega
  ·omega
  ·omega
  ·omega
  ·omega
 rcases fV with⟨I,y,rfl⟩|⟨I,z,y,rfl⟩
 ·obtain ⟨E,O9⟩:=O y (by simp)
  have Ij:=iv f yB y E;obtain ⟨b4',o4,c4,vy,r,Y,o,xI,km⟩:=gj.row g1 g2 (i:=0) (y:=y) rfl;simp only [Nat.zero_mul,Nat.add_zero]at o;rw [←xI]at o;simp (maxSteps:=9^7)-implicitDefEqProofs+contextual [-X.ev,Ts,cA,d];apply ah
  ·(simp-implicitDefEqProofs [-X.ev];rfl)
  refine (Bm (op:=0) (n:=n) (va:=va) (vt:=vt) (ve:=ve) P h.vars N I).mono ?_;rintro x H2 ⟨rfl,X2⟩;have h2:=P.ext X2;have w9:=h2.sub.ldn o;have J:=aL (X2.ldn d) (j:=2) rfl;rw [Y]at J;have R:=iw.mu P X2;have u2:=dV (w:=v.w) (V:=p.vars) (S:=[c.store]) y;simp (maxSteps:=9^7)-implicitDefEqProofs+contextual [-X.ev,J,w9,w0];apply ah
  ·(simp-implicitDefEqProofs [-X.ev];rfl)
  refine (kF h2 f u h.vars h.cap km E (by omega) (by rw [C];omega)).mono ?_;rintro x H3 ⟨rfl,lR,h3,M3,W⟩;have L:=R.trans (iw.tr (v:=v) h3 M3 W);simp (maxSteps:=9^7)-implicitDefEqProofs+contextual [-X.ev];apply ah
  ·(simp-implicitDefEqProofs [-X.ev];rfl)
  refine (iy L.mh h.hr h.hf h.hs h.hl h.h0 (by omega) (by omega) (by omega) (by omega)).mono ?_;rintro x H4 ⟨kc,T,qy,M,ha,fJ,qK⟩;have K:=L.trans M;have e1:=aL (K.mod.ldn (a:=⟨H.nx,0,none⟩) nb d) (j:=1) rfl;simp (maxSteps:=9^7)-implicitDefEqProofs+contextual [-X.ev,e1];apply ah
  ·(simp-implicitDefEqProofs [-X.ev];rfl)
  refine (mR (n:=n) (i:=0) (a:=aZ v.w p.vars [c.store] y) M.mh f u h.vars h.cap N (by omega) (by simp only [apP];omega)).mono ?_;rintro x H5 ⟨Pc,h5,M5,U⟩;have B5:=K.trans (iw.YX h5 M5 U);have A:=A1.trans B5;simp (maxSteps:=9^7)-implicitDefEqProofs+contextual [-X.ev]
  have fF:c'=fL p.vars (bN p c (.mk 0 n [y] thn els) (cG l k (.mk 0 n [y] thn els) eK)) n 0 (aZ v.w p.vars [c.store] y):=by
   rw [lL,if_neg I];show fL _ _ _ _ (aZ p.w p.vars [c.store] y)=_;rw [B]
  subst fF;have iS:(fL p.vars (bN p c (.mk 0 n [y] thn els) (cG l k (.mk 0 n [y] thn els) eK)) n 0 (aZ v.w p.vars [c.store] y)).store=c.store.set (bq p.vars n+0%ak p.vars n).toNat (aZ v.w p.vars [c.store] y):=rfl
  have Z:(fL p.vars (bN p c (.mk 0 n [y] thn els) (cG l k (.mk 0 n [y] thn els) eK)) n 0 (aZ v.w p.vars [c.store] y)).trace=c.trace++mN v.w p.vars [c.store] y++if 1<ak p.vars n then [⟨2,n,0%ak p.vars n⟩]else []:=by
   show c.trace++iX p.w p.vars [c.store] [y]++_=_;rw [B];simp [iX]
  rw [←iS,←Z]at A;refine ⟨?_,_,T,A,fun _=>⟨qy,ha,fJ.symm⟩,by omega,⟨m1,?_,m3,m4,m5,m6⟩,rfl,rfl,rfl,rfl⟩
  ·exact h.ov
  ·show v.cost+aB y=c.cost+aq [y]
   rw [C];simp [aq]
 ·obtain ⟨E,O9⟩:=O y (by simp)
  obtain ⟨D,YH⟩:=O z (by simp);have Ij:=iv f yB y E;have hwz:=iv f yB z D;obtain ⟨b4',o4,c4,vy,r,Y,o,xI,km⟩:=gj.row g1 g2 (i:=1) (y:=y) rfl;simp only [Nat.one_mul]at o;rw [←xI]at o;simp (maxSteps:=9^7)-implicitDefEqProofs+contextual [-X.ev,Ts,cA,d];apply ah
  ·(simp-implicitDefEqProofs [-X.ev];rfl)
  refine (Bn (op:=0) (n:=n) (va:=va) (vt:=vt) (ve:=ve) P f u h.vars h.cap N I g1 g2 (y:=z) rfl D (by omega) (by rw [C];omega)).mono ?_;rintro x H2 ⟨rfl,Ml,h2,M2,k2⟩;have w9:=h2.sub.ldn o;have R:=iw.tr (v:=v) h2 M2 k2;have J:=aL (R.mod.ldn (a:=⟨H.nx,0,none⟩) nb d) (j:=2) rfl;rw [Y]at J;have u1:=dV (w:=v.w) (V:=p.vars) (S:=[c.store]) z;have u2:=dV (w:=v.w) (V:=p.vars) (S:=[c.store]) y;have pz:=dZ z;simp (maxSteps:=9^7)-implicitDefEqProofs+contextual [-X.ev,J,w9,U2];apply ah
  ·(simp-implicitDefEqProofs [-X.ev];rfl)
  refine (kF h2 f u h.vars h.cap km E (by rw [apP];omega) (by show 0≤v.cost+aB z∧v.cost+aB z+aB y≤2^60;rw [C];omega)).mono ?_;rintro x H3 ⟨rfl,lR,h3,M3,W⟩;have L:=R.trans (iw.tr (v:={v with vt:=Ml,cost:=v.cost+aB z}) h3 M3 W);simp (maxSteps:=9^7)-implicitDefEqProofs+contextual [-X.ev];apply ah
  ·(simp-implicitDefEqProofs [-X.ev];rfl)
  refine (iy L.mh h.hr h.hf h.hs h.hl h.h0 (by omega) (by omega) (by omega) (by omega)).mono ?_;rintro x H4 ⟨kc,T,qy,M,ha,fJ,qK⟩;have K:=L.trans M;have e1:=aL (K.mod.ldn (a:=⟨H.nx,0,none⟩) nb d) (j:=1) rfl;simp (maxSteps:=9^7)-implicitDefEqProofs+contextual [-X.ev,e1];apply ah
  ·(simp-implicitDefEqProofs [-X.ev];rfl)
  refine (mR (n:=n) (i:=(aZ v.w p.vars [c.store] z)) (a:=aZ v.w p.vars [c.store] y) M.mh f u h.vars h.cap N (by omega) (by simp only [apP];omega)).mono ?_;rintro x H5 ⟨Pc,h5,M5,U⟩;have B5:=K.trans (iw.YX h5 M5 U);have A:=A1.trans B5;simp (maxSteps:=9^7)-implicitDefEqProofs+contextual [-X.ev]
  have fF:c'=fL p.vars (bN p c (.mk 0 n [z,y] thn els) (cG l k (.mk 0 n [z,y] thn els) eK)) n (aZ v.w p.vars [c.store] z) (aZ v.w p.vars [c.store] y):=by
   rw [lL,if_pos I];show fL _ _ _ _ (aZ p.w p.vars [c.store] y)=_;rw [B];rfl
  subst fF;have iS:(fL p.vars (bN p c (.mk 0 n [z,y] thn els) (cG l k (.mk 0 n [z,y] thn els) eK)) n (aZ v.w p.vars [c.store] z) (aZ v.w p.vars [c.store] y)).store=c.store.set (bq p.vars n+(aZ v.w p.vars [c.store] z)%ak p.vars n).toNat (aZ v.w p.vars [c.store] y):=rfl
  have Z:(fL p.vars (bN p c (.mk 0 n [z,y] thn els) (cG l k (.mk 0 n [z,y] thn els) eK)) n (aZ v.w p.vars [c.store] z) (aZ v.w p.vars [c.store] y)).trace=c.trace++mN v.w p.vars [c.store] z++mN v.w p.vars [c.store] y++if 1<ak p.vars n then [⟨2,n,(aZ v.w p.vars [c.store] z)%ak p.vars n⟩]else []:=by
   show c.trace++iX p.w p.vars [c.store] [z,y]++_=_;rw [B];simp [iX]
  rw [←iS,←Z]at A;refine ⟨?_,_,T,A,fun _=>⟨qy,ha,fJ.symm⟩,by omega,⟨m1,?_,m3,m4,m5,m6⟩,rfl,rfl,rfl,rfl⟩
  ·exact h.ov
  ·show v.cost+aB z+aB y=c.cost+aq [z,y]
   rw [C];simp [aq];omega
end
end
section
open Go
section
variable{G H:AH} {m:Nat} {p:eD} {ps:List Int} {v:MV} {c:dS} {dt rs:List (List Value)} {eK:List (List bH×Int)} {vl:Value} {cs:List Value} {k:Int} {s:bH} {l:List bH}
theorem Gk {n:Int} {args:List bY} {thn els:List bH} (h:Il G H m p ps v c dt eK vl cs rs k (.mk 4 n args thn els) l):
 lj G H 45 m p ps v c dt.length eK cs k (.mk 4 n args thn els) l:=by
 intro c' r;rw [cM,if_neg (by omega),if_neg (by omega),if_neg (by omega),if_neg (by omega),if_pos rfl]at r;rw [show(bN p c (.mk 4 n args thn els) (cG l k (.mk 4 n args thn els) eK)).used=c.used from rfl]at r;obtain ⟨aH,_,_,Bo⟩:=fZ h.row;obtain ⟨m1,L,o,m4,U,m6⟩:=h.mt;have jO:=h.hs
 cases jO with| @mk _ _ va vt ve ra rt re _ _ _ i1 i2 i3 i4 i5 g1 g2 g3 g4 g5 g6 g7 g8=>
 refine Ca.aJ (F:=Tt) rfl rfl rfl ?_;have z:=h.mh.wf;have Z:=Ext.alloc H (.cells 5 [.int .i64 4,.int .i64 n,va,vt,ve]);have d0:(H.alloc (.cells 5 [.int .i64 4,.int .i64 n,va,vt,ve])).ld ⟨H.nx,0,none⟩=some (.int .i64 4):=ai z rfl;have d1:(H.alloc (.cells 5 [.int .i64 4,.int .i64 n,va,vt,ve])).ld ⟨H.nx,1,none⟩=some (.int .i64 n):=ai z rfl;have d2:(H.alloc (.cells 5 [.int .i64 4,.int .i64 n,va,vt,ve])).ld ⟨H.nx,2,none⟩=some va:=ai z rfl;have d3:(H.alloc (.cells 5 [.int .i64 4,.int .i64 n,va,vt,ve])).ld ⟨H.nx,3,none⟩=some vt:=ai z rfl;have d4:(H.alloc (.cells 5 [.int .i64 4,.int .i64 n,va,vt,ve])).ld ⟨H.nx,4,none⟩=some ve:=ai z rfl;have d:(H.alloc (.cells 5 [.int .i64 4,.int .i64 n,va,vt,ve])).ldn ⟨H.nx,0,none⟩ 5=some [.int .i64 4,.int .i64 n,va,vt,ve]:=bj z 5 rfl;generalize cA:H.alloc (.cells 5 [.int .i64 4,.int .i64 n,va,vt,ve])=H1 at Z d0 d1 d2 d3 d4 d;have bD:=Z.wf z;have Y:=h.mh.ext Z;have b7:=h.b7;have b5:=h.b5;have b6:=h.b6;have b1:=h.b1;have b2:=h.b2;have b3:=h.b3;have b4:=h.b4;have b8:=h.b8;have xK:=h.w;have D:=h.w.symm;have E:=h.head;have O:=h.store;rw [D]at E O;have A1:=iw.mu h.mh Z
 have eh:1≤v.w∧v.w≤8:=⟨(aF E).1,(aF E).2.1⟩
 have hp:=iV eh;have yB:CZ v.w p.vars [c.store]:=fun t ht=>by simp at ht;subst ht;exact O
 have out:∀b,(b=m∨aU v.vt b)→b≠H.nx:=fun b hb e=>by
  subst e;rcases hb with q|q
  ·have:=h.mh.lt (.inl q);omega
  ·have:=h.mh.tr.lt q;omega
 rw [D]at aH;have nb:¬ Mf m v H.nx:=fun q=>by have:=h.mh.lt q;omega
 have w0:IntKind.i64.wrap 0=0:=rfl;have U2:IntKind.i64.wrap 1=1:=rfl
 obtain ⟨W,fV⟩:(0≤n∧n<p.vars.length)∧((¬ 1<ak p.vars n∧args=[])∨(1<ak p.vars n∧∃a,args=[a])):=by
  rcases Bo with⟨q,_⟩|⟨q,_⟩|⟨q,_⟩|⟨q,_⟩|⟨_,q⟩|⟨q,_⟩
  ·omega
  ·omega
  ·omega
  ·omega
  ·exact q
  ·omega
 obtain ⟨pa,pc,U3⟩:=h.bz.len;rcases fV with⟨M,rfl⟩|⟨M,y,rfl⟩
 ·simp (maxSteps:=9^7)-implicitDefEqProofs+contextual [-X.ev,Tt,cA,d]
  apply ah
  ·(simp-implicitDefEqProofs [-X.ev];rfl)
  refine (Bm (op:=4) (n:=n) (va:=va) (vt:=vt) (ve:=ve) Y h.vars W M).mono ?_;rintro x H2 ⟨rfl,X2⟩;have h2:=Y.ext X2;have u:=iw.mu Y X2;have I:=aI h2.get h2.n0 (k:=5) (v:=v.vp) rfl;have f11:=aI h2.get h2.n0 (k:=11) (v:=.int .i64 v.used) rfl;rw [U3]at I;rw [o]at f11;by_cases q:ps.length≤c.used
  ·have C:(c.used:Int)=(ps.length:Int):=by omega
   rw [if_pos q]at r;simp (maxSteps:=9^7)-implicitDefEqProofs+contextual [-X.ev,I,f11,o,C,aN,aD,aE];apply ah
   ·(simp-implicitDefEqProofs [-X.ev];rfl)
   refine (rl (how:=4) (n:=k) u.mh).mono ?_;rintro x H3 ⟨rfl,g⟩;have A:=(A1.trans u).trans g;simp (maxSteps:=9^7)-implicitDefEqProofs+contextual [-X.ev];subst r
   have B:(eY (bN p c (.mk 4 n [] thn els) (cG l k (.mk 4 n [] thn els) eK)) 4 k).trace=c.trace:=by
    show c.trace++iX p.w p.vars [c.store] []=_;rw [D];simp [iX]
   rw [←B]at A;refine ⟨?_,_,_,A,fun q=>by simp [eY]at q,by simp,⟨rfl,?_,o,rfl,U,rfl⟩,rfl,rfl,rfl,rfl⟩
   ·rfl
   ·show v.cost=c.cost+aq []
    rw [L];simp [aq]
  ·have C:¬ (c.used:Int)=(ps.length:Int):=by omega
   rw [if_neg q]at r;simp (maxSteps:=9^7)-implicitDefEqProofs+contextual [-X.ev,I,f11,o,C,aN,aD,aE];apply ah
   ·(simp-implicitDefEqProofs [-X.ev];rfl)
   refine (iy u.mh h.hr h.hf h.hs h.hl h.h0 (by omega) (by omega) (by omega) (by omega)).mono ?_;rintro x H3 ⟨kc,dJ,qy,g,ha,fJ,qK⟩;have B3:=u.trans g;have P:=aI g.mh.get g.mh.n0 (k:=11) (v:=.int .i64 v.used) rfl;obtain ⟨H4,s4,T,yy,nN⟩:=g.mh.cell (v':={v with vf:=kc,used:=(c.used:Int)+1}) 11 (.int .i64 ((c.used:Int)+1)) (by omega) rfl rfl rfl rfl rfl;have R:=B3.trans T;have w2:IntKind.i64.wrap ((c.used:Int)+1)=(c.used:Int)+1:=aj ⟨by omega,by omega⟩;have w3:IntKind.i64.wrap (c.used:Int)=(c.used:Int):=aj ⟨by omega,by omega⟩;have e1:=aL (R.mod.ldn (a:=⟨H.nx,0,none⟩) nb d) (j:=1) rfl;have f:=T.mh
   obtain ⟨a,N⟩:∃a,ps[c.used]?=some a:=⟨_,apG (by omega)⟩
   have fO:et ps c.used=a:=by simp [et,N]
   obtain ⟨bp,op_,cp_,Fj,dP⟩:=(ep.sub f.sub h.bz).at N;have Q:=aI f.get f.n0 (k:=5) (v:=v.vp) rfl;have Pd:=aI f.get f.n0 (k:=11) (v:=.int .i64 ((c.used:Int)+1)) rfl;rw [Fj]at Q;have dh:(c.used:Int)<(ps.length:Int):=by omega
   rw [o]at P;simp (maxSteps:=9^7)-implicitDefEqProofs+contextual [-X.ev,P,w2,s4,e1,Q,Pd,w3,dh,dP];apply ah
   ·(simp-implicitDefEqProofs [-X.ev];rfl)
   refine (mR (n:=n) (i:=0) (a:=a) f E O h.vars h.cap W (by omega) (by omega)).mono ?_;rintro x H5 ⟨Pc,h5,J,k5⟩;have K:=iw.YX h5 J k5;have A:=A1.trans (R.trans K);have Mg:=J.nx;have Ik:=J.n0;simp (maxSteps:=9^7)-implicitDefEqProofs+contextual [-X.ev,aN,aD,aE,Mg,Ik]
   have fF:c'=fL p.vars {bN p c (.mk 4 n [] thn els) (cG l k (.mk 4 n [] thn els) eK)with used:=c.used+1} n 0 a:=by
    rw [r,if_neg M,fO]
   subst fF;have iS:(fL p.vars {bN p c (.mk 4 n [] thn els) (cG l k (.mk 4 n [] thn els) eK)with used:=c.used+1} n 0 a).store=c.store.set (bq p.vars n+0%ak p.vars n).toNat a:=rfl
   have B:(fL p.vars {bN p c (.mk 4 n [] thn els) (cG l k (.mk 4 n [] thn els) eK)with used:=c.used+1} n 0 a).trace=c.trace++if 1<ak p.vars n then [⟨2,n,0%ak p.vars n⟩]else []:=by
    show c.trace++iX p.w p.vars [c.store] []++_=_;rw [D];simp [iX]
   rw [←iS,←B]at A;refine ⟨?_,_,dJ,A,fun _=>⟨qy,ha,fJ.symm⟩,by omega,⟨m1,?_,by show(c.used:Int)+1=((c.used+1:Nat):Int);omega,m4,U,m6⟩,rfl,rfl,rfl,rfl⟩
   ·exact h.ov
   ·show v.cost=c.cost+aq []
    rw [L];simp [aq]
 ·obtain ⟨vD,O9⟩:=aH y (by simp)
  have Ij:=iv E yB y vD;simp (maxSteps:=9^7)-implicitDefEqProofs+contextual [-X.ev,Tt,cA,d];apply ah
  ·(simp-implicitDefEqProofs [-X.ev];rfl)
  refine (Bn (op:=4) (n:=n) (va:=va) (vt:=vt) (ve:=ve) Y E O h.vars h.cap W M g1 g2 (y:=y) rfl vD (by omega) (by rw [L];omega)).mono ?_;rintro x H2 ⟨rfl,Ml,h2,M2,k2⟩;have u:=iw.tr (v:=v) h2 M2 k2;have u1:=dV (w:=v.w) (V:=p.vars) (S:=[c.store]) y;have I:=aI h2.get h2.n0 (k:=5) (v:=v.vp) rfl;have f11:=aI h2.get h2.n0 (k:=11) (v:=.int .i64 v.used) rfl;rw [U3]at I;rw [o]at f11;by_cases q:ps.length≤c.used
  ·have C:(c.used:Int)=(ps.length:Int):=by omega
   rw [if_pos q]at r;simp (maxSteps:=9^7)-implicitDefEqProofs+contextual [-X.ev,I,f11,o,C,aN,aD,aE];apply ah
   ·(simp-implicitDefEqProofs [-X.ev];rfl)
   refine (rl (how:=4) (n:=k) u.mh).mono ?_;rintro x H3 ⟨rfl,g⟩;have A:=(A1.trans u).trans g;simp (maxSteps:=9^7)-implicitDefEqProofs+contextual [-X.ev];subst r
   have B:(eY (bN p c (.mk 4 n [y] thn els) (cG l k (.mk 4 n [y] thn els) eK)) 4 k).trace=c.trace++mN v.w p.vars [c.store] y:=by
    show c.trace++iX p.w p.vars [c.store] [y]=_;rw [D];simp [iX]
   rw [←B]at A;refine ⟨?_,_,_,A,fun q=>by simp [eY]at q,by simp,⟨rfl,?_,o,rfl,U,rfl⟩,rfl,rfl,rfl,rfl⟩
   ·rfl
   ·show v.cost+aB y=c.cost+aq [y]
    rw [L];simp [aq]
  ·have C:¬ (c.used:Int)=(ps.length:Int):=by omega
   rw [if_neg q]at r;simp (maxSteps:=9^7)-implicitDefEqProofs+contextual [-X.ev,I,f11,o,C,aN,aD,aE];apply ah
   ·(simp-implicitDefEqProofs [-X.ev];rfl)
   refine (iy u.mh h.hr h.hf h.hs h.hl h.h0 (by omega) (by omega) (by omega) (by omega)).mono ?_;rintro x H3 ⟨kc,dJ,qy,g,ha,fJ,qK⟩;have B3:=u.trans g;have P:=aI g.mh.get g.mh.n0 (k:=11) (v:=.int .i64 v.used) rfl;obtain ⟨H4,s4,T,yy,nN⟩:=g.mh.cell (v':={v with vt:=Ml,cost:=v.cost+aB y,vf:=kc,used:=(c.used:Int)+1}) 11 (.int .i64 ((c.used:Int)+1)) (by omega) rfl rfl rfl rfl rfl;have R:=B3.trans T;have w2:IntKind.i64.wrap ((c.used:Int)+1)=(c.used:Int)+1:=aj ⟨by omega,by omega⟩;have w3:IntKind.i64.wrap (c.used:Int)=(c.used:Int):=aj ⟨by omega,by omega⟩;have e1:=aL (R.mod.ldn (a:=⟨H.nx,0,none⟩) nb d) (j:=1) rfl;have f:=T.mh
   obtain ⟨a,N⟩:∃a,ps[c.used]?=some a:=⟨_,apG (by omega)⟩
   have fO:et ps c.used=a:=by simp [et,N]
   obtain ⟨bp,op_,cp_,Fj,dP⟩:=(ep.sub f.sub h.bz).at N;have Q:=aI f.get f.n0 (k:=5) (v:=v.vp) rfl;have Pd:=aI f.get f.n0 (k:=11) (v:=.int .i64 ((c.used:Int)+1)) rfl;rw [Fj]at Q;have dh:(c.used:Int)<(ps.length:Int):=by omega
   rw [o]at P;simp (maxSteps:=9^7)-implicitDefEqProofs+contextual [-X.ev,P,w2,s4,e1,Q,Pd,w3,dh,dP];apply ah
   ·(simp-implicitDefEqProofs [-X.ev];rfl)
   refine (mR (n:=n) (i:=(aZ v.w p.vars [c.store] y)) (a:=a) f E O h.vars h.cap W (by omega) (by simp only [apP];omega)).mono ?_;rintro x H5 ⟨Pc,h5,J,k5⟩;have K:=iw.YX h5 J k5;have A:=A1.trans (R.trans K);have Mg:=J.nx;have Ik:=J.n0;simp (maxSteps:=9^7)-implicitDefEqProofs+contextual [-X.ev,aN,aD,aE,Mg,Ik]
   have fF:c'=fL p.vars {bN p c (.mk 4 n [y] thn els) (cG l k (.mk 4 n [y] thn els) eK)with used:=c.used+1} n (aZ v.w p.vars [c.store] y) a:=by
    rw [r,if_pos M,fO];show fL _ _ _ (aZ p.w p.vars [c.store] y) _=_;rw [D]
   subst fF;have iS:(fL p.vars {bN p c (.mk 4 n [y] thn els) (cG l k (.mk 4 n [y] thn els) eK)with used:=c.used+1} n (aZ v.w p.vars [c.store] y) a).store=c.store.set (bq p.vars n+(aZ v.w p.vars [c.store] y)%ak p.vars n).toNat a:=rfl
   have B:(fL p.vars {bN p c (.mk 4 n [y] thn els) (cG l k (.mk 4 n [y] thn els) eK)with used:=c.used+1} n (aZ v.w p.vars [c.store] y) a).trace=c.trace++mN v.w p.vars [c.store] y++if 1<ak p.vars n then [⟨2,n,(aZ v.w p.vars [c.store] y)%ak p.vars n⟩]else []:=by
    show c.trace++iX p.w p.vars [c.store] [y]++_=_;rw [D];simp [iX]
   rw [←iS,←B]at A;refine ⟨?_,_,dJ,A,fun _=>⟨qy,ha,fJ.symm⟩,by omega,⟨m1,?_,by show(c.used:Int)+1=((c.used+1:Nat):Int);omega,m4,U,m6⟩,rfl,rfl,rfl,rfl⟩
   ·exact h.ov
   ·show v.cost+aB y=c.cost+aq [y]
    rw [L];simp [aq]
end
end
section
open Go
structure Inv (p:eD) (ps:List Int) (c:dS):Prop where
 head:aC p.w p.vars=true
 store:ch p.w p.vars c.store=true
 words:∀a∈ps,0≤a∧a<2^p.w.toNat
 used:c.used≤ps.length∧ps.length≤16
 RN:al p.body≤400
 todo:∀it∈c.todo,0≤it.1∧it.1+bA it.2≤al p.body∧fk p.w p.vars it.2=true∧bx it.2≤400
 fuel:0≤c.fuel∧c.fuel≤4096
 tr:(c.trace.length:Int)+500*c.fuel≤2^30
 ou:(c.outs.length:Int)+c.fuel≤2^30
 co:0≤c.cost∧c.cost+500*c.fuel≤2^40
theorem oZ {w:Int} {V:List Vr} {C N:Int}:∀(l:List bH) (k:Int),0≤k→k+al l≤C→fX w V l=true→aw l≤N→∀it∈bI l k,0≤it.1∧it.1+bA it.2≤C∧fk w V it.2=true∧bx it.2≤N
 |[],k,_,_,_,_,it,h=>by simp [bI]at h
 |s::l,k,c,d,a,b,it,h=>by
  rw [jB]at h;rw [al]at d;rw [aw]at b;rw [fX,apJ]at a;have g:=aR l;have h2:=jW s;have f:=jT s;have e:=bF l;rcases apY.1 h with rfl|h
  ·exact ⟨c,by show k+bA s≤C;omega,a.1,by show bx s≤N;omega⟩
  ·exact oZ l _ (by omega) (by omega) a.2 (by omega) it h
theorem xL {w:Int} {V:List Vr} {s:List Int} (c:1≤w∧w≤8) (h:ch w V s=true) (k:Nat) {a:Int} (e:0≤a∧a<2^w.toNat):ch w V (s.set k a)=true:=by
 simp only [ch,apJ,apS,apW,List.length_set]at h⊢;refine ⟨h.1,fun b d=>?_⟩;rcases List.mem_or_eq_of_mem_set d with q|q
 ·exact h.2 b q
 ·rw [q];exact mM c e
theorem Bp {p:eD} {ps:List Int} {c:dS} {n i a:Int} (h:Inv p ps c) (d:(c.trace.length:Int)+1+500*c.fuel≤2^30) (b:0≤a∧a<2^p.w.toNat):Inv p ps (fL p.vars c n i a)where
 head:=h.head
 store:=xL ⟨(aF h.head).1,(aF h.head).2.1⟩ h.store _ b
 words:=h.words
 used:=h.used
 RN:=h.RN
 todo:=h.todo
 fuel:=h.fuel
 tr:=by
  show((c.trace++_).length:Int)+500*c.fuel≤2^30;rw [apP];split
  ·simp;omega
  ·simp;have:=h.tr;omega
 ou:=h.ou
 co:=h.co
theorem mz {p:eD} {ps:List Int} {c:dS} (h:Inv p ps c) (e n:Int):Inv p ps (eY c e n):={h with todo:=by simp [eY]}
theorem tZ {p:eD} {S:List (List Int)} (b:aC p.w p.vars=true) (c:CZ p.w p.vars S):∀(l:List bY),(∀e∈l,dA p.w p.vars S.length e=true)→∀i,i<l.length→0≤et (bP p.w p.vars S l) i∧et (bP p.w p.vars S l) i<2^p.w.toNat:=by
 intro l a i hi
 have:et (bP p.w p.vars S l) i=aZ p.w p.vars S (l[i]):=by
  unfold et;rw [sG,apG hi];rfl
 rw [this];exact iv b c _ (a _ (List.getElem_mem hi))
theorem iz {w:Int} {V:List Vr} {S:List (List Int)}:∀l:List bY,(bP w V S l).length=l.length
 |[]=>rfl
 |e::l=>by simp [bP,iz l]
theorem xM {p:eD} {ps:List Int} {c:dS} (h:Inv p ps c):Inv p ps (bG p ps c):=by
 unfold bG;by_cases G:c.dG=true
 ·rw [if_pos G];exact h
 rw [if_neg G]
 cases j:c.todo with
 |nil=>exact h
 |cons it next=>
  obtain ⟨k,s⟩:=it;show Inv p ps (if c.fuel=0 then _ else _);by_cases L:c.fuel=0
  ·rw [if_pos L];exact mz h _ _
  rw [if_neg L];obtain ⟨op,n,args,d,els⟩:=s;obtain ⟨K,J,F,H⟩:=h.todo (k,.mk op n args d els) (by rw [j];simp);obtain ⟨Y,P,Q,R⟩:=fZ F;have X:bA (.mk op n args d els)=1+al d+al els:=by rw [bA]
  simp only at K J H;rw [bx]at H;have pa:=bh args;have pt:=bF d;have pe:=bF els;have bt:=aR d;have be:=aR els;have hp:=iV (w:=p.w) ⟨(aF h.head).1,(aF h.head).2.1⟩;have Z:CZ p.w p.vars [c.store]:=fun t j=>by simp at j;subst j;exact h.store
  have O:=tZ (S:=[c.store]) h.head Z args (fun e W=>(Y e W).1);have evb:=jl (w:=p.w) (V:=p.vars) (S:=[c.store]) (l:=args) (fun e _=>dV e);have RO:=h.fuel;have zN:=h.tr;have T:=h.ou;have Dy:=h.co
  obtain ⟨b,g⟩:∃b,iO p c (.mk op n args d els) next=b:=⟨_,rfl⟩
  have e1:b.trace=c.trace++iX p.w p.vars [c.store] args:=by rw [←g];rfl
  have e2:b.cost=c.cost+1+aq args:=by rw [←g];rfl
  have r:b.fuel=c.fuel- 1:=by rw [←g];rfl
  have e4:b.todo=next:=by rw [←g];rfl
  have M:b.outs=c.outs:=by rw [←g];rfl
  have e6:b.used=c.used:=by rw [←g];rfl
  have o:∀it∈next,0≤it.1∧it.1+bA it.2≤al p.body∧fk p.w p.vars it.2=true∧bx it.2≤400:=fun it i=>h.todo it (by rw [j];simp [i])
  have U7:(b.trace.length:Int)+99+500*b.fuel≤2^30:=by rw [e1,r,apP];omega
  have f:Inv p ps b:={head:=h.head,store:=by rw [←g];exact h.store,words:=h.words,used:=by rw [e6];exact h.used,RN:=h.RN,todo:=by rw [e4];exact o,fuel:=by rw [r];omega,tr:=by omega,ou:=by rw [M,r];omega,co:=by rw [e2,r];omega}
  rw [show(bH.mk op n args d els).args=args from rfl];have E:=oZ (w:=p.w) (V:=p.vars) (C:=al p.body) (N:=400) d (k+1) (by omega) (by omega) P (by omega);have u:=oZ (w:=p.w) (V:=p.vars) (C:=al p.body) (N:=400) els (k+1+al d) (by omega) (by omega) Q (by omega)
  have both:∀(l:List jM),(∀it∈l,0≤it.1∧it.1+bA it.2≤al p.body∧fk p.w p.vars it.2=true∧bx it.2≤400)→∀(e:Ev),Inv p ps {b with trace:=b.trace++[e],todo:=l}:=fun l v e=>
   {f with todo:=v,tr:=by show((b.trace++[e]).length:Int)+500*b.fuel≤2^30;rw [apP];simp;omega}
  have app:∀(l m:List jM),(∀it∈l,0≤it.1∧it.1+bA it.2≤al p.body∧fk p.w p.vars it.2=true∧bx it.2≤400)→(∀it∈m,0≤it.1∧it.1+bA it.2≤al p.body∧fk p.w p.vars it.2=true∧bx it.2≤400)→∀it∈l++m,0≤it.1∧it.1+bA it.2≤al p.body∧fk p.w p.vars it.2=true∧bx it.2≤400:=fun l m v U it i=>(ap0.1 i).elim (v it) (U it)
  rw [g];unfold cM;by_cases D:op=0
  ·simp only [if_pos D]
   have I:0<args.length:=by
    rcases R with⟨_,_,⟨_,a,rfl⟩|⟨_,a,b,rfl⟩⟩|⟨q,_⟩|⟨q,_⟩|⟨q,_⟩|⟨q,_⟩|⟨q,_⟩
    ·simp
    ·simp
    all_goals omega
   exact Bp f (by omega) (O _ (by rw [iz];omega))
  simp only [if_neg D];by_cases B:op=1
  ·simp only [if_pos B]
   by_cases q:et (bP p.w p.vars [c.store] args) 0=0
   ·simp only [if_pos q];exact both _ (app _ _ u o) _
   ·simp only [if_neg q];exact both _ (app _ _ E o) _
  simp only [if_neg B];by_cases A:op=2
  ·simp only [if_pos A]
   by_cases q:et (bP p.w p.vars [c.store] args) 0=0
   ·simp only [if_pos q];exact both _ o _
   ·simp only [if_neg q]
    exact both _ (app _ _ E (fun it i=>by
     rcases apY.1 i with rfl|i
     ·exact ⟨K,J,F,by show bx (.mk op n args d els)≤400;rw [bx];omega⟩
     ·exact o it i)) _
  simp only [if_neg A];by_cases z:op=3
  ·simp only [if_pos z]
   exact {f with ou:=by show((b.outs++[_]).length:Int)+b.fuel≤2^30;rw [apP,M,r];simp;omega}
  simp only [if_neg z];by_cases y:op=4
  ·simp only [if_pos y]
   by_cases q:ps.length≤b.used
   ·simp only [if_pos q];exact mz f _ _
   ·simp only [if_neg q]
    have hu:=f.used;refine Bp (c:={b with used:=b.used+1}) {f with used:=by show b.used+1≤ps.length∧_;omega} (by show(b.trace.length:Int)+1+500*b.fuel≤2^30;omega) ?_;have:et ps b.used=ps[b.used]'(by omega):=by simp [et,apG (show b.used<ps.length by omega)]
    rw [this];exact h.words _ (List.getElem_mem _)
  simp only [if_neg y];by_cases x:op=5
  ·simp only [if_pos x]
   by_cases q:et (bP p.w p.vars [c.store] args) 0=0
   ·simp only [if_pos q];exact mz f _ _
   ·simp only [if_neg q];exact f
  simp only [if_neg x];by_cases q:et (bP p.w p.vars [c.store] args) 0=0
  ·simp only [if_pos q];exact mz f _ _
  ·simp only [if_neg q];exact f
end
end Go.Proofs.YtppcmpmnglaleaaGreat.A
