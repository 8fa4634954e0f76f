/- Texts that stand one behind the other: S8, S9, S10, S11, S12, S13, S14, AbsO, AbsP, S15, S16, S17, S18, S19, S20. -/
import Derived.Test.YtppcmpmnglaleaaGreatG11
set_option linter.unusedVariables false
set_option linter.unusedSimpArgs false
namespace Go.Proofs.YtppcmpmnglaleaaGreat.A
section
open Go
theorem vd {l:List bH} {i:Nat} {s:bH} (h:l[i]?=some s) (m:Int) (a:0<m):dB (l.drop i) m=dB (l.drop (i+1)) (u9 s m):=by
 obtain ⟨b,e⟩:=apM.1 h;rw [List.drop_eq_getElem_cons b,dB,if_pos a,e]
theorem zq {l:List bY} {i:Nat} {s:bY} (h:l[i]?=some s) (m:Int):dQ (l.drop i) m=dQ (l.drop (i+1)) (jQ s m):=by
 obtain ⟨a,e⟩:=apM.1 h;rw [List.drop_eq_getElem_cons a,dQ,e]
theorem JC:∀(N:Nat) (l:List bH) (v:Value) (rows:List (List Value)) (H:AH) (m:Int),SizeOf.sizeOf l<N→H.n0≤H.nx→l.length<2^60→Rows H 5 v rows→hY H rows l→0≤m→m≤1000001→
 Ca E O 24 [v,.int .i64 m] H (fun x H'=>(x= .int .i64 (dB l m)∧Ext H H')∧0≤dB l m∧dB l m≤m):=by
 intro N
 induction N with
 |zero=>intro l v rows H m h;omega
 |succ N ih=>
  intro l v rows H m hN hw hlen hr hl LQ hm1;refine Ca.dI (F:=W3) rfl rfl rfl ?_;obtain ⟨a0,c0,D⟩:=hr.len;rw [hl.length]at D;simp-implicitDefEqProofs [W3,aA];refine eL (fun k I H'=>Ext H H'∧∃(i:Nat) (cur:Int),i+k=l.length∧I.get 0=v∧I.get 5= .int .i64 i∧I.get 1= .int .i64 cur∧0≤cur∧cur≤m∧dB l m=dB (l.drop i) cur) ?_ l.length ⟨Ext.refl _,0,m,by simp,by simp,by simp,by simp,LQ,Int.le_refl _,by simp⟩;rintro k I H1 ⟨u,i,cur,hi,e,J,U,b0,b1,d⟩;have fin:∀q:Prop,(dB l m=cur→q)→(dB (l.drop i) cur=cur)→q:=fun q h1 h2=>h1 (d.trans h2)
  by_cases h:i<l.length
  ·by_cases G:0<cur
   ·obtain ⟨⟨op,n,args,M,V⟩,Q⟩:∃y,l[i]?=some y:=⟨_,apG h⟩
    have hs:=me Q;obtain ⟨b,o,c,va,vt,ve,ra,rt,re,Z,_,_,_,e2,e3,e4,i1,i2,i3,i4,i5,g1,T,g3,g4,g5,g6⟩:=hY.row (hr.ext u) (hl.ext u) Q;obtain ⟨a3,c3,Y⟩:=g1.len;rw [T.length]at Y;have f0v:=e;rw [Z]at e;simp-implicitDefEqProofs [aA,e,J,U,h,G];rw [aj (n:=cur- 1) ⟨by omega,by omega⟩];refine eL (fun P B L=>Ext H1 L∧∃(j:Nat) (f:Int),j+P=args.length∧B.get 0= .slice (some ⟨b,o,none⟩) l.length c∧B.get 5= .int .i64 i∧B.get 1= .int .i64 f∧B.get 6= .int .i64 j∧0≤f∧f≤cur- 1∧dQ args (cur- 1)=dQ (args.drop j) f) ?_ args.length ⟨Ext.refl _,0,cur- 1,by simp,by simp [e],by simp [J],by simp,by simp,by omega,by omega,by simp⟩;rintro P B L ⟨a,j,f,hj,A,z,g,w,q0,q1,p⟩;have K:=a.ld e2;have QR:=a.ld e3;have C:=a.ld e4;have R:=(u.trans a).wf hw;by_cases h2:j<args.length
    ·obtain ⟨y,X⟩:∃y,args[j]?=some y:=⟨_,apG h2⟩
     obtain ⟨r,CA,km⟩:=T.at X;obtain ⟨b2,o2,c2,S,bK⟩:=(g1.ext a).at CA;rw [T.length]at S;rw [S]at K;simp-implicitDefEqProofs [aA,A,z,g,w,h,h2,K,bK];refine bf ?_;simp-implicitDefEqProofs [g];refine (AR _ y r L f (apV _) R (km.ext a) ⟨by omega,by omega⟩).mono ?_;rintro x H3 ⟨rfl,t⟩;have hle:=wZ _ y f (apV _);simp-implicitDefEqProofs [aA,A,z,g,w];rw [aj (n:=(j:Int)+1) ⟨by omega,by omega⟩];refine ⟨P- 1,by omega,a.trans t,j+1,by omega,by simp,by omega,by omega,?_⟩;rw [p,zq X]
    ·rw [Y]at K
     have Dx:j=args.length:=by omega
     rw [Dx,List.drop_length,dQ]at p;simp-implicitDefEqProofs [aA,A,z,g,w,h,h2,K,QR,C];refine bf ?_;simp-implicitDefEqProofs [g];refine (ih M vt rt L f (by omega) R i4 (g3.ext a) (g4.ext a) q0 (by omega)).mono ?_;rintro x H3 ⟨⟨rfl,t⟩,r0,r1⟩;have W:=t.ld C;simp-implicitDefEqProofs [aA,A,z,g,w,h,W];refine bf ?_;simp-implicitDefEqProofs;refine (ih V ve re H3 _ (by omega) (t.wf R) i5 (g5.ext (a.trans t)) (g6.ext (a.trans t)) r0 (by omega)).mono ?_;rintro x H4 ⟨⟨rfl,X4⟩,s0,s1⟩;simp-implicitDefEqProofs [aA,A,z,g,w];rw [aj (n:=(i:Int)+1) ⟨by omega,by omega⟩];refine ⟨k- 1,by omega,u.trans (a.trans (t.trans X4)),i+1,by omega,Z.symm,by simp,s0,by omega,?_⟩;rw [d,vd Q cur G,u9,p]
   ·have S:=D
    rw [D]at e;simp-implicitDefEqProofs [aA,e,J,U,h,G]
    have s:dB (l.drop i) cur=cur:=by
     rw [List.drop_eq_getElem_cons h,dB,if_neg G]
    exact ⟨⟨(d.trans s).symm,u⟩,by rw [d,s];exact b0,by rw [d,s];exact b1⟩
  ·rw [D]at e
   simp-implicitDefEqProofs [aA,e,J,U,h]
   have s:dB (l.drop i) cur=cur:=by
    rw [List.drop_of_length_le (by omega),dB]
   exact ⟨⟨(d.trans s).symm,u⟩,by rw [d,s];exact b0,by rw [d,s];exact b1⟩
open Go
mutual
def bx:bH→Int
 | .mk _ _ args thn els=>1+aq args+aw thn+aw els
def aw:List bH→Int
 |[]=>0
 |s::ss=>bx s+aw ss
end
theorem vg {M:List bH→Prop} (h:∀l,(∀op n args thn els,.mk op n args thn els∈l→M thn∧M els)→M l):∀l,M l:=by
 have key:∀(N:Nat) (l:List bH),SizeOf.sizeOf l<N→M l:=by
  intro N
  induction N with
  |zero=>intro l h;omega
  |succ N ih=>
   intro l b;refine h l fun op n args thn els a=>?_
   have:=aqb a;simp at this;exact ⟨ih thn (by omega),ih els (by omega)⟩
 exact fun l=>key _ l (apV _)
theorem Fg (l:List bY) (k:Int) (b:0≤k):dQ l k=max (k- aq l) 0:=by
 induction l generalizing k with
 |nil=>rw [dQ,aq];omega
 |cons x l a=>
  rw [dQ,aq,w5,a _ (by omega)];have:=bh l;omega
theorem dN:∀l,0≤aw l∧∀m,0≤m→dB l m=max (m- aw l) 0:=vg fun l ih=>by
 induction l with
 |nil=>exact ⟨by rw [aw];omega,fun m f=>by rw [dB,aw];omega⟩
 |cons s k e=>
  obtain ⟨op,n,args,a,b⟩:=s;obtain ⟨⟨j,d⟩,⟨i,c⟩⟩:=ih op n args a b (by simp);obtain ⟨g,v1⟩:=e fun op n args a b h=>ih op n args a b (by simp [h])
  have o:=bh args;refine ⟨by rw [aw,bx];omega,fun m f=>?_⟩;rw [dB,aw,bx];split
  ·rw [u9,Fg _ _ (by omega),d _ (by omega),c _ (by omega),v1 _ (by omega)]
   omega
  ·omega
theorem w7 {l:List bH} {v:Value} {rows:List (List Value)} {H:AH} {m:Int} (b:H.n0≤H.nx) (a:l.length<2^60) (c:Rows H 5 v rows) (d:hY H rows l) (f:0≤m∧m≤1000000):
 Ca E O 5 [v,.int .i64 m] H (fun x H'=>x= .bool (decide (aw l≤m))∧Ext H H'):=by
 refine Ca.dI (F:=a5) rfl rfl rfl ?_;simp-implicitDefEqProofs [a5,aA];refine bf ?_;rw [aj ⟨by omega,by omega⟩];simp-implicitDefEqProofs;refine (JC _ l v rows H (m+1) (apV _) b a c d (by omega) (by omega)).mono ?_;rintro x g ⟨⟨rfl,e⟩,_⟩;simp-implicitDefEqProofs [aA];refine ⟨?_,e⟩;rw [(dN l).2 _ (by omega)];have:=(dN l).1;omega
def mg (l:List Vr) (n:Int) (na:Nat) (more:Int):Bool:=decide (0≤n)&&(decide (n<l.length)&&decide ((na:Int)=more+if 1<ak l n then 1 else 0))
theorem w8 {n more:Int} {v d va vt ve:Value} {l:List Vr} {rows:List (List Value)} {H:AH} (j:H.n0≤H.nx) (k:dy H v l) (B:l.length<2^60) (s:Rows H 4 va rows) (A:rows.length<2^60) (t:0≤more∧more≤1):
 Ca E O 112 [v,.agg #[d,.int .i64 n,va,vt,ve],.int .i64 more] H (fun x H'=>x= .bool (mg l n rows.length more)∧Ext H H'):=by
 refine Ca.dI (F:=I4) rfl rfl rfl ?_;have f:=Ext.alloc H (.cells 5 [d,.int .i64 n,va,vt,ve]);have c:(H.alloc (.cells 5 [d,.int .i64 n,va,vt,ve])).ld ⟨H.nx,1,none⟩=some (.int .i64 n):=ai j rfl;have e:(H.alloc (.cells 5 [d,.int .i64 n,va,vt,ve])).ld ⟨H.nx,2,none⟩=some va:=ai j rfl;generalize w:H.alloc (.cells 5 [d,.int .i64 n,va,vt,ve])=z at f c e;obtain ⟨J,D,q⟩:=s.len;obtain ⟨I,C,p⟩:=k.len;have a:=aV.1 c;have g:=aV.1 e;simp-implicitDefEqProofs [I4,aA,w];refine oF _ _ ?_;by_cases h2:0≤n
 case neg=>
  simp-implicitDefEqProofs [aA,tt,chain,ko,nth,AO.wanted,ff,sameAt,eG,dz,c,a,g,h2,mg];exact f
 by_cases h:n<l.length
 case neg=>
  simp-implicitDefEqProofs [aA,tt,chain,ko,nth,AO.wanted,ff,sameAt,eG,dz,c,a,g,h2,h,p,mg];exact f
 obtain ⟨y,i⟩:∃y,l[n.toNat]?=some y:=⟨_,apG (by omega)⟩
 obtain ⟨b,o,G,r,_,_,_,m⟩:=(k.ext f).at i;have u:ak l n=y.cells:=by simp [ak,i]
 rw [q]at e g;rw [r];simp-implicitDefEqProofs [aA,c,e,m,h2,h];refine mI ?_;simp-implicitDefEqProofs;refine (u7 (decide (1<y.cells)) z).mono ?_;rintro x K ⟨rfl,rfl⟩;simp-implicitDefEqProofs [aA,tt,chain,ko,nth,AO.wanted,ff,sameAt,eG,dz,c,e,a,g,m,h2,h,mg,u];refine ⟨?_,f⟩;rw [aj (by unfold oh;split<;>omega)]
end
section
open Go
mutual
def jR:bH→Int→Int
 | .mk _ _ _ thn els,n=>max (max n (1+bE thn 0)) (1+bE els 0)
def bE:List bH→Int→Int
 |[],n=>n
 |s::ss,n=>bE ss (jR s n)
end
theorem oJ:∀(l:List bH) (n:Int),bE l n=l.foldl (fun n e=>jR e n) n
 |[],n=>rfl
 |e::es,n=>by simp [bE,oJ es]
theorem kV:∀l,∀k,0≤k→k≤bE l k∧bE l k≤max k (aw l):=vg fun l ih=>by
 induction l with
 |nil=>intro k e;rw [bE,aw];omega
 |cons s c d=>
  obtain ⟨op,n,args,a,b⟩:=s;intro k e;obtain ⟨t,u⟩:=ih op n args a b (by simp);have t:=t 0 (by omega);have u:=u 0 (by omega);have i:=(dN a).1;have g:=(dN b).1;have f:=(dN c).1;have j:=bh args;rw [bE,aw,bx,jR];have w:=d (fun op n args a b h=>ih op n args a b (by simp [h])) (max (max k (1+bE a 0)) (1+bE b 0)) (by omega);omega
theorem nL {l:List bH} {op n:Int} {args:List bY} {thn els:List bH} (h:bH.mk op n args thn els∈l):1+aw thn≤aw l∧1+aw els≤aw l∧1+aq args≤aw l:=by
 induction l with
 |nil=>cases h
 |cons s d ih=>
  rw [aw];have j:=(dN d).1;rcases apY.1 h with h|h
  ·rw [←h,bx]
   have c:=(dN thn).1;have a:=(dN els).1;have i:=bh args;omega
  ·have:=ih h
   obtain ⟨e,k,g,b,f⟩:=s;rw [bx];have c:=(dN b).1;have a:=(dN f).1;have i:=bh g;omega
theorem CD:∀(N:Nat) (l:List bH) (v:Value) (rows:List (List Value)) (H:AH),SizeOf.sizeOf l<N→H.n0≤H.nx→l.length<2^60→Rows H 5 v rows→hY H rows l→aw l<2^60→
 Ca E O 63 [v] H (fun x H'=>x= .int .i64 (bE l 0)∧Ext H H'):=by
 intro N
 induction N with
 |zero=>intro l v rows H h;omega
 |succ N ih=>
  intro l v rows H hN P A z B hm;refine Ca.dI (F:=Xp) rfl rfl rfl ?_;obtain ⟨a0,c0,w⟩:=z.len;rw [B.length]at w;simp-implicitDefEqProofs [Xp,aA];refine eL (fun k m H'=>Ext H H'∧∃i:Nat,i+k=l.length∧m.get 0=v∧m.get 4= .int .i64 i∧m.get 3= .int .i64 (bE (l.take i) 0)) ?_ l.length ⟨Ext.refl _,0,by simp,by simp,by simp,by simp [bE]⟩;rintro k m X ⟨g,i,hi,f,p,q⟩;by_cases h:i<l.length
  ·obtain ⟨⟨op,n,args,a,d⟩,j⟩:∃y,l[i]?=some y:=⟨_,apG h⟩
   have hs:=me j;have hn:=nL (apL j);obtain ⟨b,o,c,Y,I,J,Z,rt,K,u,_,_,_,e2,V,G,i1,i2,i3,M,L,g1,g2,T,S,C,R⟩:=hY.row (z.ext g) (B.ext g) j;obtain ⟨a4,c4,Q⟩:=C.len;have t:=g.wf P;rw [u]at f;simp-implicitDefEqProofs [aA,f,p,q,h];refine oF _ _ ?_;simp-implicitDefEqProofs [aA,f,p,q,h,V,G];refine mI ?_;simp-implicitDefEqProofs;refine (ih a I rt X (by omega) t M T S (by omega)).mono ?_;rintro x W ⟨rfl,e⟩;have bt:=kV a 0 (by omega);have be:=kV d 0 (by omega);simp-implicitDefEqProofs [aA];rw [aj (n:=1+bE a 0) ⟨by omega,by omega⟩];refine mI ?_;simp-implicitDefEqProofs;refine (ih d J K W (by omega) (e.wf t) L (C.ext e) (R.ext e) (by omega)).mono ?_;rintro x H3 ⟨rfl,s⟩;have r:=aV.1 G;have D:=e.ldn r;rw [Q]at r D;simp-implicitDefEqProofs [aA,HQ,tt,chain,ko,nth,AO.wanted,ff,sameAt,eG,dz,r,D,e.n0,s.n0,e.nx,s.nx,f,p];rw [aj (n:=1+bE d 0) ⟨by omega,by omega⟩,aj (n:=(i:Int)+1) ⟨by omega,by omega⟩]
   have U:bE (l.take (i+1)) 0=max (max (bE (l.take i) 0) (1+bE a 0)) (1+bE d 0):=by
    rw [ap1,j];simp [oJ,List.foldl_append,jR]
   refine ⟨k- 1,by omega,g.trans (e.trans s),i+1,by omega,u.symm,by simp,?_⟩;rw [U];split<;>split<;>omega
  ·rw [w]at f
   simp-implicitDefEqProofs [aA,f,p,q,h];rw [apN (by omega)];exact ⟨rfl,g⟩
open Go
def cD (l:List Vr) (op n:Int) (na nt ne:Nat):Bool:=
 if op=0 then(decide (nt=0)&&decide (ne=0))&&mg l n na 1
 else if op=1 then decide (n=0)&&decide (na=1)
 else if op=2 then decide (n=0)&&(decide (na=1)&&decide (ne=0))
 else if op=3 then(decide (nt=0)&&decide (ne=0))&&(decide (0≤n)&&(decide (n≤47)&&decide (na=1)))
 else if op=4 then(decide (nt=0)&&decide (ne=0))&&mg l n na 0
 else if op=5∨op=6 then(decide (nt=0)&&decide (ne=0))&&(decide (n=0)&&decide (na=1))
 else false
def pS:AC:=match Ri.body with| .seq _ (.seq _ r)=>r|c=>c
theorem zr:Ri.body= .seq (.cL [o 3 (.box (.t 1)),o 4 (.mv (.k (.bool false)))]) (.seq (.cL [o 6 (.fa 3 (.t 3)),o 7 (.ld (.t 6)),o 8 (.eQ (.t 7)),o 9 (.bin .eql (.t 8) (i 0)),o 10 (.mv (.t 9)),og 10 true 11 (.fa 4 (.t 3)),og 10 true 12 (.ld (.t 11)),og 10 true 13 (.eQ (.t 12)),og 10 true 14 (.bin .eql (.t 13) (i 0)),o 15 (.pick (.t 10) (.t 14) (.k (.bool false))),o 5 (.mv (.t 15))]) pS):=rfl
theorem dT (n:Nat):((n:Int)=0)=(n=0):=by apply propext;omega
theorem dC (n:Nat):((n:Int)=1)=(n=1):=by apply propext;omega
theorem JE {op n:Int} {v va vt ve:Value} {l:List Vr} {t rt y:List (List Value)} {H:AH} (q:H.n0≤H.nx) (hv:dy H v l) (hl:l.length<2^60) (B:Rows H 4 va t) (S:Rows H 5 vt rt) (V:Rows H 5 ve y) (U:t.length<2^60):
 Ca E O 94 [v,.agg #[.int .i64 op,.int .i64 n,va,vt,ve]] H (fun x H'=>x= .bool (cD l op n t.length rt.length y.length)∧Ext H H'):=by
 refine Ca.dI (F:=Ri) rfl rfl rfl ?_;have f:=Ext.alloc H (.cells 5 [.int .i64 op,.int .i64 n,va,vt,ve]);have d0:(H.alloc (.cells 5 [.int .i64 op,.int .i64 n,va,vt,ve])).ld ⟨H.nx,0,none⟩=some (.int .i64 op):=ai q rfl;have k:(H.alloc (.cells 5 [.int .i64 op,.int .i64 n,va,vt,ve])).ld ⟨H.nx,1,none⟩=some (.int .i64 n):=ai q rfl;have Z:(H.alloc (.cells 5 [.int .i64 op,.int .i64 n,va,vt,ve])).ld ⟨H.nx,2,none⟩=some va:=ai q rfl;have Y:(H.alloc (.cells 5 [.int .i64 op,.int .i64 n,va,vt,ve])).ld ⟨H.nx,3,none⟩=some vt:=ai q rfl;have X:(H.alloc (.cells 5 [.int .i64 op,.int .i64 n,va,vt,ve])).ld ⟨H.nx,4,none⟩=some ve:=ai q rfl;have d:=bj q (z:=5) (c:=[.int .i64 op,.int .i64 n,va,vt,ve]) 5 rfl;generalize W:H.alloc (.cells 5 [.int .i64 op,.int .i64 n,va,vt,ve])=P at f d0 k Z Y X d;obtain ⟨a2,c2,fO⟩:=B.len;obtain ⟨a3,c3,wo⟩:=S.len;obtain ⟨a4,c4,sg⟩:=V.len;have m:=Z;have Q:=Y;have i:=X;rw [fO]at m;rw [wo]at Q;rw [sg]at i;have R:∀more:Int,0≤more∧more≤1→Ca E O 112 [v,.agg #[.int .i64 op,.int .i64 n,va,vt,ve],.int .i64 more] P (fun x H'=>x= .bool (mg l n t.length more)∧Ext P H'):=fun more hm=>w8 (f.wf q) (hv.ext f) hl (B.ext f) U hm
 clear B S V U;generalize t.length=r at*;generalize rt.length=A at*;generalize y.length=ne at*
 obtain ⟨s,o⟩:∃b,b=(decide (A=0)&&decide (ne=0)):=⟨_,rfl⟩
 suffices T:∀w:Fr,w.get 0=v→w.get 3= .pointer (some ⟨H.nx,0,none⟩)→w.get 5= .bool s→Wk E O pS [] w P (wR [.tmp 4] fun x H'=>x= .bool (cD l op n r A ne)∧Ext H H') by
  rw [zr];by_cases C:A=0
  ·subst C
   simp-implicitDefEqProofs [aA,W,Q,i,dT];refine T _ ?_ ?_ ?_<;>simp [o]
  ·simp-implicitDefEqProofs [aA,W,Q,i,C,dT]
   refine T _ ?_ ?_ ?_<;>simp [o,C]
 intro w g h a;simp-implicitDefEqProofs [pS,Ri,aA,h,d0];by_cases M:op=0
 ·subst M
  cases e:s with
  |false=>
   rw [e]at a;simp-implicitDefEqProofs [aA,g,h,a,d,cD,←o,e];exact f
  |true=>
   rw [e]at a;simp-implicitDefEqProofs [aA,g,h,a,d];refine bf ?_;simp-implicitDefEqProofs [g];refine (R 1 (by omega)).mono ?_;rintro x H2 ⟨rfl,N⟩;simp-implicitDefEqProofs [aA,cD,←o,e];exact f.trans N
 simp-implicitDefEqProofs [aA,M];by_cases L:op=1
 ·subst L
  by_cases j:n=0
  case neg=>
   simp-implicitDefEqProofs [aA,g,h,a,k,m,i,dT,dC,cD,j];exact f
  by_cases p:r=1
  case neg=>
   simp-implicitDefEqProofs [aA,g,h,a,k,m,i,dT,dC,cD,j,p];exact f
  simp-implicitDefEqProofs [aA,g,h,a,k,m,i,dT,dC,cD,j,p];exact f
 simp-implicitDefEqProofs [aA,L];by_cases K:op=2
 ·subst K
  by_cases j:n=0
  case neg=>
   simp-implicitDefEqProofs [aA,g,h,a,k,m,i,dT,dC,cD,j];exact f
  by_cases p:r=1
  case neg=>
   simp-implicitDefEqProofs [aA,g,h,a,k,m,i,dT,dC,cD,j,p];exact f
  by_cases u:ne=0
  case neg=>
   simp-implicitDefEqProofs [aA,g,h,a,k,m,i,dT,dC,cD,j,p,u];exact f
  simp-implicitDefEqProofs [aA,g,h,a,k,m,i,dT,dC,cD,j,p,u];exact f
 simp-implicitDefEqProofs [aA,K];by_cases J:op=3
 ·subst J
  cases e:s with
  |false=>
   rw [e]at a;simp-implicitDefEqProofs [aA,g,h,a,k,m,i,dT,dC,cD,←o,e];exact f
  |true=>
  rw [e]at a;by_cases j:0≤n
  case neg=>
   simp-implicitDefEqProofs [aA,g,h,a,k,m,i,dT,dC,cD,←o,e,j];exact f
  by_cases p:n≤47
  case neg=>
   simp-implicitDefEqProofs [aA,g,h,a,k,m,i,dT,dC,cD,←o,e,j,p];exact f
  by_cases u:r=1
  case neg=>
   simp-implicitDefEqProofs [aA,g,h,a,k,m,i,dT,dC,cD,←o,e,j,p,u];exact f
  simp-implicitDefEqProofs [aA,g,h,a,k,m,i,dT,dC,cD,←o,e,j,p,u];exact f
 simp-implicitDefEqProofs [aA,J];by_cases I:op=4
 ·subst I
  cases e:s with
  |false=>
   rw [e]at a;simp-implicitDefEqProofs [aA,g,h,a,d,cD,←o,e];exact f
  |true=>
   rw [e]at a;simp-implicitDefEqProofs [aA,g,h,a,d];refine bf ?_;simp-implicitDefEqProofs [g];refine (R 0 (by omega)).mono ?_;rintro x H2 ⟨rfl,N⟩;simp-implicitDefEqProofs [aA,cD,←o,e];exact f.trans N
 simp-implicitDefEqProofs [aA,I];by_cases G:op=5
 ·subst G
  cases e:s with
  |false=>
   rw [e]at a;simp-implicitDefEqProofs [aA,g,h,a,k,m,i,dT,dC,cD,←o,e];exact f
  |true=>
  rw [e]at a;by_cases j:n=0
  case neg=>
   simp-implicitDefEqProofs [aA,g,h,a,k,m,i,dT,dC,cD,←o,e,j];exact f
  by_cases p:r=1
  case neg=>
   simp-implicitDefEqProofs [aA,g,h,a,k,m,i,dT,dC,cD,←o,e,j,p];exact f
  simp-implicitDefEqProofs [aA,g,h,a,k,m,i,dT,dC,cD,←o,e,j,p];exact f
 simp-implicitDefEqProofs [aA,G];by_cases D:op=6
 ·subst D
  cases e:s with
  |false=>
   rw [e]at a;simp-implicitDefEqProofs [aA,g,h,a,k,m,i,dT,dC,cD,←o,e];exact f
  |true=>
  rw [e]at a;by_cases j:n=0
  case neg=>
   simp-implicitDefEqProofs [aA,g,h,a,k,m,i,dT,dC,cD,←o,e,j];exact f
  by_cases p:r=1
  case neg=>
   simp-implicitDefEqProofs [aA,g,h,a,k,m,i,dT,dC,cD,←o,e,j,p];exact f
  simp-implicitDefEqProofs [aA,g,h,a,k,m,i,dT,dC,cD,←o,e,j,p];exact f
 simp-implicitDefEqProofs [aA,D];simp-implicitDefEqProofs [cD,M,L,K,J,I,G,D];exact f
end
section
open Go
mutual
def fk (w:Int) (V:List Vr):bH→Bool
 | .mk op n args thn els=>cD V op n args.length thn.length els.length&&(fX w V thn&&(fX w V els&&args.all (gL w V 1)))
def fX (w:Int) (V:List Vr):List bH→Bool
 |[]=>true
 |s::ss=>fk w V s&&fX w V ss
end
theorem kv {w:Int} {V:List Vr}:∀{es:List bH},fX w V es=true↔∀e∈es,fk w V e=true
 |[]=>by simp [fX]
 |e::es=>by simp [fX,kv (es:=es)]
theorem oK {w:Int} {V:List Vr} {es:List bH} {e:bH} (h:e∈es) (k:fk w V e=false):fX w V es=false:=by
 rw [aqj];intro q;rw [kv.1 q e h]at k;cases k
theorem JF {w:Int} {v:Value} {V:List Vr} (hV:V.length<2^60):∀(N:Nat) (l:List bH) (A:Value) (rows:List (List Value)) (H:AH),SizeOf.sizeOf l<N→H.n0≤H.nx→dy H v V→l.length<2^60→Rows H 5 A rows→hY H rows l→
 Ca E O 64 [.int .i64 w,v,A] H (fun x H'=>x= .bool (fX w V l)∧Ext H H'):=by
 intro N
 induction N with
 |zero=>intro l A rows H h;omega
 |succ N ih=>
  intro l A rows H hN hw hv hlen hr hl;refine Ca.dI (F:=Xq) rfl rfl rfl ?_;obtain ⟨a0,c0,kz⟩:=hr.len;rw [hl.length]at kz;simp-implicitDefEqProofs [Xq,aA];refine eL (fun k I H'=>Ext H H'∧∃i:Nat,i+k=l.length∧I.get 0= .int .i64 w∧I.get 1=v∧I.get 2=A∧I.get 7= .int .i64 i∧∀e∈l.take i,fk w V e=true) ?_ l.length ⟨Ext.refl _,0,by simp,by simp,by simp,by simp,by simp,by simp⟩;rintro k I H1 ⟨d,i,hi,X,K,g,J,aH⟩;by_cases h:i<l.length
  case neg=>
   rw [kz]at g;simp-implicitDefEqProofs [aA,g,J,h];rw [apN (by omega)]at aH;exact ⟨kv.2 aH,d⟩
  obtain ⟨⟨op,n,args,f,m⟩,S⟩:∃y,l[i]?=some y:=⟨_,apG h⟩
  have hs:=me S;have W:=apL S;obtain ⟨b,o,c,va,vt,ve,ra,rt,re,b9,bK,_,_,e2,e3,e4,i1,i2,i3,i4,i5,g1,G,g3,g4,g5,g6⟩:=hY.row (hr.ext d) (hl.ext d) S;have T:=d.wf hw;have U:=hv.ext d;rw [b9]at g;simp-implicitDefEqProofs [aA,X,K,g,J,h,bK];refine bf ?_;simp-implicitDefEqProofs [K];refine (JE T U hV g1 g3 g5 (by rw [G.length];exact i3)).mono ?_;rintro x H2 ⟨rfl,p⟩;rw [G.length,g4.length,g6.length]
  cases t:cD V op n args.length f.length m.length with
  |false=>
   simp-implicitDefEqProofs [aA,t];exact ⟨oK W (by simp [fk,t]),d.trans p⟩
  |true=>
   simp-implicitDefEqProofs [aA,X,K,g,J,h,t,p.ld e3];refine bf ?_;simp-implicitDefEqProofs;refine (ih f vt rt H2 (by omega) (p.wf T) (U.ext p) i4 (g3.ext p) (g4.ext p)).mono ?_;rintro x H3 ⟨rfl,X3⟩;have s:=p.trans X3
   cases B:fX w V f with
   |false=>
    simp-implicitDefEqProofs [aA,B];exact ⟨oK W (by simp [fk,t,B]),d.trans s⟩
   |true=>
    simp-implicitDefEqProofs [aA,X,K,g,J,h,B,s.ld e4];refine bf ?_;simp-implicitDefEqProofs;refine (ih m ve re H3 (by omega) (s.wf T) (U.ext s) i5 (g5.ext s) (g6.ext s)).mono ?_;rintro x H4 ⟨rfl,X4⟩;have yx:=s.trans X4
    cases M:fX w V m with
    |false=>
     simp-implicitDefEqProofs [aA,M];exact ⟨oK W (by simp [fk,t,B,M]),d.trans yx⟩
    |true=>
     simp-implicitDefEqProofs [aA,M];obtain ⟨a3,c3,fO⟩:=g1.len;rw [G.length]at fO;refine eL (fun Z u H5=>Ext H4 H5∧∃j:Nat,j+Z=args.length∧u.get 0= .int .i64 w∧u.get 1=v∧u.get 2= .slice (some ⟨b,o,none⟩) l.length c∧u.get 7= .int .i64 i∧u.get 8= .int .i64 j∧∀e∈args.take j,gL w V 1 e=true) ?_ args.length ⟨Ext.refl _,0,by simp,by simp [X],by simp [K],by simp [g],by simp [J],by simp,by simp⟩;rintro Z u H5 ⟨X5,j,hj,D,C,R,Q,P,sj⟩;have q:=yx.trans X5;have Y:=q.ld e2;by_cases h2:j<args.length
     ·obtain ⟨y,yY⟩:∃y,args[j]?=some y:=⟨_,apG h2⟩
      obtain ⟨r,CA,km⟩:=G.at yY;obtain ⟨b2,o2,c2,wj,w9⟩:=(g1.ext q).at CA;rw [G.length]at wj;rw [wj]at Y;simp-implicitDefEqProofs [aA,D,C,R,Q,P,h,h2,Y,w9];refine bf ?_;simp-implicitDefEqProofs [D,C];refine (TE (k:=1) hV (q.wf T) (U.ext q) (km.ext q)).mono ?_;rintro x H6 ⟨rfl,X6⟩
      cases L:gL w V 1 y with
      |true=>
       simp-implicitDefEqProofs [aA,D,C,R,Q,P,L];rw [aj (n:=(j:Int)+1) ⟨by omega,by omega⟩];refine ⟨Z- 1,by omega,X5.trans X6,j+1,by omega,by simp,fun z a=>?_⟩;rw [ap1,yY]at a;rcases ap0.1 a with a|a
       ·exact sj z a
       ·simp at a;subst a;exact L
      |false=>
       simp-implicitDefEqProofs [aA,D,C,R,Q,P,L];refine ⟨oK W ?_,d.trans (q.trans X6)⟩
       have:args.all (gL w V 1)=false:=by
        rw [List.all_eq_false];exact ⟨y,apL yY,by simp [L]⟩
       simp only [fk,this,Bool.and_false]
     ·rw [fO]at Y
      simp-implicitDefEqProofs [aA,D,C,R,Q,P,h,h2,Y];rw [aj (n:=(i:Int)+1) ⟨by omega,by omega⟩];rw [apN (by omega)]at sj;refine ⟨k- 1,by omega,d.trans q,i+1,by omega,b9.symm,by simp,fun z a=>?_⟩;rw [ap1,S]at a;rcases ap0.1 a with a|a
      ·exact aH z a
      ·simp at a
       subst a;have:args.all (gL w V 1)=true:=apW.2 sj;simp only [fk,t,B,M,this,Bool.and_self]
open Go
structure eD where
 w:Int
 vars:List Vr
 body:List bH
structure pT (H:AH) (c:List Value) (p:eD):Prop where
 is:∃vv vb rb,c=[.int .i64 p.w,vv,vb]∧oh p.w∧dy H vv p.vars∧nJ p.vars∧Rows H 5 vb rb∧hY H rb p.body∧p.body.length<2^60
theorem pT.ext {H H':AH} (E:Ext H H') {c:List Value} {p:eD} (h:pT H c p):pT H' c p:=by
 obtain ⟨i,j,k,e,a,b,l,d,f,g⟩:=h.is;exact ⟨i,j,k,e,a,b.ext E,l,d.ext E,hY.ext E f,g⟩
theorem pT.len {H:AH} {c:List Value} {p:eD} (h:pT H c p):c.length=3:=by
 obtain ⟨a,b,d,e,_⟩:=h.is;rw [e];rfl
def eI (p:eD):Bool:=aC p.w p.vars&&(decide (aw p.body≤400)&&(decide (bE p.body 0≤16)&&fX p.w p.vars p.body))
theorem N9 {p:eD} {c:List Value} {H:AH} (a:H.n0≤H.nx) (A:pT H c p):Ca E O 25 [.agg c.toArray] H (fun x H'=>x= .bool (eI p)∧Ext H H'):=by
 obtain ⟨vv,vb,s,rfl,hi,u,t,l,m,n⟩:=A.is;refine Ca.dI (F:=W4) rfl rfl rfl ?_;have f:=Ext.alloc H (.cells 3 [.int .i64 p.w,vv,vb]);have q:(H.alloc (.cells 3 [.int .i64 p.w,vv,vb])).ld ⟨H.nx,0,none⟩=some (.int .i64 p.w):=ai a rfl;have o:(H.alloc (.cells 3 [.int .i64 p.w,vv,vb])).ld ⟨H.nx,1,none⟩=some vv:=ai a rfl;have h:(H.alloc (.cells 3 [.int .i64 p.w,vv,vb])).ld ⟨H.nx,2,none⟩=some vb:=ai a rfl;generalize B:H.alloc (.cells 3 [.int .i64 p.w,vv,vb])=K at f q o h;simp-implicitDefEqProofs [W4,aA,B,q,o];refine bf ?_;simp-implicitDefEqProofs;refine (zo (f.wf a) (u.ext f) t p.w).mono ?_;rintro x J ⟨rfl,i⟩
 cases d:aC p.w p.vars with
 |false=>
  simp-implicitDefEqProofs [aA,d,eI];exact f.trans i
 |true=>
  have j:=f.trans i;simp-implicitDefEqProofs [aA,d,i.ld h];refine bf ?_;simp-implicitDefEqProofs;refine (w7 (j.wf a) n (l.ext j) (m.ext j) (by omega)).mono ?_;rintro x G ⟨rfl,y⟩;have e:=j.trans y;have z:=i.trans y;by_cases g:aw p.body≤400
  case neg=>
   simp-implicitDefEqProofs [aA,d,g,eI];exact e
  simp-implicitDefEqProofs [aA,g,z.ld h];refine bf ?_;simp-implicitDefEqProofs;refine (CD _ p.body vb s G (apV _) (e.wf a) n (l.ext e) (m.ext e) (by omega)).mono ?_;rintro x D ⟨rfl,v⟩;have b:=e.trans v;have r:=z.trans v;by_cases k:bE p.body 0≤16
  case neg=>
   simp-implicitDefEqProofs [aA,d,g,k,eI];exact b
  simp-implicitDefEqProofs [aA,k,r.ld q,r.ld o,r.ld h];refine bf ?_;simp-implicitDefEqProofs;refine (JF t.1 _ p.body vb s D (apV _) (b.wf a) (u.ext b) n (l.ext b) (m.ext b)).mono ?_;rintro x I ⟨rfl,C⟩;simp-implicitDefEqProofs [aA,d,g,k,eI];exact b.trans C
end
section
open Go
theorem ep.ext {H H':AH} (E:Ext H H') {v:Value} {l:List Int} (h:ep H v l):ep H' v l:=Rows.ext E h
def ch (w:Int) (V:List Vr) (l:List Int):Bool:=decide ((l.length:Int)=dY (V.map (·.cells)))&&l.all (isWord w)
theorem Fh {w:Int} {v vs:Value} {V:List Vr} {l:List Int} {H:AH} (a:dy H v V) (g:V.length<2^60) (hs:ep H vs l) (e:l.length<2^60):
 Ca E O 65 [.int .i64 w,v,vs] H (fun x H'=>x= .bool (ch w V l)∧H'=H):=by
 refine Ca.dI (F:=Xr) rfl rfl rfl ?_;obtain ⟨k,i,d⟩:=hs.len;obtain ⟨j,h,c⟩:=a.len;have f:=wX a g V.length (apK _);have b:=wW w vs l H hs e;rw [c,d]at*;simp-implicitDefEqProofs [Xr,aA];refine bf ?_;simp-implicitDefEqProofs;refine f.mono ?_;rintro x H' ⟨rfl,rfl⟩;rw [List.take_length];by_cases q:(l.length:Int)=dY (V.map (·.cells))
 case neg=>simp-implicitDefEqProofs [aA,q,ch]
 simp-implicitDefEqProofs [aA,q];refine bf ?_;simp-implicitDefEqProofs;refine b.mono ?_;rintro x m ⟨rfl,rfl⟩;simp-implicitDefEqProofs [aA,q,ch]
structure wu where
 store:List Int
 bz:List Int
structure xb (H:AH) (c:List Value) (s:wu):Prop where
 is:∃vs vp,c=[vs,vp]∧ep H vs s.store∧ep H vp s.bz∧s.store.length<2^60∧s.bz.length<2^60∧(∀n∈s.store,oh n)∧∀n∈s.bz,oh n
theorem xb.ext {H H':AH} (E:Ext H H') {c:List Value} {s:wu} (h:xb H c s):xb H' c s:=by
 obtain ⟨d,i,e,a,b,f,g⟩:=h.is;exact ⟨d,i,e,a.ext E,b.ext E,f,g⟩
def jS (p:eD) (s:wu):Bool:=ch p.w p.vars s.store&&(decide (s.bz.length≤16)&&s.bz.all (isWord p.w))
theorem Fi {p:eD} {t:wu} {c d:List Value} {H:AH} (i:H.n0≤H.nx) (C:pT H c p) (B:xb H d t):
 Ca E O 26 [.agg c.toArray,.agg d.toArray] H (fun x H'=>x= .bool (jS p t)∧Ext H H'):=by
 obtain ⟨vv,e,J,rfl,hi,A,z,K,L,M⟩:=C.is;obtain ⟨vs,vp,rfl,u,sp,y,v,_,_⟩:=B.is;refine Ca.dI (F:=W5) rfl rfl rfl ?_;have l:=Ext.alloc H (.cells 3 [.int .i64 p.w,vv,e]);have k:(H.alloc (.cells 3 [.int .i64 p.w,vv,e])).ld ⟨H.nx,0,none⟩=some (.int .i64 p.w):=ai i rfl;have s:(H.alloc (.cells 3 [.int .i64 p.w,vv,e])).ld ⟨H.nx,1,none⟩=some vv:=ai i rfl;generalize G:H.alloc (.cells 3 [.int .i64 p.w,vv,e])=a at l k s;have n:=l.wf i;have b:=Ext.alloc a (.cells 2 [vs,vp]);have r:(a.alloc (.cells 2 [vs,vp])).ld ⟨a.nx,0,none⟩=some vs:=ai n rfl;have q:(a.alloc (.cells 2 [vs,vp])).ld ⟨a.nx,1,none⟩=some vp:=ai n rfl;generalize D:a.alloc (.cells 2 [vs,vp])=R at b r q;have X:=l.trans b;obtain ⟨P,N,o⟩:=sp.len;have j:=q;rw [o]at j;simp-implicitDefEqProofs [W5,aA,G,D,b.ld k,b.ld s,r];refine bf ?_;simp-implicitDefEqProofs;refine (Fh (A.ext X) z.1 (u.ext X) y).mono ?_;rintro x I ⟨rfl,rfl⟩
 cases f:ch p.w p.vars t.store with
 |false=>
  simp-implicitDefEqProofs [aA,f,jS];exact X
 |true=>
  by_cases h:t.bz.length≤16
  case neg=>
   have g:¬ (t.bz.length:Int)≤16:=by omega
   simp-implicitDefEqProofs [aA,f,h,g,j,jS];exact X
  have g:(t.bz.length:Int)≤16:=by omega
  have m:=wW p.w vp t.bz I (sp.ext X) v;rw [o]at m;simp-implicitDefEqProofs [aA,f,h,g,j,b.ld k];refine bf ?_;simp-implicitDefEqProofs;refine m.mono ?_;rintro x Q ⟨rfl,rfl⟩;simp-implicitDefEqProofs [aA,f,h,jS];exact X
def j9 (p:eD) (fuel:Int) (t:wu):Int:=if eI p=false then 30 else if fuel<0∨4096<fuel then 1 else if jS p t=false then 50 else 0
theorem tN {p:eD} {t:wu} {c d:List Value} {fuel:Int} {H:AH} (h:H.n0≤H.nx) (j:pT H c p) (n:xb H d t):
 Ca E O 6 [.agg c.toArray,.int .i64 fuel,.agg d.toArray] H (fun x H'=>x= .int .i64 (j9 p fuel t)∧Ext H H'):=by
 refine Ca.dI (F:=a6) rfl rfl rfl ?_;have u:d.length=2:=by obtain ⟨y,A,e,_⟩:=n.is;rw [e];rfl
 have l:=Ext.alloc H (.cells c.length c);have k:=bj h (z:=c.length) (c:=c) 3 j.len;generalize w:H.alloc (.cells c.length c)=r at l k;have s:=l.wf h;have i:=Ext.alloc r (.cells d.length d);have o:=bj s (z:=d.length) (c:=d) 2 u;generalize v:r.alloc (.cells d.length d)=D at i o;have X:=l.trans i;simp-implicitDefEqProofs [a6,aA,w,v,i.ldn k];refine bf ?_;simp-implicitDefEqProofs;refine (N9 (X.wf h) (j.ext X)).mono ?_;rintro x C ⟨rfl,a⟩
 cases b:eI p with
 |false=>
  simp-implicitDefEqProofs [aA,b,j9];exact X.trans a
 |true=>
  by_cases f:fuel<0
  ·simp-implicitDefEqProofs [aA,b,f,j9]
   exact X.trans a
  by_cases g:4096<fuel
  ·simp-implicitDefEqProofs [aA,b,f,g,j9]
   exact X.trans a
  simp-implicitDefEqProofs [aA,b,f,g,(i.trans a).ldn k,a.ldn o];refine bf ?_;simp-implicitDefEqProofs;refine (Fi ((X.trans a).wf h) (j.ext (X.trans a)) (n.ext (X.trans a))).mono ?_;rintro x B ⟨rfl,q⟩
  cases m:jS p t with
  |false=>
   simp-implicitDefEqProofs [aA,b,f,g,m,j9];exact X.trans (a.trans q)
  |true=>
   simp-implicitDefEqProofs [aA,b,f,g,m,j9];exact X.trans (a.trans q)
open Go
section
variable{E:Env} {O:kl} {ks:List Ko} {fr:Fr} {H:AH} {Q:Ex→Fr→AH→Prop}
def eW (b:Bool):Value→Bool
 | .bool c=>c==b
 |_=>false
@[simp]theorem XP (c:Bool):eW true (.bool c)=c:=by cases c<;>rfl
@[simp]theorem XQ (c:Bool):eW false (.bool c)= !c:=by cases c<;>rfl
@[simp]theorem XS (b:Bool):eW b undef=false:=rfl
def br (c a b:Prop):Prop:=(c→a)∧(¬ c→b)
@[congr]theorem TH {c d a a' b b':Prop} (f:c=d) (h2:d→a=a') (e:¬ d→b=b'):br c a b=br d a' b':=by
 subst f;unfold br;exact propext ⟨fun k=>⟨fun h=>h2 h▸k.1 h,fun h=>e h▸k.2 h⟩,fun k=>⟨fun h=>(h2 h).symm▸k.1 h,fun h=>(e h).symm▸k.2 h⟩⟩
@[simp]theorem Oa (a b:Prop):br True a b=a:=propext ⟨fun h=>h.1 trivial,fun h=>⟨fun _=>h,fun k=>(k trivial).elim⟩⟩
@[simp]theorem Od (a b:Prop):br False a b=b:=propext ⟨fun h=>h.2 id,fun h=>⟨fun k=>k.elim,fun _=>h⟩⟩
@[simp]theorem age (c:Prop):br c True True=True:=propext ⟨fun _=>trivial,fun _=>⟨fun _=>trivial,fun _=>trivial⟩⟩
theorem xd {c a b:Prop} (h:c→a) (k:¬ c→b):br c a b:=⟨h,k⟩
theorem mJ (t:Nat) (b:Bool) (d:Option Nat) (p:cQ):(AO.mk (some (t,b)) d p).wanted fr=eW b (fr.get t):=by
 unfold AO.wanted eW;simp only;split<;>rename_i h<;>simp_all
theorem abz (t:Nat) (b:Bool) (d:Option Nat) (p:cQ) (l:List AO):Wr E O (⟨some (t,b),d,p⟩::l) ks fr H Q↔
 br (eW b (fr.get t)=true) (Wr E O (⟨none,d,p⟩::l) ks fr H Q) (Wr E O l ks (fr.bg d undef) H Q):=by
 by_cases a:eW b (fr.get t)=true
 ·simp only [a,Oa]
  exact Td _ _ _ (by unfold eW at a;split at a<;>simp_all)
 ·simp only [a]
  rw [show(false=true)=False by simp,Od];exact zh _ _ _ (by intro h;rw [h]at a;simp [eW]at a)
theorem abA {c:List AO} {ck:List (Nat×Nat×Nat)} {acc:List (Fr×AH)} (t:Nat) (b:Bool) (d:Option Nat) (p:cQ) (l:List AO):Wd E O c ck acc (⟨some (t,b),d,p⟩::l) ks fr H Q↔
 br (eW b (fr.get t)=true) (Wd E O c ck acc (⟨none,d,p⟩::l) ks fr H Q) (Wd E O c ck ((fr.bg d undef,H)::acc) l ks (fr.bg d undef) H Q):=by
 by_cases a:eW b (fr.get t)=true
 ·simp only [a,Oa]
  exact Te _ _ _ (by unfold eW at a;split at a<;>simp_all)
 ·simp only [a]
  rw [show(false=true)=False by simp,Od];exact zi _ _ _ (by intro h;rw [h]at a;simp [eW]at a)
@[simp]theorem Ro (f:Fr) (d:Nat) (v:Value):f.bg (some d) v=f.put d v:=rfl
@[simp]theorem Rp (f:Fr) (v:Value):f.bg none v=f:=rfl
def Fk:Value→Bool
 | .bool _=>true
 |_=>false
@[simp]theorem abB (c:Bool):Fk (.bool c)=true:=rfl
theorem abC {x:X} {a b:AC}:Wk E O (.cond x a b) ks fr H Q↔Fk (x.ev fr)=true∧br (eW true (x.ev fr)=true) (Wk E O a ks fr H Q) (Wk E O b ks fr H Q):=by
 cases d:x.ev fr with
 |bool c=>
  cases c
  ·simp [ET d]
  ·simp [ES d]
 |_=>
  refine ⟨?_,fun h=>by simp [Fk]at h⟩;rintro ⟨n,ex,f,g,e,q⟩
  cases n with
  |zero=>simp [aG]at e
  |succ n=>
   rw [aG,d]at e;cases e
end
structure Mod (S:Nat→Prop) (H H':AH):Prop where
 n0:H'.n0=H.n0
 nx:H.nx≤H'.nx
 old:∀b,b<H.nx→¬ S b→H'.get b=H.get b
theorem Mod.refl (S:Nat→Prop) (H:AH):Mod S H H:=⟨rfl,apK _,fun _ _ _=>rfl⟩
theorem Mod.trans {S:Nat→Prop} {a b c:AH} (h:Mod S a b) (k:Mod S b c):Mod S a c:=⟨k.n0.trans h.n0,ap2 h.nx k.nx,fun x d e=>(k.old x (ap3 d h.nx) e).trans (h.old x d e)⟩
theorem Mod.bU {S:Nat→Prop} {a b:AH} (h:Ext a b):Mod S a b:=⟨h.n0,h.nx,fun x c _=>h.old x c⟩
theorem Mod.mono {S T:Nat→Prop} {a b:AH} (h:Mod S a b) (k:∀x,x<a.nx→S x→T x):Mod T a b:=⟨h.n0,h.nx,fun x c d=>h.old x c fun e=>d (k x c e)⟩
theorem Ext.mod {S:Nat→Prop} {a b c:AH} (h:Ext a b) (k:Mod S b c) (hs:∀x,S x→a.nx≤x):Ext a c:=⟨k.n0.trans h.n0,ap2 h.nx k.nx,fun x d=>(k.old x (ap3 d h.nx) (fun q=>absurd (hs x q) (Nat.not_le.2 d))).trans (h.old x d)⟩
theorem Mod.get {S:Nat→Prop} {a b:AH} (h:Mod S a b) {x:Nat} (hs:¬ S x) {y:pG} (k:a.get x=some y):b.get x=some y:=by rw [h.old x (AH.bk k) hs];exact k
theorem Mod.ldn {S:Nat→Prop} {H H':AH} (h:Mod S H H') {a:Addr} {n:Nat} {vs:List Value} (hs:¬ S a.block) (k:H.ldn a n=some vs):H'.ldn a n=some vs:=by
 obtain ⟨x,b⟩:=aqi.1 (dF k).1;rw [←k];exact eS (h.old _ (AH.bk b) hs) h.n0
theorem Mod.ld {S:Nat→Prop} {H H':AH} (h:Mod S H H') {a:Addr} {v:Value} (hs:¬ S a.block) (k:H.ld a=some v):H'.ld a=some v:=aV.2 (h.ldn hs (aV.1 k))
theorem Mod.wf {S:Nat→Prop} {H H':AH} (h:Mod S H H') (w:H.n0≤H.nx):H'.n0≤H'.nx:=by rw [h.n0];exact ap2 w h.nx
theorem bV {H:AH} {b z k:Nat} {c vs:List Value} (d:H.get b=some (.cells z c)) (h:H.n0≤b) (g:k+vs.length≤c.length):
 ∃a,H.st ⟨b,k,none⟩ vs=some a∧Mod (fun x=>x=b) H a∧a.nx=H.nx∧a.n0=H.n0∧a.get b=some (.cells z (aM c k vs)):=by
 have e:=AH.bk d;refine ⟨H.put b (some (.cells z (aM c k vs))),?_,⟨rfl,apK _,fun x i f=>?_⟩,rfl,rfl,?_⟩
 ·unfold AH.st
  simp [d,h,g]
 ·rw [AH.bR _ _ _ _ e,if_neg f]
 ·rw [AH.bR _ _ _ _ e,if_pos rfl]
theorem fC {H:AH} (w:H.n0≤H.nx) {z:Nat} {c vs:List Value} (i:vs.length=c.length):
 ∃a,(H.alloc (.cells z c)).st ⟨H.nx,0,none⟩ vs=some a∧Ext H a∧a.nx=H.nx+1∧a.n0=H.n0∧a.get H.nx=some (.cells z vs):=by
 have d:(H.alloc (.cells z c)).get H.nx=some (.cells z c):=by rw [AH.ey,if_pos rfl]
 obtain ⟨a,h,h2,g,f,b⟩:=bV d w (k:=0) (vs:=vs) (by omega)
 have e:aM c 0 vs=vs:=by
  have:aM c 0 vs=vs++c.drop vs.length:=by cases c<;>rfl
  rw [this,List.drop_eq_nil_of_le (by omega)];simp
 rw [e]at b;exact ⟨a,h,(Ext.alloc H _).mod h2 (by rintro x rfl;exact apK _),g,f,b⟩
theorem bM {H:AH} {b z k n:Nat} {c:List Value} (d:H.get b=some (.cells z c)) (e:H.n0≤b) (a:k+n≤c.length):H.ldn ⟨b,k,none⟩ n=some ((c.drop k).take n):=by
 unfold AH.ldn;have:¬ b<H.n0:=Nat.not_lt.2 e;simp [d,a,this]
theorem aI {H:AH} {b z k:Nat} {c:List Value} {v:Value} (d:H.get b=some (.cells z c)) (e:H.n0≤b) (a:c[k]?=some v):H.ld ⟨b,k,none⟩=some v:=by
 unfold AH.ld;have:¬ b<H.n0:=Nat.not_lt.2 e;simp [d,a,this]
theorem cx (H:AH) (x:pG):(H.alloc x).get H.nx=some x:=by rw [AH.ey,if_pos rfl]
end
section
open Go
section
variable{E:Env} {O:kl} {ks:List Ko} {fr:Fr} {H:AH} {Q:Ex→Fr→AH→Prop}
inductive Md where
 |pl
 |dr (l0:List AO) (ck:List (Nat×Nat×Nat)) (acc:List (Fr×AH))
def Md.up:Md→Fr→AH→Md
 | .pl,_,_=>.pl
 | .dr l0 ck acc,fr,H=>.dr l0 ck ((fr,H)::acc)
@[simp]theorem agf:Md.up .pl fr H= .pl:=rfl
@[simp]theorem agh (a:List AO) (ck:List (Nat×Nat×Nat)) (acc:List (Fr×AH)):Md.up (.dr a ck acc) fr H= .dr a ck ((fr,H)::acc):=rfl
def Vx (E:Env) (O:kl) (m:Md) (l:List AO) (ks:List Ko) (fr:Fr) (H:AH) (Q:Ex→Fr→AH→Prop):Prop:=match m with
 | .pl=>Wr E O l ks fr H Q
 | .dr l0 ck acc=>Wd E O l0 ck acc l ks fr H Q
def Vk (E:Env) (O:kl) (c:AC) (ks:List Ko) (fr:Fr) (H:AH) (Q:Ex→Fr→AH→Prop):Prop:=Wk E O c ks fr H Q
def Vn (E:Env) (O:kl) (ex:Ex) (ks:List Ko) (fr:Fr) (H:AH) (Q:Ex→Fr→AH→Prop):Prop:=Un E O ex ks fr H Q
@[simp]theorem abD (ex:Ex):Vn E O ex [] fr H Q=Q ex fr H:=EP _
@[simp]theorem agi (b:AC):Vn E O .normal (.seq b::ks) fr H Q=Vk E O b ks fr H Q:=rfl
@[simp]theorem agj (i:Nat):Vn E O .normal (.aU i::ks) fr H Q=Vn E O .normal ks fr H Q:=rfl
@[simp]theorem agk (j:Nat) (b:AC):Vn E O (.exit j) (.seq b::ks) fr H Q=Vn E O (.exit j) ks fr H Q:=rfl
@[simp]theorem abE (i:Nat):Vn E O (.exit i) (.aU i::ks) fr H Q=Vn E O .normal ks fr H Q:=NF _
@[simp]theorem akF (k:Ko):Vn E O .ret (k::ks) fr H Q=Vn E O .ret ks fr H Q:=aax _
@[simp]theorem XT:Vk E O .skip ks fr H Q↔Vn E O .normal ks fr H Q:=IM
@[simp]theorem abF:Vk E O .ret ks fr H Q↔Vn E O .ret ks fr H Q:=NG
@[simp]theorem XU (i:Nat):Vk E O (.exit i) ks fr H Q↔Vn E O (.exit i) ks fr H Q:=IN _
@[simp]theorem abG (l:List AO):Vk E O (.cL l) ks fr H Q↔Vx E O .pl l ks fr H Q:=NH _
@[simp]theorem abH (a b:AC):Vk E O (.seq a b) ks fr H Q↔Vk E O a (.seq b::ks) fr H Q:=NI _ _
@[simp]theorem TI (i:Nat) (a:AC):Vk E O (.block i a) ks fr H Q↔Vk E O a (.aU i::ks) fr H Q:=ER _ _
theorem abI {x:X} {a b:AC}:Vk E O (.cond x a b) ks fr H Q↔Fk (x.ev fr)=true∧br (eW true (x.ev fr)=true) (Vk E O a ks fr H Q) (Vk E O b ks fr H Q):=abC
@[simp]theorem XV (l:List AO) (ck:List (Nat×Nat×Nat)):Vk E O (.bO l ck) ks fr H Q↔Vx E O (.dr l ck [(fr,H)]) l ks fr H Q:=by
 refine ⟨?_,fun h=>oF _ _ h⟩;rintro ⟨n,ex,c,d,e,q⟩
 cases n with
 |zero=>simp [aG]at e
 |succ n=>
  simp only [aG,Cc]at e
  cases b:kQ (fM E O (n+1)) l fr H with
  |none=>simp [b]at e
  |some a=>
   simp only [b]at e
   cases h2:chain ((fr,H)::a)&&ck.all (ko l ((fr,H)::a))with
   |false=>simp [h2]at e
   |true=>
    simp only [h2,cond_true,apH,apO]at e;obtain ⟨rfl,rfl,rfl⟩:=e;refine ⟨n+1,a,b,?_,q⟩;unfold tt
    simpa using h2
@[simp]theorem abJ:Vx E O .pl [] ks fr H Q↔Vn E O .normal ks fr H Q:=NJ
@[simp]theorem XW {a:List AO} {ck:List (Nat×Nat×Nat)} {acc:List (Fr×AH)}:Vx E O (.dr a ck acc) [] ks fr H Q↔tt a ck acc=true∧Vn E O .normal ks fr H Q:=NK
theorem abK {m:Md} (t:Nat) (b:Bool) (d:Option Nat) (p:cQ) (l:List AO):Vx E O m (⟨some (t,b),d,p⟩::l) ks fr H Q↔
 br (eW b (fr.get t)=true) (Vx E O m (⟨none,d,p⟩::l) ks fr H Q) (Vx E O (m.up (fr.bg d undef) H) l ks (fr.bg d undef) H Q):=by
 cases m
 ·exact abz _ _ _ _ _
 ·exact abA _ _ _ _ _
def CV (E:Env) (O:kl) (v:Value) (a b:AC) (ks:List Ko) (fr:Fr) (H:AH) (Q:Ex→Fr→AH→Prop):Prop:=
 Fk v=true∧br (eW true v=true) (Vk E O a ks fr H Q) (Vk E O b ks fr H Q)
@[simp]theorem agl {x:X} {a b:AC}:Vk E O (.cond x a b) ks fr H Q↔CV E O (x.ev fr) a b ks fr H Q:=abI
variable{a b:AC}
@[simp]theorem akG:CV E O (.bool true) a b ks fr H Q↔Vk E O a ks fr H Q:=by simp [CV]
@[simp]theorem akH:CV E O (.bool false) a b ks fr H Q↔Vk E O b ks fr H Q:=by simp [CV]
@[simp]theorem akI (c:Prop) [Decidable c]:CV E O (.bool (decide c)) a b ks fr H Q↔br c (Vk E O a ks fr H Q) (Vk E O b ks fr H Q):=by simp [CV]
@[simp]theorem akJ (c:Bool):CV E O (.bool (!c)) a b ks fr H Q↔CV E O (.bool c) b a ks fr H Q:=by cases c<;>simp
def GV (E:Env) (O:kl) (v:Value) (b:Bool) (m:Md) (d:Option Nat) (p:cQ) (l:List AO) (ks:List Ko) (fr:Fr) (H:AH) (Q:Ex→Fr→AH→Prop):Prop:=
 br (eW b v=true) (Vx E O m (⟨none,d,p⟩::l) ks fr H Q) (Vx E O (m.up (fr.bg d undef) H) l ks (fr.bg d undef) H Q)
@[simp]theorem agm {m:Md} (t:Nat) (b:Bool) (d:Option Nat) (p:cQ) (l:List AO):Vx E O m (⟨some (t,b),d,p⟩::l) ks fr H Q↔GV E O (fr.get t) b m d p l ks fr H Q:=abK _ _ _ _ _
section
variable{m:Md} {d:Option Nat} {p:cQ} {l:List AO}
@[simp]theorem agn:GV E O (.bool true) true m d p l ks fr H Q↔Vx E O m (⟨none,d,p⟩::l) ks fr H Q:=by simp [GV]
@[simp]theorem ago:GV E O (.bool false) false m d p l ks fr H Q↔Vx E O m (⟨none,d,p⟩::l) ks fr H Q:=by simp [GV]
@[simp]theorem agp:GV E O (.bool true) false m d p l ks fr H Q↔Vx E O (m.up (fr.bg d undef) H) l ks (fr.bg d undef) H Q:=by simp [GV]
@[simp]theorem agq:GV E O (.bool false) true m d p l ks fr H Q↔Vx E O (m.up (fr.bg d undef) H) l ks (fr.bg d undef) H Q:=by simp [GV]
@[simp]theorem akK (b:Bool):GV E O undef b m d p l ks fr H Q↔Vx E O (m.up (fr.bg d undef) H) l ks (fr.bg d undef) H Q:=by simp [GV]
@[simp]theorem agr (c:Prop) [Decidable c]:GV E O (.bool (decide c)) true m d p l ks fr H Q↔br c (Vx E O m (⟨none,d,p⟩::l) ks fr H Q) (Vx E O (m.up (fr.bg d undef) H) l ks (fr.bg d undef) H Q):=by simp [GV]
@[simp]theorem ags (c:Prop) [Decidable c]:GV E O (.bool (decide c)) false m d p l ks fr H Q↔br c (Vx E O (m.up (fr.bg d undef) H) l ks (fr.bg d undef) H Q) (Vx E O m (⟨none,d,p⟩::l) ks fr H Q):=by
 by_cases h:c<;>simp [h]
@[simp]theorem agt (c:Bool):GV E O (.bool (!c)) true m d p l ks fr H Q↔GV E O (.bool c) false m d p l ks fr H Q:=by cases c<;>simp
@[simp]theorem agu (c:Bool):GV E O (.bool (!c)) false m d p l ks fr H Q↔GV E O (.bool c) true m d p l ks fr H Q:=by cases c<;>simp
end
theorem abL (c:Bool):CV E O (.bool c) a b ks fr H Q↔br (c=true) (Vk E O a ks fr H Q) (Vk E O b ks fr H Q):=by simp [CV]
@[simp]theorem TJ (x y:ByteArray):CV E O (.bool (bT x y)) a b ks fr H Q↔br (bT x y=true) (Vk E O a ks fr H Q) (Vk E O b ks fr H Q):=abL _
theorem Fl {m:Md} (d:Nat) (p:cQ) (l:List AO) (h:p.bl=false):Vx E O m (⟨none,some d,p⟩::l) ks fr H Q↔
 AP (aA p (X.ev fr) H)=true∧Vx E O (m.up (fr.put d (valOf (aA p (X.ev fr) H))) (gw H (aA p (X.ev fr) H))) l ks (fr.put d (valOf (aA p (X.ev fr) H))) (gw H (aA p (X.ev fr) H)) Q:=by
 cases m
 ·exact aay _ _ _ h
 ·exact aaA _ _ _ h
theorem TK {m:Md} (p:cQ) (l:List AO) (h:p.bl=false):Vx E O m (⟨none,none,p⟩::l) ks fr H Q↔
 AP (aA p (X.ev fr) H)=true∧Vx E O (m.up fr (gw H (aA p (X.ev fr) H))) l ks fr (gw H (aA p (X.ev fr) H)) Q:=by
 cases m
 ·exact aaz _ _ h
 ·exact aaB _ _ h
theorem eg {m:Md} {d:Nat} {p:cQ} {l:List AO} (h:p.bl=false) {r:Option Value} (e:aA p (X.ev fr) H=r.map fun v=>(.v v,H)):Vx E O m (⟨none,some d,p⟩::l) ks fr H Q↔
 r.isSome=true∧Vx E O (m.up (fr.put d (r.getD undef)) H) l ks (fr.put d (r.getD undef)) H Q:=by
 rw [Fl _ _ _ h,e];cases r<;>simp [AP]
def xe:Value→Value→Value→Option Value
 | .bool t,a,b=>some (bif t then a else b)
 |_,_,_=>none
@[simp]theorem XY (t:Bool) (a b:Value):xe (.bool t) a b=some (bif t then a else b):=rfl
def Rq (H:AH):Value→Option Value
 | .pointer (some a)=>H.ld a
 |_=>none
@[simp]theorem agv (a:Addr):Rq H (.pointer (some a))=H.ld a:=rfl
def tB (n:Nat) (H:AH):Value→Option Value
 | .pointer (some a)=>(H.ldn a n).map fun l=>.agg l.toArray
 |_=>none
@[simp]theorem Og (n:Nat) (a:Addr):tB n H (.pointer (some a))=(H.ldn a n).map fun l=>.agg l.toArray:=rfl
def Fp (n:Nat) (H:AH):Value→Value→Option AH
 | .pointer (some a),v=>bif Nat.beq (aW v).length n&& !cN v then H.st a (aW v)else none
 |_,_=>none
@[simp]theorem TL (n:Nat) (a:Addr) (v:Value):Fp n H (.pointer (some a)) v=if(aW v).length=n∧cN v=false then H.st a (aW v)else none:=by
 unfold Fp;simp only [nb,Bool.cond_eq_ite,apJ,apS,Bool.not_eq_true']
@[simp]theorem nM (k:IntKind) (n:Int):aW (.int k n)=[.int k n]:=rfl
@[simp]theorem LR (b:Bool):aW (.bool b)=[.bool b]:=rfl
@[simp]theorem HZ (b:ByteArray):aW (.string b)=[.string b]:=rfl
@[simp]theorem JG (a:Option Addr) (n c:Nat):aW (.slice a n c)=[.slice a n c]:=rfl
@[simp]theorem mi (a:Option Addr):aW (.pointer a)=[.pointer a]:=rfl
@[simp]theorem Oh (a:Option Nat):aW (.map a)=[.map a]:=rfl
@[simp]theorem LS (f:Fn) (a b:Array Value):aW (.func f a b)=[.func f a b]:=rfl
@[simp]theorem Fq:aW .nilFunc=[.nilFunc]:=rfl
@[simp]theorem Rs (k:IntKind) (n:Int):cN (.int k n)=false:=rfl
@[simp]theorem Oi (b:Bool):cN (.bool b)=false:=rfl
@[simp]theorem JH (b:ByteArray):cN (.string b)=false:=rfl
@[simp]theorem LU (a:Option Addr) (n c:Nat):cN (.slice a n c)=false:=rfl
@[simp]theorem Ia (a:Option Addr):cN (.pointer a)=false:=rfl
@[simp]theorem Rt (a:Option Nat):cN (.map a)=false:=rfl
@[simp]theorem Oj (f:Fn) (a b:Array Value):cN (.func f a b)=false:=rfl
@[simp]theorem Ib:cN .nilFunc=false:=rfl
def tO:Value→Option Value
 | .pointer (some a)=>some (.pointer (some a))
 |_=>none
@[simp]theorem XZ (a:Addr):tO (.pointer (some a))=some (.pointer (some a)):=rfl
def Fs (k:IntKind):Value→Option Value
 | .int _ n=>some (.int k (k.wrap n))
 |_=>none
@[simp]theorem abM (k c:IntKind) (n:Int):Fs k (.int c n)=some (.int k (k.wrap n)):=rfl
def TM:Value→Option Value
 | .int _ n=>some (.string (Utf8.encode n))
 |_=>none
@[simp]theorem abN (c:IntKind) (n:Int):TM (.int c n)=some (.string (Utf8.encode n)):=rfl
def LV (off:Nat):Value→Option Value
 | .pointer (some a)=>bif a.spot.isNone then some (.pointer (some ⟨a.block,a.off+off,none⟩))else none
 |_=>none
@[simp]theorem agw (off b o:Nat):LV off (.pointer (some ⟨b,o,none⟩))=some (.pointer (some ⟨b,o+off,none⟩)):=rfl
def LW (sz:Nat):Value→Value→Option Value
 | .slice (some a) len _,.int _ n=>if 0≤n∧n<len then(bif a.spot.isNone then some (.pointer (some ⟨a.block,a.off+n.toNat*sz,none⟩))else none)else none
 |_,_=>none
@[simp]theorem LX (sz b o len c:Nat) (k:IntKind) (n:Int):LW sz (.slice (some ⟨b,o,none⟩) len c) (.int k n)=if 0≤n∧n<len then some (.pointer (some ⟨b,o+n.toNat*sz,none⟩))else none:=rfl
def xf (len sz:Nat):Value→Value→Option Value
 | .pointer (some a),.int _ n=>if 0≤n∧n<len then(bif a.spot.isNone then some (.pointer (some ⟨a.block,a.off+n.toNat*sz,none⟩))else none)else none
 |_,_=>none
@[simp]theorem Ft (sz b o len:Nat) (k:IntKind) (n:Int):xf len sz (.pointer (some ⟨b,o,none⟩)) (.int k n)=if 0≤n∧n<len then some (.pointer (some ⟨b,o+n.toNat*sz,none⟩))else none:=rfl
def DC:Value→Value→Option Value
 | .string s,.int _ n=>if 0≤n then(match s[n.toNat]? with|some b=>some (.int .u8 b.toNat)|none=>none)else none
 |_,_=>none
theorem LY {s:ByteArray} {k:IntKind} {n:Nat} (h:n<s.size):DC (.string s) (.int k n)=some (.int .u8 (dk s n)):=by
 have:s[n]?=some s[n]:=getElem?_pos s n h;simp only [DC,Int.toNat_natCast];rw [if_pos (by omega),this];unfold dk;rw [this];rfl
def xg:Value→Nat→Option Value
 | .tuple vs,i=>vs.toList[i]?
 |_,_=>none
@[simp]theorem abO (vs:Array Value) (i:Nat):xg (.tuple vs) i=vs.toList[i]?:=rfl
def sk:Value→Option Value
 | .string s=>some (.int .i64 s.size)
 |_=>none
@[simp]theorem Ya (s:ByteArray):sk (.string s)=some (.int .i64 s.size):=rfl
def sn:Value→Option Value
 | .slice _ n _=>some (.int .i64 n)
 |_=>none
@[simp]theorem Yb (a:Option Addr) (n c:Nat):sn (.slice a n c)=some (.int .i64 n):=rfl
def Fu (k:Nat) (neg:Bool) (x y:Value):Option Value:=(hU k x y).map fun b=>.bool (bif neg then !b else b)
@[simp]theorem agx (neg a b:Bool):Fu 0 neg (.bool a) (.bool b)=some (.bool (bif neg then !(a==b)else(a==b))):=rfl
@[simp]theorem abP (neg:Bool) (b:Option Addr):Fu 1 neg (.pointer none) (.pointer b)=some (.bool (bif neg then !b.isNone else b.isNone)):=rfl
@[simp]theorem abQ (neg:Bool) (b:Addr):Fu 1 neg (.pointer (some b)) (.pointer none)=some (.bool neg):=by cases neg<;>rfl
@[simp]theorem abR (neg:Bool) (n c d e:Nat) (b:Option Addr):Fu 2 neg (.slice none n c) (.slice b d e)=some (.bool (bif neg then !b.isNone else b.isNone)):=rfl
@[simp]theorem abS (neg:Bool) (n c d e:Nat) (b:Addr):Fu 2 neg (.slice (some b) n c) (.slice none d e)=some (.bool neg):=by cases neg<;>rfl
@[simp]theorem abT (neg:Bool) (f:Fn) (a b:Array Value):Fu 3 neg (.func f a b) .nilFunc=some (.bool neg):=by cases neg<;>rfl
@[simp]theorem abU (neg:Bool) (b:Option Nat):Fu 4 neg (.map none) (.map b)=some (.bool (bif neg then !b.isNone else b.isNone)):=rfl
def xh (neg:Bool) (offs:List (Nat×Nat)):Value→Value→Option Value
 | .agg cs,.agg ds=>(du cs.toList ds.toList offs).map fun b=>.bool (bif neg then !b else b)
 |_,_=>none
@[simp]theorem abV (neg:Bool) (offs:List (Nat×Nat)) (cs ds:Array Value):xh neg offs (.agg cs) (.agg ds)=(du cs.toList ds.toList offs).map fun b=>.bool (bif neg then !b else b):=rfl
def iU (kk:Nat) (z:Value) (H:AH) (x k:Value) (ok:Bool):Option Value:=
 match x with
 | .map none=>bif cO kk k then some (bif ok then .tuple #[z, .bool false]else z)else none
 | .map (some r)=>match H.get r with
   |some (.map es)=>bif cO kk k&&decide (H.n0≤r)then(match gk k es with
    |some (some v)=>some (bif ok then .tuple #[v, .bool true]else v)
    |some none=>some (bif ok then .tuple #[z, .bool false]else z)
    |none=>none)else none
   |_=>none
 |_=>none
section
variable{m:Md} {l:List AO} (d:Nat)
@[simp]theorem agy (x:X):Vx E O m (⟨none,some d,.mv x⟩::l) ks fr H Q↔Vx E O (m.up (fr.put d (x.ev fr)) H) l ks (fr.put d (x.ev fr)) H Q:=by
 rw [eg (r:=some (x.ev fr)) rfl rfl];simp
@[simp]theorem Yc (c a b:X):Vx E O m (⟨none,some d,.pick c a b⟩::l) ks fr H Q↔(xe (c.ev fr) (a.ev fr) (b.ev fr)).isSome=true∧Vx E O (m.up (fr.put d ((xe (c.ev fr) (a.ev fr) (b.ev fr)).getD undef)) H) l ks (fr.put d ((xe (c.ev fr) (a.ev fr) (b.ev fr)).getD undef)) H Q:=
 eg rfl (by simp only [aA];cases c.ev fr<;>rfl)
@[simp]theorem agz (x:X):Vx E O m (⟨none,some d,.ld x⟩::l) ks fr H Q↔(Rq H (x.ev fr)).isSome=true∧Vx E O (m.up (fr.put d ((Rq H (x.ev fr)).getD undef)) H) l ks (fr.put d ((Rq H (x.ev fr)).getD undef)) H Q:=
 eg rfl (by
  simp only [aA]
  cases x.ev fr with
  |pointer a=>cases a<;>rfl
  |_=>rfl)
@[simp]theorem abW (n:Nat) (x:X):Vx E O m (⟨none,some d,.ldn n x⟩::l) ks fr H Q↔(tB n H (x.ev fr)).isSome=true∧Vx E O (m.up (fr.put d ((tB n H (x.ev fr)).getD undef)) H) l ks (fr.put d ((tB n H (x.ev fr)).getD undef)) H Q:=
 eg rfl (by
  simp only [aA]
  cases x.ev fr with
  |pointer a=>
   cases a with
   |none=>rfl
   |some a=>simp only [tB];cases H.ldn a n<;>rfl
  |_=>rfl)
@[simp]theorem Yd (x:X):Vx E O m (⟨none,some d,.bB x⟩::l) ks fr H Q↔(tO (x.ev fr)).isSome=true∧Vx E O (m.up (fr.put d ((tO (x.ev fr)).getD undef)) H) l ks (fr.put d ((tO (x.ev fr)).getD undef)) H Q:=
 eg rfl (by
  simp only [aA]
  cases x.ev fr with
  |pointer a=>cases a<;>rfl
  |_=>rfl)
@[simp]theorem abX (op:BinOp) (x y:X):Vx E O m (⟨none,some d,.bin op x y⟩::l) ks fr H Q↔(de op (x.ev fr) (y.ev fr)).isSome=true∧Vx E O (m.up (fr.put d ((de op (x.ev fr) (y.ev fr)).getD undef)) H) l ks (fr.put d ((de op (x.ev fr) (y.ev fr)).getD undef)) H Q:=
 eg rfl rfl
@[simp]theorem abY (k:Nat) (neg:Bool) (x y:X):Vx E O m (⟨none,some d,.eqk k neg x y⟩::l) ks fr H Q↔(Fu k neg (x.ev fr) (y.ev fr)).isSome=true∧Vx E O (m.up (fr.put d ((Fu k neg (x.ev fr) (y.ev fr)).getD undef)) H) l ks (fr.put d ((Fu k neg (x.ev fr) (y.ev fr)).getD undef)) H Q:=
 eg rfl (by simp only [aA,Fu];cases hU k (x.ev fr) (y.ev fr)<;>rfl)
@[simp]theorem abZ (neg:Bool) (offs:List (Nat×Nat)) (x y:X):Vx E O m (⟨none,some d,.eqs neg offs x y⟩::l) ks fr H Q↔(xh neg offs (x.ev fr) (y.ev fr)).isSome=true∧Vx E O (m.up (fr.put d ((xh neg offs (x.ev fr) (y.ev fr)).getD undef)) H) l ks (fr.put d ((xh neg offs (x.ev fr) (y.ev fr)).getD undef)) H Q:=
 eg rfl (by
  simp only [aA]
  cases x.ev fr<;>cases y.ev fr<;>first
   |rfl
   |(simp only [xh];rename_i a b;cases du a.toList b.toList offs<;>rfl))
@[simp]theorem agA (op:UnOp) (x:X):Vx E O m (⟨none,some d,.un op x⟩::l) ks fr H Q↔(DT op (x.ev fr)).isSome=true∧Vx E O (m.up (fr.put d ((DT op (x.ev fr)).getD undef)) H) l ks (fr.put d ((DT op (x.ev fr)).getD undef)) H Q:=
 eg rfl rfl
@[simp]theorem ab0 (k:IntKind) (x:X):Vx E O m (⟨none,some d,.B9 k x⟩::l) ks fr H Q↔(Fs k (x.ev fr)).isSome=true∧Vx E O (m.up (fr.put d ((Fs k (x.ev fr)).getD undef)) H) l ks (fr.put d ((Fs k (x.ev fr)).getD undef)) H Q:=
 eg rfl (by simp only [aA];cases x.ev fr<;>rfl)
@[simp]theorem agB (off:Nat) (x:X):Vx E O m (⟨none,some d,.fa off x⟩::l) ks fr H Q↔(LV off (x.ev fr)).isSome=true∧Vx E O (m.up (fr.put d ((LV off (x.ev fr)).getD undef)) H) l ks (fr.put d ((LV off (x.ev fr)).getD undef)) H Q:=
 eg rfl (by
  simp only [aA]
  cases x.ev fr with
  |pointer a=>
   cases a with
   |none=>rfl
   |some a=>simp only [LV];cases a.spot.isNone<;>rfl
  |_=>rfl)
@[simp]theorem agC (sz:Nat) (x i:X):Vx E O m (⟨none,some d,.ia sz x i⟩::l) ks fr H Q↔(LW sz (x.ev fr) (i.ev fr)).isSome=true∧Vx E O (m.up (fr.put d ((LW sz (x.ev fr) (i.ev fr)).getD undef)) H) l ks (fr.put d ((LW sz (x.ev fr) (i.ev fr)).getD undef)) H Q:=
 eg rfl (by
  simp only [aA]
  cases x.ev fr with
  |slice a len c=>
   cases a with
   |none=>rfl
   |some a=>
    cases i.ev fr<;>first
     |rfl
     |(simp only [LW];split<;>first|rfl|(cases a.spot.isNone<;>rfl))
  |_=>rfl)
@[simp]theorem ab4 (len sz:Nat) (x i:X):Vx E O m (⟨none,some d,.wz len sz x i⟩::l) ks fr H Q↔(xf len sz (x.ev fr) (i.ev fr)).isSome=true∧Vx E O (m.up (fr.put d ((xf len sz (x.ev fr) (i.ev fr)).getD undef)) H) l ks (fr.put d ((xf len sz (x.ev fr) (i.ev fr)).getD undef)) H Q:=
 eg rfl (by
  simp only [aA]
  cases x.ev fr with
  |pointer a=>
   cases a with
   |none=>rfl
   |some a=>
    cases i.ev fr<;>first
     |rfl
     |(simp only [xf];split<;>first|rfl|(cases a.spot.isNone<;>rfl))
  |_=>rfl)
@[simp]theorem agD (x i:X):Vx E O m (⟨none,some d,.ix x i⟩::l) ks fr H Q↔(DC (x.ev fr) (i.ev fr)).isSome=true∧Vx E O (m.up (fr.put d ((DC (x.ev fr) (i.ev fr)).getD undef)) H) l ks (fr.put d ((DC (x.ev fr) (i.ev fr)).getD undef)) H Q:=
 eg rfl (by
  simp only [aA]
  cases x.ev fr with
  |string s=>
   cases i.ev fr<;>first
    |rfl
    |(simp only [DC];rename_i n;cases s[n.toNat]?<;>(split<;>rfl))
  |_=>rfl)
@[simp]theorem ab5 (x:X) (i:Nat):Vx E O m (⟨none,some d,.ext x i⟩::l) ks fr H Q↔(xg (x.ev fr) i).isSome=true∧Vx E O (m.up (fr.put d ((xg (x.ev fr) i).getD undef)) H) l ks (fr.put d ((xg (x.ev fr) i).getD undef)) H Q:=
 eg rfl (by
  simp only [aA]
  cases x.ev fr with
  |tuple c=>simp only [xg];cases c.toList[i]?<;>rfl
  |_=>rfl)
@[simp]theorem Ye (x:X):Vx E O m (⟨none,some d,.lens x⟩::l) ks fr H Q↔(sk (x.ev fr)).isSome=true∧Vx E O (m.up (fr.put d ((sk (x.ev fr)).getD undef)) H) l ks (fr.put d ((sk (x.ev fr)).getD undef)) H Q:=
 eg rfl (by simp only [aA];cases x.ev fr<;>rfl)
@[simp]theorem Yf (x:X):Vx E O m (⟨none,some d,.eQ x⟩::l) ks fr H Q↔(sn (x.ev fr)).isSome=true∧Vx E O (m.up (fr.put d ((sn (x.ev fr)).getD undef)) H) l ks (fr.put d ((sn (x.ev fr)).getD undef)) H Q:=
 eg rfl (by simp only [aA];cases x.ev fr<;>rfl)
@[simp]theorem Yg (kk:Nat) (z:Value) (x k:X) (ok:Bool):Vx E O m (⟨none,some d,.look kk z x k ok⟩::l) ks fr H Q↔(iU kk z H (x.ev fr) (k.ev fr) ok).isSome=true∧Vx E O (m.up (fr.put d ((iU kk z H (x.ev fr) (k.ev fr) ok).getD undef)) H) l ks (fr.put d ((iU kk z H (x.ev fr) (k.ev fr) ok).getD undef)) H Q:=
 eg rfl (by
  simp only [aA,iU]
  cases x.ev fr with
  |map r=>
   cases r with
   |none=>dsimp only;cases cO kk (k.ev fr)<;>rfl
   |some r=>
    dsimp only
    cases H.get r with
    |none=>rfl
    |some b=>
     cases b with
     |cells=>rfl
     |map es=>
      dsimp only;cases cO kk (k.ev fr)&&decide (H.n0≤r)
      ·rfl
      ·cases gk (k.ev fr) es with
       |none=>rfl
       |some q=>cases q<;>rfl
  |_=>rfl)
@[simp]theorem ab6 (f:Nat) (a b:List X):Vx E O m (⟨none,some d,.mkf f a b⟩::l) ks fr H Q↔Vx E O (m.up (fr.put d (.func (.func f) (a.map (X.ev fr)).toArray (b.map (X.ev fr)).toArray)) H) l ks (fr.put d (.func (.func f) (a.map (X.ev fr)).toArray (b.map (X.ev fr)).toArray)) H Q:=by
 rw [eg (r:=some (.func (.func f) (a.map (X.ev fr)).toArray (b.map (X.ev fr)).toArray)) rfl rfl];simp
@[simp]theorem agE (sz:Nat) (x:X) (lo hi mx:Option X):Vx E O m (⟨none,some d,.sl sz x lo hi mx⟩::l) ks fr H Q↔(cj sz H (x.ev fr) (lo.map (X.ev fr)) (hi.map (X.ev fr)) (mx.map (X.ev fr))).isSome=true∧Vx E O (m.up (fr.put d ((cj sz H (x.ev fr) (lo.map (X.ev fr)) (hi.map (X.ev fr)) (mx.map (X.ev fr))).getD undef)) H) l ks (fr.put d ((cj sz H (x.ev fr) (lo.map (X.ev fr)) (hi.map (X.ev fr)) (mx.map (X.ev fr))).getD undef)) H Q:=
 eg rfl rfl
def eM (z:List Value) (ps:List (Nat×Nat×Value)):Option Value:=(jo z ps).map fun c=>.agg c.toArray
@[simp]theorem TN (z:List Value) (ps:List (Nat×Nat×X)):Vx E O m (⟨none,some d,.build z ps⟩::l) ks fr H Q↔(eM z (ps.map fun p=>(p.1,p.2.1,p.2.2.ev fr))).isSome=true∧Vx E O (m.up (fr.put d ((eM z (ps.map fun p=>(p.1,p.2.1,p.2.2.ev fr))).getD undef)) H) l ks (fr.put d ((eM z (ps.map fun p=>(p.1,p.2.1,p.2.2.ev fr))).getD undef)) H Q:=
 eg rfl (by simp only [aA,eM];cases jo z (ps.map fun p=>(p.1,p.2.1,p.2.2.ev fr))<;>rfl)
@[simp]theorem TO (z:List Value):Vx E O m (⟨none,some d,.alloc z⟩::l) ks fr H Q↔Vx E O (m.up (fr.put d (.pointer (some ⟨H.nx,0,none⟩))) (H.alloc (.cells z.length z))) l ks (fr.put d (.pointer (some ⟨H.nx,0,none⟩))) (H.alloc (.cells z.length z)) Q:=by
 rw [Fl _ _ _ rfl];simp [aA]
@[simp]theorem ab7 (x:X):Vx E O m (⟨none,some d,.box x⟩::l) ks fr H Q↔cN (x.ev fr)=false∧Vx E O (m.up (fr.put d (.pointer (some ⟨H.nx,0,none⟩))) (H.alloc (.cells (aW (x.ev fr)).length (aW (x.ev fr))))) l ks (fr.put d (.pointer (some ⟨H.nx,0,none⟩))) (H.alloc (.cells (aW (x.ev fr)).length (aW (x.ev fr)))) Q:=by
 rw [Fl _ _ _ rfl];simp only [aA];cases cN (x.ev fr)<;>simp [AP]
@[simp]theorem TP:Vx E O m (⟨none,some d,.mkmap⟩::l) ks fr H Q↔Vx E O (m.up (fr.put d (.map (some H.nx))) (H.alloc (.map []))) l ks (fr.put d (.map (some H.nx))) (H.alloc (.map [])) Q:=by
 rw [Fl _ _ _ rfl];simp [aA]
@[simp]theorem agF (n:Nat) (x v:X):Vx E O m (⟨none,none,.st n x v⟩::l) ks fr H Q↔(Fp n H (x.ev fr) (v.ev fr)).isSome=true∧Vx E O (m.up fr ((Fp n H (x.ev fr) (v.ev fr)).getD H)) l ks fr ((Fp n H (x.ev fr) (v.ev fr)).getD H) Q:=by
 rw [TK _ _ rfl]
 have e:aA (.st n x v) (X.ev fr) H=(Fp n H (x.ev fr) (v.ev fr)).map fun c=>(.v undef,c):=by
  simp only [aA]
  cases x.ev fr with
  |pointer a=>
   cases a with
   |none=>rfl
   |some a=>
    simp only [Fp];cases (Nat.beq (aW (v.ev fr)).length n&& !cN (v.ev fr))<;>simp
  |_=>rfl
 rw [e];cases Fp n H (x.ev fr) (v.ev fr)<;>simp [AP,gw]
def Fv:Option (Value×AH)→Bool
 |some _=>true
 |none=>false
def v1:Option (Value×AH)→Value
 |some (v,_)=>v
 |none=>undef
def h2 (H:AH):Option (Value×AH)→AH
 |some (_,H')=>H'
 |none=>H
@[simp]theorem ab8 (r:Value×AH):Fv (some r)=true:=rfl
@[simp]theorem akL (v:Value) (H':AH):v1 (some (v,H'))=v:=rfl
@[simp]theorem akM (v:Value) (H':AH):h2 H (some (v,H'))=H':=rfl
theorem LZ {p:cQ} (h:p.bl=false) {r:Option (Value×AH)} (e:aA p (X.ev fr) H=r.map fun q=>(.v q.1,q.2)):Vx E O m (⟨none,some d,p⟩::l) ks fr H Q↔
 Fv r=true∧Vx E O (m.up (fr.put d (v1 r)) (h2 H r)) l ks (fr.put d (v1 r)) (h2 H r) Q:=by
 rw [Fl _ _ _ h,e]
 cases r with
 |none=>simp [Fv,AP]
 |some q=>obtain ⟨v,c⟩:=q;simp
@[simp]theorem ab9 (sz bytes:Nat) (s x:X):Vx E O m (⟨none,some d,.app sz bytes s x⟩::l) ks fr H Q↔Fv (bL sz bytes H (s.ev fr) (x.ev fr))=true∧Vx E O (m.up (fr.put d (v1 (bL sz bytes H (s.ev fr) (x.ev fr)))) (h2 H (bL sz bytes H (s.ev fr) (x.ev fr)))) l ks (fr.put d (v1 (bL sz bytes H (s.ev fr) (x.ev fr)))) (h2 H (bL sz bytes H (s.ev fr) (x.ev fr))) Q:=
 LZ _ rfl rfl
def pU (len sz:Nat) (z:List Value) (H:AH) (ps:List (Nat×Nat×Value)):Option (Value×AH):=(jo z ps).map fun c=>(.slice (some ⟨H.nx,0,none⟩) len len,H.alloc (.cells sz c))
@[simp]theorem aca (len sz:Nat) (z:List Value) (ps:List (Nat×Nat×X)):Vx E O m (⟨none,some d,.bsl len sz z ps⟩::l) ks fr H Q↔Fv (pU len sz z H (ps.map fun p=>(p.1,p.2.1,p.2.2.ev fr)))=true∧Vx E O (m.up (fr.put d (v1 (pU len sz z H (ps.map fun p=>(p.1,p.2.1,p.2.2.ev fr))))) (h2 H (pU len sz z H (ps.map fun p=>(p.1,p.2.1,p.2.2.ev fr))))) l ks (fr.put d (v1 (pU len sz z H (ps.map fun p=>(p.1,p.2.1,p.2.2.ev fr))))) (h2 H (pU len sz z H (ps.map fun p=>(p.1,p.2.1,p.2.2.ev fr)))) Q:=
 LZ _ rfl (by simp only [aA,pU];cases jo z (ps.map fun p=>(p.1,p.2.1,p.2.2.ev fr))<;>rfl)
def qL (kk:Nat) (H:AH) (x k v:Value):Option AH:=
 match x with
 | .map (some r)=>match H.get r with
   |some (.map es)=>bif cO kk k&&decide (H.n0≤r)&& !cN v then(lV k v es).map fun es'=>H.put r (some (.map es'))else none
   |_=>none
 |_=>none
@[simp]theorem acb (kk:Nat) (x k v:X):Vx E O m (⟨none,none,.qg kk x k v⟩::l) ks fr H Q↔(qL kk H (x.ev fr) (k.ev fr) (v.ev fr)).isSome=true∧Vx E O (m.up fr ((qL kk H (x.ev fr) (k.ev fr) (v.ev fr)).getD H)) l ks fr ((qL kk H (x.ev fr) (k.ev fr) (v.ev fr)).getD H) Q:=by
 rw [TK _ _ rfl]
 have e:aA (.qg kk x k v) (X.ev fr) H=(qL kk H (x.ev fr) (k.ev fr) (v.ev fr)).map fun c=>(.v undef,c):=by
  simp only [aA,qL]
  cases x.ev fr with
  |map r=>
   cases r with
   |none=>rfl
   |some r=>
    dsimp only
    cases H.get r with
    |none=>rfl
    |some b=>
     cases b with
     |cells=>rfl
     |map es=>
      dsimp only;cases (cO kk (k.ev fr)&&decide (H.n0≤r)&& !cN (v.ev fr))
      ·rfl
      ·simp only [cond_true]
       cases lV (k.ev fr) (v.ev fr) es<;>rfl
  |_=>rfl
 rw [e];cases qL kk H (x.ev fr) (k.ev fr) (v.ev fr)<;>simp [AP,gw]
theorem JI {d f:Nat} {«as»:List X} {vs:List Value} {R:Value→AH→Prop} (c:«as».map (X.ev fr)=vs) (h:Ca E O f vs H R) (k:∀x H',R x H'→Vx E O (m.up (fr.put d x) H') l ks (fr.put d x) H' Q):Vx E O m (⟨none,some d,.call f «as»⟩::l) ks fr H Q:=by
 subst c;cases m
 ·exact bf (h.mono k)
 ·exact mI (h.mono k)
theorem ah {d f:Nat} {«as»:List X} {vs:List Value} (c:«as».map (X.ev fr)=vs) (h:Ca E O f vs H fun x H'=>Vx E O (m.up (fr.put d x) H') l ks (fr.put d x) H' Q):Vx E O m (⟨none,some d,.call f «as»⟩::l) ks fr H Q:=JI c h fun _ _ k=>k
theorem Fx {d f:Nat} {x:X} {«as»:List X} {first cap:Array Value} {vs:List Value} {R:Value→AH→Prop} (c:x.ev fr= .func (.func f) first cap) (g:first.toList++«as».map (X.ev fr)++cap.toList=vs) (h:Ca E O f vs H R) (k:∀x H',R x H'→Vx E O (m.up (fr.put d x) H') l ks (fr.put d x) H' Q):Vx E O m (⟨none,some d,.callv x «as»⟩::l) ks fr H Q:=by
 subst g;have e:aA (.callv x «as») (X.ev fr) H=some (.enter f (first.toList++«as».map (X.ev fr)++cap.toList),H):=by simp only [aA,c]
 cases m
 ·show Wo E O _ _ _ _
  rw [iq,gv _ _ _ _ rfl,e];exact h.mono k
 ·show Wd E O _ _ _ _ _ _ _ _
  rw [jv,gv _ _ _ _ rfl,e];exact h.mono k
theorem pV {d f:Nat} {x:X} {«as»:List X} {first cap:Array Value} {vs:List Value} (c:x.ev fr= .func (.func f) first cap) (e:first.toList++«as».map (X.ev fr)++cap.toList=vs) (h:Ca E O f vs H fun x H'=>Vx E O (m.up (fr.put d x) H') l ks (fr.put d x) H' Q):Vx E O m (⟨none,some d,.callv x «as»⟩::l) ks fr H Q:=Fx c e h fun _ _ k=>k
end
def Fy:AO→Fr→Bool
 |⟨none,_,_⟩,_=>true
 |⟨some (t,b),_,_⟩,fr=>eW b (fr.get t)
@[simp]theorem agG (d:Option Nat) (p:cQ) (fr:Fr):Fy ⟨none,d,p⟩ fr=true:=rfl
@[simp]theorem agH (t:Nat) (b:Bool) (d:Option Nat) (p:cQ) (fr:Fr):Fy ⟨some (t,b),d,p⟩ fr=eW b (fr.get t):=rfl
theorem Ok (o:AO) (fr:Fr):o.wanted fr=Fy o fr:=by
 obtain ⟨g,d,p⟩:=o
 cases g with
 |none=>rfl
 |some q=>obtain ⟨t,b⟩:=q;exact mJ _ _ _ _
def Ru (H:AH) (n:Nat):Value→Option (Addr×List Value)
 | .pointer (some a)=>(H.ldn a n).map fun l=>(a,l)
 |_=>none
@[simp]theorem agI (n:Nat) (a:Addr):Ru H n (.pointer (some a))=(H.ldn a n).map fun l=>(a,l):=rfl
def TQ:cQ→Fr→AH→Option (Addr×List Value)
 | .ld x,fr,H=>Ru H 1 (x.ev fr)
 | .ldn n x,fr,H=>Ru H n (x.ev fr)
 |_,_,_=>none
@[simp]theorem acd (x:X):TQ (.ld x) fr H=Ru H 1 (x.ev fr):=rfl
@[simp]theorem Yh (n:Nat) (x:X):TQ (.ldn n x) fr H=Ru H n (x.ev fr):=rfl
def Ol (H':AH):Option (Addr×List Value)→Bool
 |some x=>sameAt H' x
 |none=>false
@[simp]theorem ace (x:Addr×List Value):Ol H (some x)=sameAt H x:=rfl
def Om:Option (List Value)→List Value→Bool
 |some m,l=>eG m l
 |none,_=>false
@[simp]theorem acf (m l:List Value):Om (some m) l=eG m l:=rfl
@[simp]theorem xi (a:Addr) (l:List Value):sameAt H (a,l)=Om (H.ldn a l.length) l:=by
 unfold sameAt Om;dsimp only;cases H.ldn a l.length<;>rfl
@[simp]theorem Yi:eG [] []=true:=rfl
@[simp]theorem Yj (x y:Value) (l m:List Value):eG (x::l) (y::m)=(dz x y&&eG l m):=rfl
@[simp]theorem Yk (k:IntKind) (n:Int):dz (.int k n) (.int k n)=true:=by simp [dz]
@[simp]theorem Yl (b:Bool):dz (.bool b) (.bool b)=true:=by simp [dz]
@[simp]theorem Ym (a:Option Addr):dz (.pointer a) (.pointer a)=true:=by simp [dz]
@[simp]theorem Yn (a:Option Addr) (n c:Nat):dz (.slice a n c) (.slice a n c)=true:=by simp [dz]
def On (l:List AO):Nat→Option AO→Option (Fr×AH)→Option (Fr×AH)→Option AO→Option (Fr×AH)→Option (Fr×AH)→Bool
 |k,some op,some (fp,Hp),some (_,HT),some oq,some (fq,_),some (_,Cb)=>
  !Fy op fp|| !Fy oq fq||(match k with
   |0=>Ol Cb (TQ op.o fp Hp)
   |1=>m9 (HT.get Hp.nx) (Cb.get Hp.nx)
   |_=>match dq op fp,dq oq fq with|some b,some b'=>!Nat.beq b b'|_,_=>true)
 |_,_,_,_,_,_,_=>false
@[simp]theorem agJ (l:List AO) (op d:AO) (c e i h:Fr) (g j H1 f:AH):On l 0 (some op) (some (c,g)) (some (i,j)) (some d) (some (e,H1)) (some (h,f))=(!Fy op c|| !Fy d e||Ol f (TQ op.o c g)):=rfl
@[simp]theorem agK (l:List AO) (op d:AO) (f e j i:Fr) (c h H1 g:AH):On l 1 (some op) (some (f,c)) (some (j,h)) (some d) (some (e,H1)) (some (i,g))=(!Fy op f|| !Fy d e||m9 (h.get c.nx) (g.get c.nx)):=rfl
theorem AT (l:List AO) (op c:AO) (e d g f:Fr) (j i H1 h:AH):On l 2 (some op) (some (e,j)) (some (g,i)) (some c) (some (d,H1)) (some (f,h))=(!Fy op e|| !Fy c d||(match dq op e,dq c d with|some b,some b'=>!Nat.beq b b'|_,_=>true)):=rfl
theorem JJ (l:List AO) (e:List (Fr×AH)) (k p q:Nat):ko l e (k,p,q)=On l k (nth l p) (nth e p) (nth e (p+1)) (nth l q) (nth e q) (nth e (q+1)):=by
 unfold ko;dsimp only
 cases nth l p with
 |none=>rfl
 |some op=>
  cases nth e p with
  |none=>rfl
  |some a=>
   cases nth e (p+1)with
   |none=>rfl
   |some b=>
    cases nth l q with
    |none=>rfl
    |some i=>
     cases nth e q with
     |none=>rfl
     |some c=>
      cases nth e (q+1)with
      |none=>rfl
      |some d=>
       obtain ⟨h,f⟩:=a;obtain ⟨t,s⟩:=b;obtain ⟨r,o⟩:=c;obtain ⟨n,m⟩:=d;simp only [On,Ok];congr 1
       match k with
       |0=>
        obtain ⟨g,j,p⟩:=op
        cases p<;>first
         |rfl
         |(simp only [ff,TQ]
           rename_i x
           cases x.ev h with
           |pointer z=>
            cases z with
            |none=>rfl
            |some z=>simp only [Ru];cases AH.ldn f z _<;>rfl
           |_=>rfl)
       |1=>rfl
       |k+2=>rfl
theorem Oo (l:List AO) (ck:List (Nat×Nat×Nat)) (acc:List (Fr×AH)):tt l ck acc=(chain acc.reverse&&ck.all fun c=>On l c.1 (nth l c.2.1) (nth acc.reverse c.2.1) (nth acc.reverse (c.2.1+1)) (nth l c.2.2) (nth acc.reverse c.2.2) (nth acc.reverse (c.2.2+1))):=by
 unfold tt;congr 1;congr 1;funext c;obtain ⟨k,p,q⟩:=c;exact JJ _ _ _ _ _
theorem aN (l:List AO) (ck:List (Nat×Nat×Nat)) (acc:List (Fr×AH)):tt l ck acc=true↔chain acc.reverse=true∧ck.all (fun c=>On l c.1 (nth l c.2.1) (nth acc.reverse c.2.1) (nth acc.reverse (c.2.1+1)) (nth l c.2.2) (nth acc.reverse c.2.2) (nth acc.reverse (c.2.2+1)))=true:=by
 rw [Oo,apJ]
theorem aD (a b:Fr×AH) (l:List (Fr×AH)):chain (a::b::l)=true↔(a.2.n0=b.2.n0∧a.2.nx≤b.2.nx)∧chain (b::l)=true:=by
 simp only [chain,apJ,Nat.beq_eq,Nat.ble_eq]
theorem aE (a:Fr×AH):chain [a]=true:=rfl
@[simp]theorem TR {α:Type} (x:α) (l:List α):nth (x::l) 0=some x:=rfl
@[simp]theorem agL {α:Type} (x:α) (l:List α) (n:Nat):nth (x::l) (n+1)=nth l n:=rfl
theorem tP {α:Type}:∀(l:List α) (n:Nat),nth l n=l[n]?
 |[],n=>by cases n<;>rfl
 |x::l,0=>rfl
 |x::l,n+1=>by simp [tP l n]
def spine:Nat→AC→AC→AC
 |0,_,r=>r
 |k+1,.seq a b,r=>.seq a (spine k b r)
 |_,c,_=>c
def so:Nat→AC→AC
 |0,c=>c
 |k+1,.seq _ b=>so k b
 |_,c=>c
theorem JK (a b r:AC):spine 1 (.seq a b) r= .seq a r:=by cases b<;>rfl
theorem JL (a b r:AC):spine 2 (.seq a b) r= .seq a (spine 1 b r):=rfl
theorem JM (a b r:AC):spine 3 (.seq a b) r= .seq a (spine 2 b r):=rfl
theorem JN (a b r:AC):spine 4 (.seq a b) r= .seq a (spine 3 b r):=rfl
theorem JO (a b r:AC):spine 5 (.seq a b) r= .seq a (spine 4 b r):=rfl
theorem JP (a b r:AC):spine 6 (.seq a b) r= .seq a (spine 5 b r):=rfl
theorem JQ (a b r:AC):spine 7 (.seq a b) r= .seq a (spine 6 b r):=rfl
theorem JR (a b r:AC):spine 8 (.seq a b) r= .seq a (spine 7 b r):=rfl
attribute [simp] JK JL JM JN JO JP JQ JR
inductive dR where
 |l
 |r
def gC:List dR→AC→AC
 |[],c=>c
 | .l::p,.seq a _=>gC p a
 | .r::p,.seq _ b=>gC p b
 | .l::p,.block _ a=>gC p a
 | .l::p,.cond _ a _=>gC p a
 | .r::p,.cond _ _ b=>gC p b
 |_,c=>c
def kW:List dR→AC→AC→AC
 |[],_,r=>r
 | .l::p,.seq a b,r=>.seq (kW p a r) b
 | .r::p,.seq a b,r=>.seq a (kW p b r)
 | .l::p,.block i a,r=>.block i (kW p a r)
 | .l::p,.cond x a b,r=>.cond x (kW p a r) b
 | .r::p,.cond x a b,r=>.cond x a (kW p b r)
 |_,c,_=>c
def kX:List dR→AC→List Ko→List Ko
 |[],_,ks=>ks
 | .l::p,.seq a b,ks=>kX p a (.seq b::ks)
 | .r::p,.seq _ b,ks=>kX p b ks
 | .l::p,.block i a,ks=>kX p a (.aU i::ks)
 | .l::p,.cond _ a _,ks=>kX p a ks
 | .r::p,.cond _ _ b,ks=>kX p b ks
 |_,_,ks=>ks
@[simp]theorem JS (c:AC):gC [] c=c:=by cases c<;>rfl
@[simp]theorem Yo (p:List dR) (a b:AC):gC (.l::p) (.seq a b)=gC p a:=rfl
@[simp]theorem JT (p:List dR) (a b:AC):gC (.r::p) (.seq a b)=gC p b:=rfl
@[simp]theorem Yp (p:List dR) (i:Nat) (a:AC):gC (.l::p) (.block i a)=gC p a:=rfl
@[simp]theorem TS (p:List dR) (x:X) (a b:AC):gC (.l::p) (.cond x a b)=gC p a:=rfl
@[simp]theorem TT (p:List dR) (x:X) (a b:AC):gC (.r::p) (.cond x a b)=gC p b:=rfl
@[simp]theorem Yq (p:List dR) (x:X) (a b r:AC):kW (.l::p) (.cond x a b) r= .cond x (kW p a r) b:=rfl
@[simp]theorem Yr (p:List dR) (x:X) (a b r:AC):kW (.r::p) (.cond x a b) r= .cond x a (kW p b r):=rfl
@[simp]theorem Ys (p:List dR) (x:X) (a b:AC) (ks:List Ko):kX (.l::p) (.cond x a b) ks=kX p a ks:=rfl
@[simp]theorem Yt (p:List dR) (x:X) (a b:AC) (ks:List Ko):kX (.r::p) (.cond x a b) ks=kX p b ks:=rfl
@[simp]theorem acg (c r:AC):kW [] c r=r:=by cases c<;>rfl
@[simp]theorem ach (p:List dR) (a b r:AC):kW (.l::p) (.seq a b) r= .seq (kW p a r) b:=rfl
@[simp]theorem aci (p:List dR) (a b r:AC):kW (.r::p) (.seq a b) r= .seq a (kW p b r):=rfl
@[simp]theorem acj (p:List dR) (i:Nat) (a r:AC):kW (.l::p) (.block i a) r= .block i (kW p a r):=rfl
@[simp]theorem zt (c:AC) (ks:List Ko):kX [] c ks=ks:=by cases c<;>rfl
@[simp]theorem ack (p:List dR) (a b:AC) (ks:List Ko):kX (.l::p) (.seq a b) ks=kX p a (.seq b::ks):=rfl
@[simp]theorem zu (p:List dR) (a b:AC) (ks:List Ko):kX (.r::p) (.seq a b) ks=kX p b ks:=rfl
@[simp]theorem acm (p:List dR) (i:Nat) (a:AC) (ks:List Ko):kX (.l::p) (.block i a) ks=kX p a (.aU i::ks):=rfl
def AU:Nat→List dR→List Ko→AC
 |0,p,.seq c::_=>gC p c
 |j+1,p,_::ks=>AU j p ks
 |_,_,_=>.skip
def vh:Nat→List dR→List Ko→AC→List Ko
 |0,p,.seq c::ks,r=>.seq (kW p c r)::ks
 |j+1,p,k::ks,r=>k::vh j p ks r
 |_,_,ks,_=>ks
def xj:Nat→List dR→List Ko→List Ko
 |0,p,.seq c::ks=>kX p c ks
 |j+1,p,_::ks=>xj j p ks
 |_,_,ks=>ks
theorem AV {c:AC} (p:List dR) (P:Fr→AH→Prop) (d:kW p c (gC p c)=c) (h2:∀fr H,P fr H→Vk E O (gC p c) (kX p c ks) fr H Q) (e:∀rest,(∀fr H,P fr H→Vk E O rest (kX p c ks) fr H Q)→Vk E O (kW p c rest) ks fr H Q):Vk E O c ks fr H Q:=by
 have:=e _ h2;rwa [d]at this
theorem TU {m:Md} {l:List AO} (j:Nat) (p:List dR) (P:Fr→AH→Prop) (c:vh j p ks (AU j p ks)=ks) (h2:∀fr H,P fr H→Vk E O (AU j p ks) (xj j p ks) fr H Q) (d:∀rest,(∀fr H,P fr H→Vk E O rest (xj j p ks) fr H Q)→Vx E O m l (vh j p ks rest) fr H Q):Vx E O m l ks fr H Q:=by
 have:=d _ h2;rwa [c]at this
theorem Ca.TV {f:Nat} {F:AF} {«as»:List Value} {H:AH} {Q:Value→AH→Prop} (k:Nat) (c:O f=none) (g:E f=some F) (d:«as».length=F.np) (e:spine k F.body (so k F.body)=F.body) (h:Vk E O (spine k F.body (so k F.body)) [] (Fr.of «as») H (wR F.res Q)):Ca E O f «as» H Q:=Ca.dI c g d (e▸h)
theorem Ca.aJ {f:Nat} {F:AF} {«as»:List Value} {H:AH} {Q:Value→AH→Prop} (c:O f=none) (e:E f=some F) (d:«as».length=F.np) (h:Vk E O F.body [] (Fr.of «as») H (wR F.res Q)):Ca E O f «as» H Q:=Ca.dI c e d h
def xl (E:Env) (O:kl) (I:Nat→Fr→AH→Prop) (k:Nat) (ks:List Ko) (Q:Ex→Fr→AH→Prop):Ex→Fr→AH→Prop
 | .normal,fr,H=>∃j,j<k∧I j fr H
 | .exit i,fr,H=>Vn E O (.exit i) ks fr H Q
 | .ret,fr,H=>Vn E O .ret ks fr H Q
@[simp]theorem Yu (I:Nat→Fr→AH→Prop) (k:Nat):xl E O I k ks Q .normal fr H=∃j,j<k∧I j fr H:=rfl
@[simp]theorem Yv (I:Nat→Fr→AH→Prop) (k i:Nat):xl E O I k ks Q (.exit i) fr H=Vn E O (.exit i) ks fr H Q:=rfl
@[simp]theorem Yw (I:Nat→Fr→AH→Prop) (k:Nat):xl E O I k ks Q .ret fr H=Vn E O .ret ks fr H Q:=rfl
theorem bZ {a:AC} (I:Nat→Fr→AH→Prop) (step:∀k fr H,I k fr H→Vk E O a [] fr H (xl E O I k ks Q)) (k:Nat) (h:I k fr H):Vk E O (.loop a) ks fr H Q:=by
 refine eL I (fun k fr H c=>?_) k h;have:=step k fr H c;unfold Vk at this
 have e:xl E O I k ks Q=wT E O I k ks Q:=by
  funext ex fr H;cases ex<;>rfl
 rw [e]at this;exact this
@[simp]theorem X_t (n:Nat):X.ev fr (.t n)=fr.get n:=rfl
@[simp]theorem X_k (v:Value):X.ev fr (.k v)=v:=rfl
@[simp]theorem X_f (n:Nat):X.ev fr (.f n)= .func (.func n) #[] #[]:=rfl
end
end
set_option maxRecDepth 10000
section
open Go
theorem CE (c:Int) (H:AH):Ca E O 125 [.int .u8 c] H (fun x H'=>x= .bool (eU c)∧H'=H):=by
 refine Ca.aJ (F:=Jd) rfl rfl rfl ?_;simp (maxSteps:=9^7)-implicitDefEqProofs+contextual [-X.ev,Jd];simp [br,eU,fN,isDigit];by_cases d:97≤c<;>by_cases h2:c≤122<;>by_cases b:48≤c<;>by_cases a:c≤57<;>simp [*]<;>omega
theorem tQ {s:ByteArray}:bT s ⟨#[]⟩=decide (s.size=0):=by
 rw [aqc,jj];constructor
 ·rintro rfl;rfl
 ·intro h;simp at h;exact h
theorem CF (s:ByteArray) (G:s.size<2^60) (H:AH):Ca E O 116 [.string s] H (fun x H'=>x= .bool (isName s)∧H'=H):=by
 refine Ca.aJ (F:=EX) rfl rfl rfl ?_;by_cases t:s.size=0
 ·simp (maxSteps:=9^7)-implicitDefEqProofs+contextual [-X.ev,EX,tQ,t,isName]
 have D:0<s.size:=by omega
 have m:DC (.string s) (.int .i64 0)=some (.int .u8 (dk s 0)):=LY (n:=0) D;have c:fN (dk s 0)=(decide (97≤dk s 0)&&decide (dk s 0≤122)):=rfl
 obtain ⟨b0,a⟩:∃b,dk s 0=b:=⟨_,rfl⟩
 rw [a]at m c;simp (maxSteps:=9^7)-implicitDefEqProofs+contextual [-X.ev,EX,tQ,t,m];refine xd (fun q=>?_) (fun q=>xd (fun A=>?_) (fun A=>xd (fun z=>?_) (fun z=>?_)))
 ·have:¬ s.size≤12:=by omega
  simp [isName,this]
 ·have d:¬ 97≤b0:=by omega
  simp [isName,a,c,d]
 ·have y:¬ b0≤122:=by omega
  simp [isName,a,c,y]
 refine bZ (fun k f H'=>H'=H∧∃i:Nat,i+k=s.size∧f.get 0= .string s∧f.get 3= .int .i64 i∧∀j,j<i→eU (dk s j)=true) ?_ s.size ⟨rfl,0,by simp,by simp,by simp,fun j o=>by omega⟩;rintro k f H' ⟨rfl,i,hi,l,g,p⟩;by_cases h:i<s.size
 ·have B:DC (.string s) (.int .i64 i)=some (.int .u8 (dk s i)):=LY h
  simp (maxSteps:=9^7)-implicitDefEqProofs+contextual [-X.ev,l,g,h,B];apply ah
  ·(simp-implicitDefEqProofs [-X.ev];rfl)
  refine (CE (dk s i) H').mono ?_;rintro x I ⟨rfl,rfl⟩
  cases r:eU (dk s i)with
  |true=>
   simp (maxSteps:=9^7)-implicitDefEqProofs+contextual [-X.ev,l,g];rw [aj ⟨by omega,by omega⟩];refine ⟨k- 1,by omega,i+1,by omega,by simp,fun j o=>?_⟩;by_cases e:j=i
   ·subst e;exact r
   ·exact p j (by omega)
  |false=>
   simp (maxSteps:=9^7)-implicitDefEqProofs+contextual [-X.ev];simp [isName];intro _ _ _ _;exact ⟨i,h,r⟩
 ·have C:((List.range s.size).all fun i=>eU (dk s i))=true:=by simpa using fun j o=>p j (by omega)
  have w:1≤s.size:=by omega
  have v:s.size≤12:=by omega
  have u:fN (dk s 0)=true:=by rw [a,c];simp;omega
  have e:isName s= !dX s:=by simp [isName,C,w,v,u]
  simp (maxSteps:=9^7)-implicitDefEqProofs+contextual [-X.ev,l,g,h,e,dX]
open Go
def smap (l:List (ByteArray×Value)):List (Value×Value):=l.map fun p=>(.string p.1,p.2)
theorem AW (s:ByteArray):∀l:List (ByteArray×Value),gk (.string s) (smap l)=some ((l.find? fun p=>bT s p.1).map (·.2))
 |[]=>rfl
 |p::l=>by
  have ih:=AW s l;unfold smap at ih⊢;simp only [List.map_cons,gk,iI,List.find?_cons];change (match some (bT s p.1)with|some true=>_|some false=>_|none=>_)=_;cases bT s p.1
  ·exact ih
  ·rfl
theorem FA (s:ByteArray) (v:Value):∀l:List (ByteArray×Value),(∀p∈l,bT s p.1=false)→lV (.string s) v (smap l)=some (smap (l++[(s,v)]))
 |[],_=>rfl
 |p::l,h=>by
  have ih:=FA s v l fun q a=>h q (by simp [a])
  unfold smap at ih⊢;simp only [List.map_cons,lV,iI,List.cons_append];change (match some (bT s p.1)with|some true=>_|some false=>_|none=>_)=_;rw [h p (by simp)];simp [ih]
theorem fD {kk m:Nat} {z k v:Value} {H:AH} {es:List (Value×Value)} (b:H.get m=some (.map es)) (d:H.n0≤m) (a:cO kk k=true) (c:gk k es=some (some v)):iU kk z H (.map (some m)) k false=some v:=by
 simp [iU,b,d,a,c]
theorem AX {kk m:Nat} {z k:Value} {H:AH} {es:List (Value×Value)} (b:H.get m=some (.map es)) (d:H.n0≤m) (a:cO kk k=true) (c:gk k es=some none):iU kk z H (.map (some m)) k false=some z:=by
 simp [iU,b,d,a,c]
theorem gU {kk m:Nat} {k v:Value} {H:AH} {es es':List (Value×Value)} (b:H.get m=some (.map es)) (h:H.n0≤m) (g:cO kk k=true) (e:cN v=false) (d:lV k v es=some es'):
 ∃a,qL kk H (.map (some m)) k v=some a∧Mod (fun x=>x=m) H a∧a.nx=H.nx∧a.n0=H.n0∧a.get m=some (.map es'):=by
 have c:=AH.bk b;refine ⟨H.put m (some (.map es')),by simp [qL,b,h,g,e,d],⟨rfl,apK _,fun x i f=>?_⟩,rfl,rfl,?_⟩
 ·rw [AH.bR _ _ _ _ c,if_neg f]
 ·rw [AH.bR _ _ _ _ c,if_pos rfl]
def kY (l:List Vr):List (ByteArray×Value):=l.map fun v=>(v.name,.bool true)
theorem xm (l:List Vr) (s:ByteArray):((kY l).find? fun p=>bT s p.1).map (·.2)=if l.any (fun v=>bT v.name s)=true then some (.bool true)else none:=by
 induction l with
 |nil=>rfl
 |cons v l ih=>
  simp only [kY,List.map_cons,List.find?_cons,List.any_cons]
  have e:bT s v.name=bT v.name s:=by
   rw [aqc,jj,jj];exact eq_comm
  rcases Bool.eq_false_or_eq_true (bT v.name s)with q|q
  ·rw [q]at e
   simp [e,q]
  ·rw [q]at e
   simp only [e,q,Bool.false_or]
   simpa [kY]using ih
theorem xn {l:List Vr} {i:Nat} {y:Vr} (d:l[i]?=some y):((l.take i).any fun v=>bT v.name y.name)= !decide (iT l y.name=i):=by
 have hi:=(apM.1 d).1
 cases q:(l.take i).any fun v=>bT v.name y.name with
 |false=>
  have:iT l y.name=i:=sb d (by rw [jj]) fun j z c b=>by
   rw [List.any_eq_false]at q;have:=q z (apL (i:=j) (by rw [aqf,if_pos c];exact b))
   simpa using this
  simp [this]
 |true=>
  rw [List.any_eq_true]at q;obtain ⟨z,b,g⟩:=q;obtain ⟨j,c,e⟩:=List.mem_iff_getElem.1 b
  have:¬ iT l y.name=i:=by
   intro f;unfold iT at f;split at f
   ·rename_i k a
    rw [List.findIdx?_eq_some_iff_getElem]at a;obtain ⟨_,_,a⟩:=a;have h:j<i:=by simp at c;omega
    have:=a j (by omega);rw [List.getElem_take]at e;rw [e,g]at this;simp at this
   ·omega
  simp [this]
def CG (l:List Vr) (i:Nat):Bool:=match l[i]? with|some v=>eV l i v|none=>true
theorem gE (w:Int) (l:List Vr):aC w l=(cg w&&(decide (1≤l.length)&&(decide (l.length≤18)&&((List.range l.length).all (CG l)&&decide (dY (l.map (·.cells))≤48))))):=rfl
theorem pW {l:List Vr} {i:Nat} {y:Vr} (h:l[i]?=some y):CG l i=eV l i y:=by unfold CG;rw [h]
set_option maxHeartbeats 1000000 in
theorem AY {v:Value} {l:List Vr} {H:AH} (hw:H.n0≤H.nx) (hv:dy H v l) (tH:nJ l) (w:Int):Ca E O 98 [.int .i64 w,v] H (fun x H'=>x= .int .i64 (if aC w l=true then 0 else 1)∧Ext H H'):=by
 refine Ca.aJ (F:=XM) rfl rfl rfl ?_;obtain ⟨a,c,fO⟩:=hv.len;have jG:=tH.1;have X0:=Ext.alloc H (.map []);have g0:=cx H (.map []);generalize AL:H.alloc (.map [])=H0 at X0 g0;simp (maxSteps:=9^7)-implicitDefEqProofs+contextual [-X.ev,XM,fO,AL]
 have z1:aC w l=true→1≤w∧w≤8∧1≤l.length∧l.length≤18:=by
  intro h;simp [aC,cg]at h;omega
 have N:¬ (1≤w∧w≤8∧1≤l.length∧l.length≤18)→aC w l=false:=fun q=>by
  rw [aqj];exact fun h=>q (z1 h)
 refine xd (fun q=>?_) (fun q1=>xd (fun q=>?_) (fun q2=>xd (fun q=>?_) (fun q3=>xd (fun q=>?_) (fun q4=>?_))))
 ·exact ⟨N (by omega),Ext.refl _⟩
 ·exact ⟨N (by omega),Ext.refl _⟩
 ·exact ⟨N (by omega),Ext.refl _⟩
 ·exact ⟨N (by omega),Ext.refl _⟩
 refine bZ (fun k D g=>Ext H g∧g.get H.nx=some (.map (smap (kY (l.take (l.length- k)))))∧k≤l.length∧∃i:Nat,i+k=l.length∧D.get 26=v∧D.get 27= .int .i64 l.length∧D.get 28= .int .i64 i∧D.get 5= .map (some H.nx)∧D.get 6= .int .i64 (dY ((l.take i).map (·.cells)))∧∀j y,j<i→l[j]?=some y→eV l j y=true) ?_ l.length ⟨X0,by simpa [kY,smap]using g0,apK _,0,by simp,by simp [fO],by simp,by simp,by simp,by simp [dY],fun j y Z=>by omega⟩;rintro k D g ⟨L,gm,hk,i,hi,f26,f27,f28,r,m,aH⟩;rw [show l.length- k=i by omega]at gm;have jK:=L.wf hw;have nE:g.n0≤H.nx:=by rw [L.n0];exact hw
 have S:∀y,l[i]?=some y→eV l i y=false→aC w l=false:=by
  intro y f hn
  have:((List.range l.length).all (CG l))=false:=by
   rw [List.all_eq_false];refine ⟨i,?_,?_⟩
   ·have:=(apM.1 f).1;simpa using this
   ·rw [pW f];simp [hn]
  simp only [gE,this,Bool.false_and,Bool.and_false]
 by_cases h:i<l.length
 ·obtain ⟨y,f⟩:∃y,l[i]?=some y:=⟨_,apG h⟩
  obtain ⟨b,o,c',b9,bK,_⟩:=(hv.ext L).at f;have qo:=tH.2 y (apL f);have akO:=f26;rw [b9]at f26;obtain ⟨A,Yy,X2,acn,TW,d,P⟩:=fg (H:=g) jK (z:=3) (c:=[.string ⟨#[]⟩,.int .i64 0,.int .i64 0]) (vs:=[.string y.name,.int .i64 y.level,.int .i64 y.cells]) rfl;have t:A.ld ⟨g.nx,0,none⟩=some (.string y.name):=P 0 _ rfl;have G:A.ld ⟨g.nx,1,none⟩=some (.int .i64 y.level):=P 1 _ rfl;have s:A.ld ⟨g.nx,2,none⟩=some (.int .i64 y.cells):=P 2 _ rfl;clear P;replace d:A.ldn ⟨g.nx,0,none⟩ 3=some [.string y.name,.int .i64 y.level,.int .i64 y.cells]:=d;have jL:=X2.wf jK;have TX:=X2.get gm;have h0:A.n0≤H.nx:=by rw [TW];exact nE
  have key:aC w l=true→eV l i y=true:=fun hh=>by
   cases e:eV l i y with
   |true=>rfl
   |false=>rw [S y f e]at hh;cases hh
  have C:iU 1 (.bool false) A (.map (some H.nx)) (.string y.name) false=some (.bool (!decide (iT l y.name=i))):=by
   have hf:=AW y.name (kY (l.take i));rw [xm,xn f]at hf;by_cases e:iT l y.name=i
   ·rw [AX TX h0 rfl (by simpa [e]using hf)];simp [e]
   ·rw [fD TX h0 rfl (by simpa [e]using hf)];simp [e]
  simp (maxSteps:=9^7)-implicitDefEqProofs+contextual [-X.ev,f26,f27,f28,r,m,h,bK,Vr.row,Yy,t];apply ah
  ·(simp-implicitDefEqProofs [-X.ev];rfl)
  refine (CF y.name qo A).mono ?_;rintro x H3 ⟨rfl,rfl⟩;have u:=L.trans X2
  cases n1:isName y.name with
  |false=>
   simp (maxSteps:=9^7)-implicitDefEqProofs+contextual [-X.ev,f26,f27,f28,r,m];rw [S y f (by simp [eV,n1])];exact ⟨rfl,u⟩
  |true=>
   by_cases Q:eV l i y=true
   ·obtain ⟨_,m1,m2,m3,m4,m5⟩:isName y.name=true∧0≤y.level∧y.level≤47∧1≤y.cells∧y.cells≤8∧iT l y.name=i:=by simpa [eV]using Q
    have W:¬ y.level<0:=by omega
    have V:¬ 47<y.level:=by omega
    have U:¬ y.cells<1:=by omega
    have T:¬ 8<y.cells:=by omega
    obtain ⟨H4,sm,X4,yy,nN,gm4⟩:=gU (v:=.bool true) TX h0 (kk:=1) (k:=.string y.name) rfl rfl (FA y.name (.bool true) (kY (l.take i)) (by
     have:=xn f;simp only [m5,decide_true,Bool.not_true]at this;rw [List.any_eq_false]at this;intro p hp;unfold kY at hp;obtain ⟨z,J,rfl⟩:=aqd.1 hp;have:=this z J
     have e:bT y.name z.name=bT z.name y.name:=by
      rw [aqc,jj,jj];exact eq_comm
     simpa [e]using this))
    have fR:¬ g.nx=H.nx:=by have:=AH.bk gm;omega
    have CH:=X4.ld (a:=⟨g.nx,2,none⟩) fR s;simp (maxSteps:=9^7)-implicitDefEqProofs+contextual [-X.ev,f26,f27,f28,r,m,t,G,s,C,m5,W,V,U,T,sm,CH];have Oq:-9223372036854775808≤(i:Int)+1∧(i:Int)+1≤9223372036854775807:=by omega
    rw [aj (n:=(i:Int)+1) Oq];refine ⟨k- 1,by omega,u.mod X4 (by rintro x rfl;exact apK _),?_,by omega,i+1,by omega,b9.symm,by simp,?_,?_⟩
    ·rw [gm4,show l.length- (k- 1)=i+1 by omega,ap1,f]
     simp [kY]
    ·rw [ap1]
     simp [dY,aqa,f,List.foldl_append]
    ·intro j z Z J
     by_cases e:j=i
     ·subst e;rw [f]at J;cases J;exact Q
     ·exact aH j z (by omega) J
   ·have CI:eV l i y=false:=by simpa using Q
    have K:=S y f CI
    have Y:¬ (iT l y.name=i∧¬ y.level<0∧¬ 47<y.level∧¬ y.cells<1∧¬ 8<y.cells):=by
     rintro ⟨a1,a2,a3,a4,a5⟩;apply Q;simp [eV,n1,a1];omega
    by_cases B:iT l y.name=i
    case neg=>
     simp (maxSteps:=9^7)-implicitDefEqProofs+contextual [-X.ev,f26,f27,f28,r,m,t,G,s,C,B,K,u]
    by_cases I:y.level<0
    case pos=>
     simp (maxSteps:=9^7)-implicitDefEqProofs+contextual [-X.ev,f26,f27,f28,r,m,t,G,s,C,B,I,K,u]
    by_cases M:47<y.level
    case pos=>
     simp (maxSteps:=9^7)-implicitDefEqProofs+contextual [-X.ev,f26,f27,f28,r,m,t,G,s,C,B,I,M,K,u]
    by_cases R:y.cells<1
    case pos=>
     simp (maxSteps:=9^7)-implicitDefEqProofs+contextual [-X.ev,f26,f27,f28,r,m,t,G,s,C,B,I,M,R,K,u]
    have p5:8<y.cells:=by
     rcases Int.lt_or_le 8 y.cells with e|e
     ·exact e
     ·exact absurd ⟨B,I,M,R,by omega⟩ Y
    simp (maxSteps:=9^7)-implicitDefEqProofs+contextual [-X.ev,f26,f27,f28,r,m,t,G,s,C,B,I,M,R,p5,K,u]
 ·have hl:i=l.length:=by omega
  have hc:aC w l=decide (dY (l.map (·.cells))≤48):=by
   have a1:cg w=true:=by simp [cg];omega
   have a2:((List.range l.length).all (CG l))=true:=by
    rw [apW];intro j Z
    cases e:l[j]? with
    |none=>unfold CG;rw [e]
    |some y=>rw [pW e];exact aH j y (by simp at Z;omega) e
   have a3:1≤l.length:=by omega
   have a4:l.length≤18:=by omega
   simp only [gE,a1,a2,a3,a4,decide_true,Bool.true_and]
  rw [hl,List.take_length]at m;simp (maxSteps:=9^7)-implicitDefEqProofs+contextual [-X.ev,f26,f27,f28,r,m,h,L,hc]
end
section
open Go
theorem eJ {l:List bY} {i:Nat} {y:bY} (h:l[i]?=some y):aq (l.take (i+1))=aq (l.take i)+aB y:=by
 induction l generalizing i with
 |nil=>simp at h
 |cons x l ih=>
  cases i with
  |zero=>simp at h;subst h;simp [aq]
  |succ i=>simp only [List.take_succ_cons,aq];rw [ih (by simpa using h)];omega
theorem bo (l:List bY) (i:Nat):0≤aq (l.take i)∧aq (l.take i)≤aq l:=by
 induction l generalizing i with
 |nil=>simp [aq]
 |cons x l ih=>
  have a:=dZ x;have h2:=bh l
  cases i with
  |zero=>simp only [List.take_zero,aq];omega
  |succ i=>simp only [List.take_succ_cons,aq];have:=ih i;omega
theorem gj.row {H:AH} {v:Value} {rows:List (List Value)} {l:List bY} (d:Rows H 4 v rows) (f:gj H rows l) {i:Nat} {y:bY} (k:l[i]?=some y):
 ∃b o c va r,v= .slice (some ⟨b,o,none⟩) l.length c∧H.ldn ⟨b,o+i*4,none⟩ 4=some [.int .i64 y.op,.int .i64 y.n,.int .i64 y.cp,va]∧r=[.int .i64 y.op,.int .i64 y.n,.int .i64 y.cp,va]∧nm H r y:=by
 obtain ⟨r,m,s⟩:=f.at k;obtain ⟨b,o,t,e,q⟩:=d.at m;rw [f.length]at e
 cases s with| @mk op n u va rows args j h g a d p=>
 exact ⟨b,o,t,va,_,e,q,rfl,.mk j h g a d p⟩
theorem tR:∀(N:Nat) (e:bY) (c:List Value) (H:AH),SizeOf.sizeOf e<N→H.n0≤H.nx→nm H c e→aB e<2^60→
 Ca E O 100 [.agg c.toArray] H (fun x H'=>x= .int .i64 (aB e)∧Ext H H'):=by
 intro N
 induction N with
 |zero=>intro e c H h;omega
 |succ N ih=>
  intro e c H hN a V S
  cases V with| @mk op n cp v rows args i1 i2 i3 J I K=>
  refine Ca.aJ (F:=IU) rfl rfl rfl ?_;have C:=Ext.alloc H (.cells 4 [.int .i64 op,.int .i64 n,.int .i64 cp,v]);have d0:(H.alloc (.cells 4 [.int .i64 op,.int .i64 n,.int .i64 cp,v])).ld ⟨H.nx,0,none⟩=some (.int .i64 op):=ai a rfl;have d1:(H.alloc (.cells 4 [.int .i64 op,.int .i64 n,.int .i64 cp,v])).ld ⟨H.nx,1,none⟩=some (.int .i64 n):=ai a rfl;have Z:(H.alloc (.cells 4 [.int .i64 op,.int .i64 n,.int .i64 cp,v])).ld ⟨H.nx,2,none⟩=some (.int .i64 cp):=ai a rfl;have L:(H.alloc (.cells 4 [.int .i64 op,.int .i64 n,.int .i64 cp,v])).ld ⟨H.nx,3,none⟩=some v:=ai a rfl;have d:(H.alloc (.cells 4 [.int .i64 op,.int .i64 n,.int .i64 cp,v])).ldn ⟨H.nx,0,none⟩ 4=some [.int .i64 op,.int .i64 n,.int .i64 cp,v]:=bj a 4 rfl;generalize W:H.alloc (.cells 4 [.int .i64 op,.int .i64 n,.int .i64 cp,v])=H1 at C d0 d1 Z L d;have bD:=C.wf a;rw [aB]at S;obtain ⟨a0,c0,t⟩:=I.len;rw [K.length]at t;have P:=L;rw [t]at P;simp (maxSteps:=9^7)-implicitDefEqProofs+contextual [-X.ev,IU,W,P];refine bZ (fun k l H'=>Ext H1 H'∧∃i:Nat,i+k=args.length∧l.get 7=v∧l.get 8= .int .i64 args.length∧l.get 9= .int .i64 i∧l.get 3= .int .i64 (1+aq (args.take i))) ?_ args.length ⟨Ext.refl _,0,by simp,by simp [t],by simp,by simp,by simp [aq]⟩;rintro k l g ⟨M,i,hi,m,w,u,A⟩;have p:=C.trans M;have D:=p.wf a;by_cases h:i<args.length
  ·obtain ⟨y,s⟩:∃y,args[i]?=some y:=⟨_,apG h⟩
   obtain ⟨b,o,c',va,r,G,T,rfl,U⟩:=gj.row (I.ext p) (K.ext p) s;have Y:=m;rw [G]at m;obtain ⟨f,Q,B,FB,FC,q,j⟩:=fg (H:=g) D (z:=4) (c:=[.int .i64 0,.int .i64 0,.int .i64 0,.slice none 0 0]) (vs:=[.int .i64 y.op,.int .i64 y.n,.int .i64 y.cp,va]) rfl;have q0:f.ld ⟨g.nx,0,none⟩=some (.int .i64 y.op):=j 0 _ rfl;have q1:f.ld ⟨g.nx,1,none⟩=some (.int .i64 y.n):=j 1 _ rfl;have q2:f.ld ⟨g.nx,2,none⟩=some (.int .i64 y.cp):=j 2 _ rfl;have q3:f.ld ⟨g.nx,3,none⟩=some va:=j 3 _ rfl;clear j;replace q:f.ldn ⟨g.nx,0,none⟩ 4=some [.int .i64 y.op,.int .i64 y.n,.int .i64 y.cp,va]:=q;have R:=B.wf D;have t1:=eJ s;have t2:=bo args (i+1);have t3:=bo args i;have t4:=dZ y;have hs:=gA (op:=op) (n:=n) (cp:=cp) s;simp (maxSteps:=9^7)-implicitDefEqProofs+contextual [-X.ev,m,w,u,A,h,T,Q,q];apply ah
   ·(simp-implicitDefEqProofs [-X.ev];rfl)
   refine (ih y _ f (by omega) R (U.ext B) (by omega)).mono ?_;rintro x H4 ⟨rfl,X4⟩;simp (maxSteps:=9^7)-implicitDefEqProofs+contextual [-X.ev,m,w,u,A];rw [aj (n:=(i:Int)+1) ⟨by omega,by omega⟩,aj ⟨by omega,by omega⟩];exact ⟨k- 1,by omega,M.trans (B.trans X4),i+1,by omega,G.symm,by simp,by omega⟩
  ·simp (maxSteps:=9^7)-implicitDefEqProofs+contextual [-X.ev,m,w,u,A,h]
   rw [apN (by omega)];exact ⟨by rw [aB],p⟩
def mj (V:List Vr) (op n:Int):Int:=
 if op=0 then 0 else if op=1∧0≤n∧n<V.length then(if 1<ak V n then 1 else 0)else
 if(2≤op∧op≤11)∨op=13∨op=14 then 2 else if op=12 then 1 else if op=15 then 3 else-1
theorem FD {w kk op n cp:Int} {vv va:Value} {V:List Vr} {H:AH} (g:H.n0≤H.nx) (t:dy H vv V):
 Ca E O 136 [.agg #[.int .i64 w,vv,.int .i64 kk],.agg #[.int .i64 op,.int .i64 n,.int .i64 cp,va]] H (fun x H'=>x= .int .i64 (mj V op n)∧Ext H H'):=by
 refine Ca.aJ (F:=Cw) rfl rfl rfl ?_;have r:=Ext.alloc H (.cells 3 [.int .i64 w,vv,.int .i64 kk]);have G:(H.alloc (.cells 3 [.int .i64 w,vv,.int .i64 kk])).ld ⟨H.nx,0,none⟩=some (.int .i64 w):=ai g rfl;have c:(H.alloc (.cells 3 [.int .i64 w,vv,.int .i64 kk])).ld ⟨H.nx,1,none⟩=some vv:=ai g rfl;have D:(H.alloc (.cells 3 [.int .i64 w,vv,.int .i64 kk])).ld ⟨H.nx,2,none⟩=some (.int .i64 kk):=ai g rfl;have d:(H.alloc (.cells 3 [.int .i64 w,vv,.int .i64 kk])).ldn ⟨H.nx,0,none⟩ 3=some [.int .i64 w,vv,.int .i64 kk]:=bj g 3 rfl;generalize p:H.alloc (.cells 3 [.int .i64 w,vv,.int .i64 kk])=a at r G c D d;have f:=r.wf g;have l:=Ext.alloc a (.cells 4 [.int .i64 op,.int .i64 n,.int .i64 cp,va]);have k:(a.alloc (.cells 4 [.int .i64 op,.int .i64 n,.int .i64 cp,va])).ld ⟨a.nx,0,none⟩=some (.int .i64 op):=ai f rfl;have j:(a.alloc (.cells 4 [.int .i64 op,.int .i64 n,.int .i64 cp,va])).ld ⟨a.nx,1,none⟩=some (.int .i64 n):=ai f rfl;have C:(a.alloc (.cells 4 [.int .i64 op,.int .i64 n,.int .i64 cp,va])).ld ⟨a.nx,2,none⟩=some (.int .i64 cp):=ai f rfl;have B:(a.alloc (.cells 4 [.int .i64 op,.int .i64 n,.int .i64 cp,va])).ld ⟨a.nx,3,none⟩=some va:=ai f rfl;have e:(a.alloc (.cells 4 [.int .i64 op,.int .i64 n,.int .i64 cp,va])).ldn ⟨a.nx,0,none⟩ 4=some [.int .i64 op,.int .i64 n,.int .i64 cp,va]:=bj f 4 rfl;generalize m:a.alloc (.cells 4 [.int .i64 op,.int .i64 n,.int .i64 cp,va])=M at l k j C B e;have I:=l.wf f;have X:=r.trans l;replace c:=l.ld c;by_cases h:0≤n∧n<V.length
 ·obtain ⟨h,h2⟩:=h
  obtain ⟨y,s⟩:∃y,V[n.toNat]?=some y:=⟨_,apG (by omega)⟩
  obtain ⟨b,o,K,v,_,_,_,z⟩:=(t.ext X).at s;have i:ak V n=y.cells:=by simp [ak,s]
  rw [v]at c;simp (maxSteps:=9^7)-implicitDefEqProofs+contextual [-X.ev,Cw,p,m,c,k,j,h,h2,z,X,i,mj]
 ·have i:mj V op n=if op=0 then 0 else if(2≤op∧op≤11)∨op=13∨op=14 then 2 else if op=12 then 1 else if op=15 then 3 else-1:=by
   unfold mj;simp only [h,and_false,if_false]
  obtain ⟨L,J,u⟩:=t.len;rw [u]at c;by_cases h2:0≤n
  ·have A:¬ n<V.length:=fun q=>h ⟨h2,q⟩
   simp (maxSteps:=9^7)-implicitDefEqProofs+contextual [-X.ev,Cw,p,m,c,k,j,h2,A,X,i]
  ·simp (maxSteps:=9^7)-implicitDefEqProofs+contextual [-X.ev,Cw,p,m,c,k,j,h2,X,i]
open Go
def tS (w k:Int) (op n cp:Int):Bool:=
 if op=0 then !decide (n<0)&&(!decide (2^w.toNat≤n)&&decide (cp=0))else if op=1 then !decide (cp<0)&& !decide (k≤cp)else decide (n=0)&&decide (cp=0)
theorem vi {w k:Int} (p:1≤w∧w≤8) (V:List Vr) (op n cp:Int) (g:Nat):fK w V k op n cp g=(decide (mj V op n=g)&&tS w k op n cp):=by
 have o:cg w=true:=by simp [cg,p]
 unfold fK tS mj;by_cases f:op=0
 ·subst f
  simp only [isWord,o,Bool.true_and];have:jx 0=0:=rfl;rw [aqc];simp [this];omega
 by_cases d:op=1
 ·subst d
  have m:¬ ((1:Int)=0):=by omega
  have l:¬ ((2≤(1:Int)∧(1:Int)≤11)∨(1:Int)=13∨(1:Int)=14):=by omega
  have j:¬ ((1:Int)=12):=by omega
  have i:¬ ((1:Int)=15):=by omega
  simp only [if_true,if_neg m,if_neg l,if_neg j,if_neg i,true_and];rw [aqc];generalize (if 1<ak V n then(1:Int)else 0)=z;by_cases h2:0≤n∧n<V.length
  ·rw [if_pos h2]
   simp only [apJ,Bool.not_eq_true',Bool.or_eq_false_iff,decide_eq_false_iff_not,apS];omega
  ·rw [if_neg h2]
   simp only [apJ,Bool.not_eq_true',Bool.or_eq_false_iff,decide_eq_false_iff_not,apS];omega
 ·simp only [if_neg f,if_neg d,false_and,if_false]
  have e:jx op=if(2≤op∧op≤11)∨op=13∨op=14 then 2 else if op=12 then 1 else if op=15 then 3 else-1:=by
   unfold jx qw;rw [if_neg f];by_cases a:op=12
   ·subst a;simp
   by_cases b:op=15
   ·subst b;simp
   rw [if_neg a,if_neg b,if_neg a,if_neg b];by_cases c:(2≤op∧op≤11)∨op=13∨op=14
   ·rw [if_pos c,if_pos (by simpa using c)]
   ·rw [if_neg c,if_neg (by simpa using c)]
  rw [e,if_neg (show¬ (op=1∧0≤n∧n<V.length) from fun h=>d h.1)];generalize (if(2≤op∧op≤11)∨op=13∨op=14 then(2:Int)else if op=12 then 1 else if op=15 then 3 else-1)=z;rw [aqc];simp;constructor
  ·rintro ⟨⟨a,b⟩,c⟩;exact ⟨b.symm,c,a⟩
  ·rintro ⟨a,b,c⟩;exact ⟨⟨c,a.symm⟩,b⟩
def gV (w:Int) (V:List Vr) (k:Int) (e:bY) (deep left:Int):Bool:=decide (aB e≤left)&&(decide (deep+dm e≤17)&&dA w V k e)
theorem FF {w:Int} (a:1≤w∧w≤8):de .shl (.int .i64 1) (.int .u64 (IntKind.u64.wrap w))=some (.int .i64 (2^w.toNat)):=by
 obtain ⟨b,h2⟩:=a
 obtain ⟨n,rfl⟩:∃n:Nat,w=n:=⟨w.toNat,by omega⟩
 have:n=1∨n=2∨n=3∨n=4∨n=5∨n=6∨n=7∨n=8:=by omega
 rcases this with rfl|rfl|rfl|rfl|rfl|rfl|rfl|rfl<;>rfl
theorem sq:∀{l:List bY} {k:Int} {y:bY},y∈l→dm y≤dD l k
 |x::l,k,y,h=>by
  rw [dD];rcases apY.1 h with rfl|h
  ·have:∀(l:List bY) (k:Int),k≤dD l k:=by
    intro l
    induction l with
    |nil=>intro k;rw [dD];omega
    |cons z l ih=>intro k;rw [dD];have:=ih (max k (dm z));omega
   have:=this l (max k (dm y));omega
  ·exact sq h
theorem CJ {l:List bY} {k m:Int} (b:k≤m) (h:∀y∈l,dm y≤m):dD l k≤m:=by
 induction l generalizing k with
 |nil=>rw [dD];exact b
 |cons x l ih=>
  rw [dD];have:=h x (by simp);exact ih (by omega) fun y a=>h y (by simp [a])
set_option maxHeartbeats 2000000 in
theorem JW {w k:Int} (eh:1≤w∧w≤8) {vv:Value} {V:List Vr}:∀(N:Nat) (e:bY) (c:List Value) (G H:AH) (deep left:Int) (b:Nat),SizeOf.sizeOf e<N→H.n0≤H.nx→Ext G H→G.nx≤b→dy G vv V→nm G c e→
 H.get b=some (.cells 1 [.int .i64 left])→H.n0≤b→0≤left∧left≤1000→1≤deep∧deep≤17→
 Ca E O 131 [.agg #[.int .i64 w,vv,.int .i64 k],.agg c.toArray,.int .i64 deep,.pointer (some ⟨b,0,none⟩)] H (fun x H'=>x= .bool (gV w V k e deep left)∧Mod (fun x=>x=b) H H'∧∃s,H'.get b=some (.cells 1 [.int .i64 s])∧(gV w V k e deep left=true→s=left- aB e)):=by
 intro N
 induction N with
 |zero=>intro e c G H deep left b h;omega
 |succ N ih=>
  intro e c G H deep left b hN Z GX gb hv he hb xq agN TY;have hbH:=AH.bk hb
  cases he with| @mk op n cp va rows args i1 i2 i3 hlen hr hl=>
  refine Ca.TV 4 (F:=wU) rfl rfl rfl rfl ?_
  obtain ⟨rest,fI⟩:∃r,so 4 wU.body=r:=⟨_,rfl⟩
  rw [fI];have X1:=Ext.alloc H (.cells 3 [.int .i64 w,vv,.int .i64 k]);have S:(H.alloc (.cells 3 [.int .i64 w,vv,.int .i64 k])).ld ⟨H.nx,0,none⟩=some (.int .i64 w):=ai Z rfl;have d1:(H.alloc (.cells 3 [.int .i64 w,vv,.int .i64 k])).ld ⟨H.nx,1,none⟩=some vv:=ai Z rfl;have R:(H.alloc (.cells 3 [.int .i64 w,vv,.int .i64 k])).ld ⟨H.nx,2,none⟩=some (.int .i64 k):=ai Z rfl;have d:(H.alloc (.cells 3 [.int .i64 w,vv,.int .i64 k])).ldn ⟨H.nx,0,none⟩ 3=some [.int .i64 w,vv,.int .i64 k]:=bj Z 3 rfl;generalize cA:H.alloc (.cells 3 [.int .i64 w,vv,.int .i64 k])=f at X1 S d1 R d;have P:=X1.wf Z;have K:=Ext.alloc f (.cells 4 [.int .i64 op,.int .i64 n,.int .i64 cp,va]);have e0:(f.alloc (.cells 4 [.int .i64 op,.int .i64 n,.int .i64 cp,va])).ld ⟨f.nx,0,none⟩=some (.int .i64 op):=ai P rfl;have e1:(f.alloc (.cells 4 [.int .i64 op,.int .i64 n,.int .i64 cp,va])).ld ⟨f.nx,1,none⟩=some (.int .i64 n):=ai P rfl;have e2:(f.alloc (.cells 4 [.int .i64 op,.int .i64 n,.int .i64 cp,va])).ld ⟨f.nx,2,none⟩=some (.int .i64 cp):=ai P rfl;have e3:(f.alloc (.cells 4 [.int .i64 op,.int .i64 n,.int .i64 cp,va])).ld ⟨f.nx,3,none⟩=some va:=ai P rfl;have e:(f.alloc (.cells 4 [.int .i64 op,.int .i64 n,.int .i64 cp,va])).ldn ⟨f.nx,0,none⟩ 4=some [.int .i64 op,.int .i64 n,.int .i64 cp,va]:=bj P 4 rfl;generalize iE:f.alloc (.cells 4 [.int .i64 op,.int .i64 n,.int .i64 cp,va])=H2 at K e0 e1 e2 e3 e;have jL:=K.wf P;replace S:=K.ld S;replace d1:=K.ld d1;replace R:=K.ld R;replace d:=K.ldn d;have X:=X1.trans K;have L0:=X.get hb;have iK:H2.n0≤b:=by rw [X.n0];exact xq
  have u:=aI L0 iK (k:=0) rfl;obtain ⟨H3,s3,o,qx,lF,Q⟩:=bV L0 iK (k:=0) (vs:=[.int .i64 (left- 1)]) (by simp);have yr:H3.n0≤b:=by rw [lF];exact iK
  have Q:H3.get b=some (.cells 1 [.int .i64 (left- 1)]):=Q;have t:=aI Q yr (k:=0) rfl;have zw:¬ H.nx=b:=by omega
  have W:¬ f.nx=b:=by have:=X1.nx;omega
  have D0:=o.ld (a:=⟨H.nx,0,none⟩) zw S;have D2:=o.ld (a:=⟨H.nx,2,none⟩) zw R;have D:=o.ldn (a:=⟨H.nx,0,none⟩) zw d;have E0:=o.ld (a:=⟨f.nx,0,none⟩) W e0;have E1:=o.ld (a:=⟨f.nx,1,none⟩) W e1;have E2:=o.ld (a:=⟨f.nx,2,none⟩) W e2;have E3:=o.ld (a:=⟨f.nx,3,none⟩) W e3;have EE:=o.ldn (a:=⟨f.nx,0,none⟩) W e;have kn:=o.wf jL;have MX:Mod (fun x=>x=b) H H3:=(Mod.bU X).trans o;have GX3:Ext G H3:=GX.mod MX (by rintro x rfl;exact gb);have hnE:=bh args;have hdE:=oI (.mk op n cp args);obtain ⟨a3,c3,fO⟩:=hr.len;rw [hl.length]at fO;have FE:=E3;rw [fO]at FE;have wl:IntKind.i64.wrap (left- 1)=left- 1:=aj ⟨by omega,by omega⟩
  have no:∀q:¬ (1≤left∧deep≤16∧fK w V k op n cp args.length=true),gV w V k (.mk op n cp args) deep left=false:=by
   intro q;rw [aqj];intro h;have:aB (.mk op n cp args)≤left∧deep+dm (.mk op n cp args)≤17∧dA w V k (.mk op n cp args)=true:=by simpa [gV]using h
   rw [aB,dA,apJ]at this;exact q ⟨by omega,by omega,this.2.2.1⟩
  rw [vi eh]at no
  obtain ⟨F,B⟩:∃F,gV w V k (.mk op n cp args) deep left=F:=⟨_,rfl⟩
  rw [B]at no⊢
  obtain ⟨NE,hNE⟩:∃F,aB (.mk op n cp args)=F:=⟨_,rfl⟩
  rw [hNE];by_cases q1:left- 1<0
  ·have p:=no (by omega)
   simp (maxSteps:=9^7)-implicitDefEqProofs+contextual [-X.ev,wU,cA,iE,u,wl,s3,t,q1,aN,aD,aE,p,MX];exact ⟨_,Q⟩
  by_cases q2:16<deep
  ·have p:=no (by omega)
   simp (maxSteps:=9^7)-implicitDefEqProofs+contextual [-X.ev,wU,cA,iE,u,wl,s3,t,q1,q2,aN,aD,aE,p,MX];exact ⟨_,Q⟩
  simp (maxSteps:=9^7)-implicitDefEqProofs+contextual [-X.ev,wU,cA,iE,u,wl,s3,t,q1,q2,D,EE,FE];apply ah
  ·(simp-implicitDefEqProofs [-X.ev];rfl)
  refine (FD kn (hv.ext GX3)).mono ?_;rintro x H4 ⟨rfl,g⟩;have L:=MX.trans (Mod.bU g);have FE4:=g.ld FE;have FEn:=aV.1 FE;have TZ:=aV.1 FE4;have Ot:=g.get Q
  have ex4:∃s,H4.get b=some (.cells 1 [.int .i64 s]):=⟨_,Ot⟩
  have mK:=g.wf kn;have GX4:=GX3.trans g;have pX:H4.n0≤b:=by rw [g.n0];exact yr
  by_cases U:mj V op n=args.length
  case neg=>
   have p:=no (by simp [U]);simp (maxSteps:=9^7)-implicitDefEqProofs+contextual [-X.ev,U,aN,aD,aE,p,L,FEn,TZ,g.n0,g.nx,ex4]
  have p:tS w k op n cp=false→F=false:=fun h=>no (by simp [h])
  have e0:=g.ld E0;have e1:=g.ld E1;have e2:=g.ld E2;have S:=g.ld D0;have R:=g.ld D2;have d:=g.ldn D;have e:=g.ldn EE
  suffices T0:∀l:Fr,tS w k op n cp=true→l.get 2= .int .i64 deep→l.get 3= .pointer (some ⟨b,0,none⟩)→l.get 4= .pointer (some ⟨H.nx,0,none⟩)→l.get 5= .pointer (some ⟨f.nx,0,none⟩)→
   Vk E O rest [] l H4 (wR [.tmp 8] fun x H'=>x= .bool F∧Mod (fun x=>x=b) H H'∧∃s,H'.get b=some (.cells 1 [.int .i64 s])∧(F=true→s=left- NE)) by
   have sh:=FF eh;simp (maxSteps:=9^7)-implicitDefEqProofs+contextual [-X.ev,U,aN,aD,aE,p,L,FEn,TZ,g.n0,g.nx,ex4,tS,T0,e0,e1,e2,S,R,sh]
  intro l q4 J I C f5;subst fI;have e3:=FE4;simp (maxSteps:=9^7)-implicitDefEqProofs+contextual [-X.ev,so,wU,J,I,C,f5,e3]
  refine bZ (fun j l H'=>Mod (fun x=>x=b) H4 H'∧∃i:Nat,i+j=args.length∧l.get 2= .int .i64 deep∧l.get 3= .pointer (some ⟨b,0,none⟩)∧l.get 4= .pointer (some ⟨H.nx,0,none⟩)∧l.get 75=va∧l.get 76= .int .i64 args.length∧l.get 77= .int .i64 i∧
   H'.get b=some (.cells 1 [.int .i64 (left- 1- aq (args.take i))])∧1+aq (args.take i)≤left∧∀y∈args.take i,dm y+deep≤16∧dA w V k y=true) ?_ args.length ⟨Mod.refl _ _,0,by simp,by simp [J],by simp [I],by simp [C],by simp [fO],by simp,by simp,by simpa [aq]using Ot,by simp [aq];omega,by simp⟩
  rintro j l H5 ⟨M5,i,hi,J,I,C,f75,f76,f77,Ie,hle,aH⟩;have rk:=M5.wf mK;have L2:=L.trans M5;have T3:Ext G H5:=GX.mod L2 (by rintro x rfl;exact gb);have dd:=M5.ldn (a:=⟨H.nx,0,none⟩) zw d;by_cases h:i<args.length
  ·obtain ⟨y,m⟩:∃y,args[i]?=some y:=⟨_,apG h⟩
   obtain ⟨b2,o2,c2,va2,r,b9,bK,rfl,km⟩:=gj.row hr hl m;replace bK:=T3.ldn bK;have akW:=f75;rw [b9]at f75;obtain ⟨M,sH6,T,acu,acv,q,Y⟩:=fg (H:=H5) rk (z:=4) (c:=[.int .i64 0,.int .i64 0,.int .i64 0,.slice none 0 0]) (vs:=[.int .i64 y.op,.int .i64 y.n,.int .i64 y.cp,va2]) rfl;have q0:M.ld ⟨H5.nx,0,none⟩=some (.int .i64 y.op):=Y 0 _ rfl;have q1:M.ld ⟨H5.nx,1,none⟩=some (.int .i64 y.n):=Y 1 _ rfl;have q2:M.ld ⟨H5.nx,2,none⟩=some (.int .i64 y.cp):=Y 2 _ rfl;have U:M.ld ⟨H5.nx,3,none⟩=some va2:=Y 3 _ rfl;clear Y;replace q:M.ldn ⟨H5.nx,0,none⟩ 4=some [.int .i64 y.op,.int .i64 y.n,.int .i64 y.cp,va2]:=q;have Ou:=T.wf rk;replace dd:=T.ldn dd;have wd:IntKind.i64.wrap (deep+1)=deep+1:=aj ⟨by omega,by omega⟩;have t1:=eJ m;have t2:=bo args (i+1);have t3:=bo args i;have t4:=dZ y;have t5:=sq (k:=0) (apL m);have hs:=gA (op:=op) (n:=n) (cp:=cp) m;have hb6:M.n0≤b:=by rw [T.n0,M5.n0];exact pX
   simp (maxSteps:=9^7)-implicitDefEqProofs+contextual [-X.ev,J,I,C,f75,f76,f77,h,bK,sH6,q,dd,wd];apply ah
   ·(simp-implicitDefEqProofs [-X.ev];rfl)
   refine (ih y _ G M (deep+1) (left- 1- aq (args.take i)) b (by omega) Ou (T3.trans T) gb hv km (T.get Ie) hb6 (by omega) (by omega)).mono ?_;rintro x H7 ⟨rfl,M7,s,Rw,A⟩;have M67:=(Mod.bU T).trans M7
   cases q5:gV w V k y (deep+1) (left- 1- aq (args.take i))with
   |true=>
    have A:=A q5;have q5':aB y≤left- 1- aq (args.take i)∧deep+1+dm y≤17∧dA w V k y=true:=by simpa [gV]using q5
    simp (maxSteps:=9^7)-implicitDefEqProofs+contextual [-X.ev,J,I,C,f75,f76,f77,h];rw [aj (n:=(i:Int)+1) ⟨by omega,by omega⟩];refine ⟨j- 1,by omega,M5.trans M67,i+1,by omega,b9.symm,by simp,?_,by omega,fun z v=>?_⟩
    ·rw [Rw,A,t1]
     rw [show left- 1- aq (args.take i)- aB y=left- 1- (aq (args.take i)+aB y) by omega]
    ·rw [ap1,m]at v
     rcases ap0.1 v with v|v
     ·exact aH z v
     ·simp at v;subst v;exact ⟨by omega,q5'.2.2⟩
   |false=>
    have kh:F=false:=by
     rw [aqj];intro hT;rw [hT]at B;have B:aB (.mk op n cp args)≤left∧deep+dm (.mk op n cp args)≤17∧dA w V k (.mk op n cp args)=true:=by simpa [gV]using B
     rw [aB,dm,dA,apJ]at B;have:=jk.1 B.2.2.2 y (apL m);have:gV w V k y (deep+1) (left- 1- aq (args.take i))=true:=by simp [gV,this];omega
     rw [q5]at this;cases this
    simp (maxSteps:=9^7)-implicitDefEqProofs+contextual [-X.ev,J,I,C,f75,f76,f77,h,kh,L2.trans M67];exact ⟨_,Rw⟩
  ·have vj:F=true:=by
    rw [←B];rw [apN (by omega)]at hle aH;have fJ:=jk.2 fun y m=>(aH y m).2
    have hdl:dD args 0≤16- deep:=CJ (by omega) fun y m=>by have:=(aH y m).1;omega
    have p:fK w V k op n cp args.length=true:=by rw [vi eh,q4];simp [U]
    have:aB (.mk op n cp args)≤left∧deep+dm (.mk op n cp args)≤17∧dA w V k (.mk op n cp args)=true:=by
     rw [aB,dm,dA,fJ,p];exact ⟨by omega,by omega,rfl⟩
    simp [gV,this]
   rw [apN (by omega)]at Ie;rw [aB]at hNE;simp (maxSteps:=9^7)-implicitDefEqProofs+contextual [-X.ev,J,I,C,f75,f76,f77,h,vj,L2];rw [Ie,show left- 1- aq args=left- NE by omega]
end
section
open Go
theorem aF {w:Int} {V:List Vr} (h:aC w V=true):1≤w∧w≤8∧1≤V.length∧V.length≤18:=by
 simp [aC,cg]at h;omega
theorem iN {w:Int} {V:List Vr} (h:aC w V=true) {i:Nat} {v:Vr} (hi:V[i]?=some v):1≤v.cells∧v.cells≤8:=by
 rw [gE]at h;simp only [apJ,apW]at h;have:=h.2.2.2.1 i (by simpa using(apM.1 hi).1);rw [pW hi]at this;exact wY this
theorem vk (w:Int) (V:List Vr) (k:Int) (e:bY):gV w V k e 1 400=gL w V k e:=by
 unfold gV gL;rw [show decide (1+dm e≤17)=decide (dm e≤16) by rw [aqc];simp;omega]
def vn (w:Int) (V:List Vr) (k:Int) (e:bY):Int:=if aC w V=true then(if k<1 then 1 else if 3<k then 1 else if gL w V k e=true then 0 else 20)else 1
theorem FG {w k:Int} {vv:Value} {V:List Vr} {e:bY} {c:List Value} {H:AH} (h:H.n0≤H.nx) (v:dy H vv V) (J:nJ V) (y:nm H c e):
 Ca E O 126 [.agg #[.int .i64 w,vv,.int .i64 k],.agg c.toArray] H (fun x H'=>x= .int .i64 (vn w V k e)∧Ext H H'):=by
 refine Ca.aJ (F:=Je) rfl rfl rfl ?_;have T:c.length=4:=by cases y;rfl
 have r:=Ext.alloc H (.cells 3 [.int .i64 w,vv,.int .i64 k]);have n:(H.alloc (.cells 3 [.int .i64 w,vv,.int .i64 k])).ld ⟨H.nx,0,none⟩=some (.int .i64 w):=ai h rfl;have m:(H.alloc (.cells 3 [.int .i64 w,vv,.int .i64 k])).ld ⟨H.nx,1,none⟩=some vv:=ai h rfl;have a:(H.alloc (.cells 3 [.int .i64 w,vv,.int .i64 k])).ld ⟨H.nx,2,none⟩=some (.int .i64 k):=ai h rfl;have d:(H.alloc (.cells 3 [.int .i64 w,vv,.int .i64 k])).ldn ⟨H.nx,0,none⟩ 3=some [.int .i64 w,vv,.int .i64 k]:=bj h 3 rfl;generalize L:H.alloc (.cells 3 [.int .i64 w,vv,.int .i64 k])=o at r n m a d;have t:=r.wf h;have f:=Ext.alloc o (.cells c.length c);have q:(o.alloc (.cells c.length c)).ldn ⟨o.nx,0,none⟩ 4=some c:=bj t 4 (by assumption);generalize K:o.alloc (.cells c.length c)=W at f q;have s:=f.wf t;replace n:=f.ld n;replace m:=f.ld m;replace a:=f.ld a;replace d:=f.ldn d;have X:=r.trans f;simp (maxSteps:=9^7)-implicitDefEqProofs+contextual [-X.ev,Je,L,K,n,m];apply ah
 ·(simp-implicitDefEqProofs [-X.ev];rfl)
 refine (AY s (v.ext X) J w).mono ?_;rintro x C ⟨rfl,j⟩;replace a:=j.ld a;replace d:=j.ldn d;replace q:=j.ldn q;have g:=X.trans j
 cases b:aC w V with
 |false=>
  simp (maxSteps:=9^7)-implicitDefEqProofs+contextual [-X.ev,b,vn,g]
 |true=>
  by_cases h2:k<1
  ·simp (maxSteps:=9^7)-implicitDefEqProofs+contextual [-X.ev,b,h2,a,vn,g]
  by_cases l:3<k
  ·simp (maxSteps:=9^7)-implicitDefEqProofs+contextual [-X.ev,b,h2,l,a,vn,g]
  have u:=aF b;have p:=j.wf s;obtain ⟨P,D,i,Q,G,M⟩:=fC p (z:=1) (c:=[.int .i64 0]) (vs:=[.int .i64 400]) rfl;replace d:=i.ldn d;replace q:=i.ldn q;simp (maxSteps:=9^7)-implicitDefEqProofs+contextual [-X.ev,b,h2,l,a,D,d,q];have I:=i.wf p;apply ah
  ·(simp-implicitDefEqProofs [-X.ev];rfl)
  refine (JW ⟨u.1,u.2.1⟩ _ e c C P 1 400 C.nx (apV _) I i (apK _) (v.ext g) (y.ext g) M (by rw [G];exact p) (by omega) (by omega)).mono ?_;rintro x H5 ⟨rfl,N,R,U,S⟩;have B:Ext H H5:=g.trans (i.mod N (by rintro x rfl;exact apK _));rw [vk]
  cases A:gL w V k e with
  |true=>
   simp (maxSteps:=9^7)-implicitDefEqProofs+contextual [-X.ev,b,h2,l,A,vn,B]
  |false=>
   simp (maxSteps:=9^7)-implicitDefEqProofs+contextual [-X.ev,b,h2,l,A,vn,B]
theorem CK {w k:Int} {d:Value} {V:List Vr} {e:bY} {c:List Value} {H:AH} (f:H.n0≤H.nx) (g:dy H d V) (l:nJ V) (h:nm H c e):
 Ca E O 118 [.int .i64 w,d,.int .i64 k,.agg c.toArray] H (fun x H'=>x= .int .i64 (vn w V k e)∧Ext H H'):=by
 refine Ca.aJ (F:=I8) rfl rfl rfl ?_;have p:c.length=4:=by cases h;rfl
 have b:=Ext.alloc H (.cells c.length c);have q:(H.alloc (.cells c.length c)).ldn ⟨H.nx,0,none⟩ 4=some c:=bj f 4 (by assumption);generalize n:H.alloc (.cells c.length c)=s at b q;have i:=b.wf f
 have m:eM [.int .i64 0,.slice none 0 0,.int .i64 0] [(0,1,.int .i64 w),(1,1,d),(2,1,.int .i64 k)]=some (.agg #[.int .i64 w,d,.int .i64 k]):=by
  obtain ⟨a,c,j⟩:=g.len;rw [j];rfl
 simp (maxSteps:=9^7)-implicitDefEqProofs+contextual [-X.ev,I8,n,q,m];apply ah
 ·(simp-implicitDefEqProofs [-X.ev];rfl)
 refine (FG i (g.ext b) l (h.ext b)).mono ?_;rintro x r ⟨rfl,o⟩;simp (maxSteps:=9^7)-implicitDefEqProofs+contextual [-X.ev,b.trans o]
def nr (V:List Vr) (op n:Int):Int:=
 let z:=if 0≤n∧n<V.length then ak V n else 0
 if op=0 then(if z=0 then-1 else if 1<z then 2 else 1)else if op=4 then(if z=0 then-1 else if 1<z then 1 else 0)else
 if op=3 then(if n<0 then-1 else if 47<n then-1 else 1)else
 if op=1 then(if n=0 then 1 else-1)else if op=2 then(if n=0 then 1 else-1)else if op=5 then(if n=0 then 1 else-1)else if op=6 then(if n=0 then 1 else-1)else-1
theorem FH {w op n:Int} {vv vb va vt ve:Value} {V:List Vr} {H:AH} (i:H.n0≤H.nx) (z:dy H vv V):
 Ca E O 117 [.agg #[.int .i64 w,vv,vb],.agg #[.int .i64 op,.int .i64 n,va,vt,ve]] H (fun x H'=>x= .int .i64 (nr V op n)∧Ext H H'):=by
 refine Ca.aJ (F:=Cu) rfl rfl rfl ?_;have u:=Ext.alloc H (.cells 3 [.int .i64 w,vv,vb]);have M:(H.alloc (.cells 3 [.int .i64 w,vv,vb])).ld ⟨H.nx,0,none⟩=some (.int .i64 w):=ai i rfl;have f:(H.alloc (.cells 3 [.int .i64 w,vv,vb])).ld ⟨H.nx,1,none⟩=some vv:=ai i rfl;have L:(H.alloc (.cells 3 [.int .i64 w,vv,vb])).ld ⟨H.nx,2,none⟩=some vb:=ai i rfl;have d:(H.alloc (.cells 3 [.int .i64 w,vv,vb])).ldn ⟨H.nx,0,none⟩ 3=some [.int .i64 w,vv,vb]:=bj i 3 rfl;generalize t:H.alloc (.cells 3 [.int .i64 w,vv,vb])=a at u M f L d;have g:=u.wf i;have l:=Ext.alloc a (.cells 5 [.int .i64 op,.int .i64 n,va,vt,ve]);have k:(a.alloc (.cells 5 [.int .i64 op,.int .i64 n,va,vt,ve])).ld ⟨a.nx,0,none⟩=some (.int .i64 op):=ai g rfl;have j:(a.alloc (.cells 5 [.int .i64 op,.int .i64 n,va,vt,ve])).ld ⟨a.nx,1,none⟩=some (.int .i64 n):=ai g rfl;have K:(a.alloc (.cells 5 [.int .i64 op,.int .i64 n,va,vt,ve])).ld ⟨a.nx,2,none⟩=some va:=ai g rfl;have J:(a.alloc (.cells 5 [.int .i64 op,.int .i64 n,va,vt,ve])).ld ⟨a.nx,3,none⟩=some vt:=ai g rfl;have I:(a.alloc (.cells 5 [.int .i64 op,.int .i64 n,va,vt,ve])).ld ⟨a.nx,4,none⟩=some ve:=ai g rfl;have e:(a.alloc (.cells 5 [.int .i64 op,.int .i64 n,va,vt,ve])).ldn ⟨a.nx,0,none⟩ 5=some [.int .i64 op,.int .i64 n,va,vt,ve]:=bj g 5 rfl;generalize s:a.alloc (.cells 5 [.int .i64 op,.int .i64 n,va,vt,ve])=S at l k j K J I e;have N:=l.wf g;replace f:=l.ld f;have X:=u.trans l;have p:IntKind.i64.wrap 1=1:=by rfl
 have m:IntKind.i64.wrap 2=2:=by rfl
 by_cases h:0≤n∧n<V.length
 ·obtain ⟨y,v⟩:∃y,V[n.toNat]?=some y:=⟨_,apG (by omega)⟩
  obtain ⟨b,o,Q,B,_,_,_,C⟩:=(z.ext X).at v;have D:ak V n=y.cells:=by simp [ak,v]
  have r:(if 0≤n∧n<V.length then ak V n else 0)=y.cells:=by rw [if_pos h,D]
  obtain ⟨F,c⟩:∃F,nr V op n=F:=⟨_,rfl⟩
  rw [c];unfold nr at c;rw [r]at c;rw [B]at f;obtain ⟨h,h2⟩:=h;simp (maxSteps:=9^7)-implicitDefEqProofs+contextual [-X.ev,Cu,t,s,f,k,j,h,h2,C,X,p,m,←c]
 ·have r:(if 0≤n∧n<V.length then ak V n else 0)=0:=if_neg h
  obtain ⟨F,c⟩:∃F,nr V op n=F:=⟨_,rfl⟩
  rw [c];unfold nr at c;rw [r]at c;obtain ⟨R,P,A⟩:=z.len;rw [A]at f;by_cases h2:0≤n
  ·have G:¬ n<V.length:=fun q=>h ⟨h2,q⟩
   simp (maxSteps:=9^7)-implicitDefEqProofs+contextual [-X.ev,Cu,t,s,f,k,j,h2,G,X,p,m,←c]
  ·simp (maxSteps:=9^7)-implicitDefEqProofs+contextual [-X.ev,Cu,t,s,f,k,j,h2,X,p,m,←c]
open Go
mutual
def bA:bH→Int
 | .mk _ _ _ thn els=>1+al thn+al els
def al:List bH→Int
 |[]=>0
 |s::ss=>bA s+al ss
end
theorem fu {l:List bH} {i:Nat} {y:bH} (h:l[i]?=some y):aw (l.take (i+1))=aw (l.take i)+bx y:=by
 induction l generalizing i with
 |nil=>simp at h
 |cons x l ih=>
  cases i with
  |zero=>simp at h;subst h;simp [aw]
  |succ i=>simp only [List.take_succ_cons,aw];rw [ih (by simpa using h)];omega
theorem fY {l:List bH} {i:Nat} {y:bH} (h:l[i]?=some y):al (l.take (i+1))=al (l.take i)+bA y:=by
 induction l generalizing i with
 |nil=>simp at h
 |cons x l ih=>
  cases i with
  |zero=>simp at h;subst h;simp [al]
  |succ i=>simp only [List.take_succ_cons,al];rw [ih (by simpa using h)];omega
theorem bF (l:List bH):0≤aw l:=(dN l).1
theorem jT:∀s:bH,1≤bx s
 | .mk op n args a b=>by
  rw [bx];have:=bh args;have:=bF a;have:=bF b;omega
theorem aX (l:List bH) (i:Nat):0≤aw (l.take i)∧aw (l.take i)≤aw l:=by
 induction l generalizing i with
 |nil=>simp [aw]
 |cons x l ih=>
  have a:=jT x;have h2:=bF l
  cases i with
  |zero=>simp only [List.take_zero,aw];omega
  |succ i=>simp only [List.take_succ_cons,aw];have:=ih i;omega
theorem aR:∀l:List bH,0≤al l∧al l≤aw l:=vg fun l ih=>by
 induction l with
 |nil=>simp [al,aw]
 |cons s d c=>
  obtain ⟨op,n,args,a,b⟩:=s;have e:=ih op n args a b (by simp);have h2:=c fun op n args a b h=>ih op n args a b (by simp [h])
  have:=bh args;rw [al,bA,aw,bx];omega
theorem cl (l:List bH) (i:Nat):0≤al (l.take i)∧al (l.take i)≤aw (l.take i):=aR _
theorem kZ {op n:Int} {args:List bY} {thn els:List bH}:∀{l:List bH} {k:Int},bH.mk op n args thn els∈l→1+bE thn 0≤bE l k∧1+bE els 0≤bE l k
 |x::l,k,h=>by
  rw [bE]
  have mono:∀(l:List bH) (k:Int),k≤bE l k:=by
   intro l
   induction l with
   |nil=>intro k;rw [bE];omega
   |cons z l ih=>
    obtain ⟨op,n,args,thn,els⟩:=z;intro k;rw [bE,jR];have:=ih (max (max k (1+bE thn 0)) (1+bE els 0));omega
  rcases apY.1 h with rfl|h
  ·have:=mono l (jR (.mk op n args thn els) k)
   rw [jR]at this⊢;omega
  ·exact kZ h
theorem CL {l:List bH} {k m:Int} (b:k≤m) (h:∀op n args thn els,bH.mk op n args thn els∈l→1+bE thn 0≤m∧1+bE els 0≤m):bE l k≤m:=by
 induction l generalizing k with
 |nil=>rw [bE];exact b
 |cons x l ih=>
  obtain ⟨op,n,args,thn,els⟩:=x;rw [bE,jR];have:=h op n args thn els (by simp);exact ih (by omega) fun op n args thn els a=>h op n args thn els (by simp [a])
def sr (op:Int) (nt ne:Nat):Bool:=!(decide (0<nt)&&(!decide (op=1)&& !decide (op=2)))&& !(decide (0<ne)&& !decide (op=1))
theorem tT {w:Int} {V:List Vr} (r:aC w V=true) (op n:Int) (c l ne:Nat):cD V op n c l ne=(decide (nr V op n=c)&&sr op l ne):=by
 have m:∀more:Int,0≤more→mg V n c more=decide ((if(if 0≤n∧n<V.length then ak V n else 0)=0 then-1 else if 1<(if 0≤n∧n<V.length then ak V n else 0)then more+1 else more)=(c:Int)):=by
  intro more s;unfold mg;by_cases h:0≤n∧n<V.length
  ·obtain ⟨y,o⟩:∃y,V[n.toNat]?=some y:=⟨_,apG (by omega)⟩
   have q:ak V n=y.cells:=by simp [ak,o]
   have:=iN r o;have p:¬ y.cells=0:=by omega
   rw [if_pos h,q,if_neg p];simp only [h.1,h.2,decide_true,Bool.true_and];by_cases h2:1<y.cells
   ·rw [if_pos h2,if_pos h2];rw [aqc];simp;omega
   ·rw [if_neg h2,if_neg h2];rw [aqc];simp;omega
  ·rw [if_neg h,if_pos rfl]
   rw [aqc];simp;omega
 unfold cD nr sr;by_cases k:op=0
 ·subst k
  rw [m 1 (by omega)];simp only [if_true];rw [show(1:Int)+1=2 by rfl];generalize decide ((if(if 0≤n∧n<V.length then ak V n else 0)=0 then(-1:Int)else if 1<(if 0≤n∧n<V.length then ak V n else 0)then 2 else 1)=c)=A;rw [aqc];cases A<;>simp
 by_cases f:op=4
 ·subst f
  rw [m 0 (by omega)];simp only [if_true,if_neg (show¬ (4:Int)=0 by omega),if_neg (show¬ (4:Int)=1 by omega),if_neg (show¬ (4:Int)=2 by omega),if_neg (show¬ (4:Int)=3 by omega)];rw [show(0:Int)+1=1 by rfl];generalize decide ((if(if 0≤n∧n<V.length then ak V n else 0)=0 then(-1:Int)else if 1<(if 0≤n∧n<V.length then ak V n else 0)then 1 else 0)=c)=A;rw [aqc];cases A<;>simp
 simp only [if_neg k,if_neg f];rw [aqc];by_cases g:op=3
 ·subst g
  rw [if_neg (by omega),if_neg (by omega),if_pos rfl,if_pos rfl];by_cases a:n<0
  ·rw [if_pos a];simp;omega
  ·by_cases b:47<n
   ·rw [if_neg a,if_pos b];simp;omega
   ·rw [if_neg a,if_neg b];simp;omega
 by_cases j:op=1
 ·subst j
  by_cases a:n=0
  ·simp [a]<;>omega
  ·simp [a]
 by_cases i:op=2
 ·subst i
  by_cases a:n=0
  ·simp [a]<;>omega
  ·simp [a]
 by_cases e:op=5
 ·subst e
  by_cases a:n=0
  ·simp [a]<;>omega
  ·simp [a]
 by_cases d:op=6
 ·subst d
  by_cases a:n=0
  ·simp [a]<;>omega
  ·simp [a]
 simp [g,j,i,e,d]
theorem FI (V:List Vr) (op n:Int):nr V op n≤2:=by
 unfold nr;dsimp only
 repeat' split
 all_goals omega
end
end Go.Proofs.YtppcmpmnglaleaaGreat.A
