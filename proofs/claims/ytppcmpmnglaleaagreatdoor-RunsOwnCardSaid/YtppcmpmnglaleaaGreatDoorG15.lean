/- Texts that stand one behind the other: S5, S6, S7, S8, S9, S10, S11, S12, S13, S14, AbsO, AbsP, S15, S16, S17, S18, S19, S20. -/
import Derived.Test.YtppcmpmnglaleaaGreatDoorG14
set_option linter.unusedVariables false
set_option linter.unusedSimpArgs false
namespace Go.Proofs.YtppcmpmnglaleaaGreatDoor.A
section
open Go
mutual
def av:bQ→Int
 | .mk _ _ _ args=>1+ar args
def ar:List bQ→Int
 |[]=>0
 |e::es=>av e+ar es
end
mutual
def cJ:bQ→Int
 | .mk _ _ _ args=>c8 args 0+1
def c8:List bQ→Int→Int
 |[],n=>n
 |e::es,n=>c8 es (max n (cJ e))
end
theorem oP:∀(l:List bQ) (n:Int),c8 l n=l.foldl (fun n e=>max n (cJ e)) n
 |[],n=>rfl
 |e::es,n=>by simp [c8,oP es]
theorem kG {M:bQ→Prop} (h:∀op n cp args,(∀e∈args,M e)→M (.mk op n cp args)):∀e,M e:=by
 have key:∀(N:Nat) (e:bQ),SizeOf.sizeOf e<N→M e:=by
  intro N
  induction N with
  |zero=>intro e h;omega
  |succ N ih=>
   intro e b;obtain ⟨op,n,cp,args⟩:=e;refine h op n cp args fun e a=>ih e ?_
   have:=arb a;simp at b;omega
 exact fun e=>key _ e (aqV _)
theorem ny {l:List bQ} (h:∀e∈l,1≤av e):0≤ar l:=by
 induction l with
 |nil=>simp [ar]
 |cons e es ih=>
  rw [ar];have b:=h e (by simp);have h2:=ih fun x a=>h x (by simp [a])
  omega
theorem ec:∀e,1≤av e:=kG fun op n a args ih=>by
 rw [av];have:=ny ih;omega
theorem a6 (l:List bQ):0≤ar l:=ny fun e _=>ec e
theorem xC:∀e m,jE e m=max (m- av e) 0:=kG fun op n f args ih m=>by
 have key:∀(l:List bQ) (k:Int),(∀e∈l,∀m,jE e m=max (m- av e) 0)→0≤k→dy l k=max (k- ar l) 0:=by
  intro l
  induction l with
  |nil=>intro k _ c;rw [dy,ar];omega
  |cons x l b=>
   intro k a c;rw [dy,ar,a x (by simp),b _ (fun e d=>a e (by simp [d])) (by omega)];have:=a6 l;omega
 rw [jE,av];have:=a6 args;split
 ·omega
 ·rw [key args (m- 1) ih (by omega)]
  omega
theorem oQ:∀e,1≤cJ e∧cJ e≤av e:=kG fun op n h args ih=>by
 have key:∀(l:List bQ) (k:Int),(∀e∈l,1≤cJ e∧cJ e≤av e)→0≤k→k≤c8 l k∧c8 l k≤max k (ar l):=by
  intro l
  induction l with
  |nil=>intro k _ c;rw [c8,ar];omega
  |cons x l b=>
   intro k a c;rw [c8,ar];have g:=a x (by simp);have h2:=b (max k (cJ x)) (fun e d=>a e (by simp [d])) (by omega);have f:=a6 l;omega
 rw [cJ,av];have:=key args 0 ih (by omega);have:=a6 args;omega
theorem bj {H:AH} (a:H.n0≤H.nx) {z:Nat} {c:List Value} (n:Nat) (b:c.length=n):(H.alloc (.cells z c)).ldn ⟨H.nx,0,none⟩ n=some c:=by
 rw [←b];exact rD a z c
theorem KO {e:bQ} {c:List Value} {H:AH} {most:Int} (b:H.n0≤H.nx) (f:oO H c e) (k:0≤most∧most≤1000000):
 Ca E O 137 [.agg c.toArray,.int .i64 most] H (fun x H'=>x= .bool (decide (av e≤most))∧Ext H H'):=by
 refine Ca.dx (F:=Ks) rfl rfl rfl ?_;have g:c.length=4:=by cases f;rfl
 have a:=Ext.alloc H (.cells c.length c);have d:=bj b (z:=c.length) (c:=c) 4 g;generalize h:H.alloc (.cells c.length c)=j at a d;simp-implicitDefEqProofs [Ks,aq,h,d];refine ba ?_;rw [ai ⟨by omega,by omega⟩];simp-implicitDefEqProofs;refine (Bx _ e c j (most+1) (aqV _) (a.wf b) (f.ext a) ⟨by omega,by omega⟩).mono ?_;rintro x l ⟨rfl,i⟩;simp-implicitDefEqProofs [aq];refine ⟨?_,a.trans i⟩;rw [xC];omega
theorem Gb:∀(N:Nat) (e:bQ) (c:List Value) (H:AH),SizeOf.sizeOf e<N→H.n0≤H.nx→oO H c e→av e<2^60→
 Ca E O 138 [.agg c.toArray] H (fun x H'=>x= .int .i64 (cJ e)∧Ext H H'):=by
 intro N
 induction N with
 |zero=>intro e c H h;omega
 |succ N ih=>
  intro e c H hN u S B
  cases S with| @mk op n cp v rows args i1 i2 Z C A m=>
  refine Ca.dx (F:=a138) rfl rfl rfl ?_;have f:=Ext.alloc H (.cells 4 [.int .i64 op,.int .i64 n,.int .i64 cp,v]);have D:(H.alloc (.cells 4 [.int .i64 op,.int .i64 n,.int .i64 cp,v])).ld ⟨H.nx,3,none⟩=some v:=aj u rfl;generalize T:H.alloc (.cells 4 [.int .i64 op,.int .i64 n,.int .i64 cp,v])=Y at f D;have P:=B;rw [av]at B;obtain ⟨a0,c0,z⟩:=A.len;rw [m.length]at z
  have G:∀(l:List bQ) (y:bQ),y∈l→av y≤ar l:=by
   intro l
   induction l with
   |nil=>intro y a;cases a
   |cons x l I=>
    intro y a;rw [ar];have h3:=a6 l;have h4:=ec x;rcases aqY.1 a with rfl|a
    ·omega
    ·have:=I y a;omega
  simp-implicitDefEqProofs [a138,aq,T];refine dY (fun k g H'=>Ext Y H'∧∃i:Nat,i+k=args.length∧g.get 1= .pointer (some ⟨H.nx,0,none⟩)∧g.get 4= .int .i64 i∧g.get 3= .int .i64 (c8 (args.take i) 0)∧0≤c8 (args.take i) 0∧c8 (args.take i) 0≤ar args) ?_ args.length ⟨Ext.refl _,0,by simp,by simp,by simp,by simp [c8],by simp [c8],by simp [c8,a6]⟩;rintro k g X ⟨d,i,hi,s,p,q,V,U⟩;have j:=d.ld D;have L:=(f.trans d).wf u;by_cases h:i<args.length
  ·obtain ⟨y,a⟩:∃y,args[i]?=some y:=⟨_,aqG h⟩
   obtain ⟨r,M,R⟩:=m.at a;obtain ⟨b,o,c',w,Q⟩:=(A.ext (f.trans d)).at M;rw [m.length]at w;rw [w]at j;have J:=G args y (aqL a);have K:=oQ y;simp-implicitDefEqProofs [aq,s,p,q,j,h,Q];refine ba ?_;simp-implicitDefEqProofs;have hs:=kf (op:=op) (n:=n) (cp:=cp) a;refine (ih y r X (by omega) L (R.ext (f.trans d)) (by omega)).mono ?_;rintro x H3 ⟨rfl,W⟩;simp-implicitDefEqProofs [aq,s,p,q,Jl];rw [ai (n:=(i:Int)+1) ⟨by omega,by omega⟩]
   have t:c8 (args.take (i+1)) 0=max (c8 (args.take i) 0) (cJ y):=by
    rw [aq1,a];simp [oP,List.foldl_append]
   refine ⟨k- 1,by omega,d.trans W,i+1,by omega,by simp,?_,?_,?_⟩
   ·rw [t];split<;>omega
   ·rw [t];omega
   ·rw [t];omega
  ·rw [z]at j
   simp-implicitDefEqProofs [aq,s,p,q,j,h];rw [aqN (by omega)]at V U⊢;rw [ai ⟨by omega,by omega⟩];refine ⟨?_,f.trans d⟩;rw [cJ]
def qN (op:Int):Bool:=(decide (2≤op)&&decide (op≤11))||(decide (op=13)||decide (op=14))
theorem Ql (op:Int) (H:AH):Ca E O 175 [.int .i64 op] H (fun x H'=>x= .bool (qN op)∧H'=H):=by
 refine Ca.dx (F:=a175) rfl rfl rfl ?_;by_cases b:2≤op
 ·by_cases h2:op≤11
  ·simp-implicitDefEqProofs [a175,aq,qN,b,h2]
  ·by_cases a:op=13
   ·simp-implicitDefEqProofs [a175,aq,qN,a]
   ·simp-implicitDefEqProofs [a175,aq,qN,b,h2,a]
 ·have a:¬ op=13:=by omega
  simp-implicitDefEqProofs [a175,aq,qN,b,a]
def jf (op:Int):Int:=if op=0 then 0 else if op=12 then 1 else if op=15 then 3 else if qN op=true then 2 else-1
theorem KP (op:Int) (H:AH):Ca E O 167 [.int .i64 op] H (fun x H'=>x= .int .i64 (jf op)∧H'=H):=by
 refine Ca.dx (F:=a167) rfl rfl rfl ?_;by_cases b:op=0
 ·simp-implicitDefEqProofs [a167,aq,jf,b]
 by_cases h2:op=12
 ·simp-implicitDefEqProofs [a167,aq,jf,h2]
 by_cases a:op=15
 ·simp-implicitDefEqProofs [a167,aq,jf,a]
 simp-implicitDefEqProofs [a167,aq,b,h2,a];refine ba ?_;simp-implicitDefEqProofs;refine (Ql op H).mono ?_;rintro x H' ⟨rfl,rfl⟩
 cases c:qN op with
 |true=>simp-implicitDefEqProofs [aq,jf,b,h2,a,c]
 |false=>simp-implicitDefEqProofs [aq,jf,b,h2,a,c]
open Go
def al (l:List Vr) (n:Int):Int:=match l[n.toNat]? with|some v=>v.cells|none=>0
def e7 (w:Int) (l:List Vr) (k:Int) (op n cp:Int) (na:Nat):Bool:=
 if op=1 then(!(decide (n<0)||(decide ((l.length:Int)≤n)||(decide (cp<0)||decide (k≤cp))))&&decide ((na:Int)=if 1<al l n then 1 else 0))
 else(!(!decide (cp=0)|| !decide ((na:Int)=jf op))&&(if op=0 then isWord w n else decide (n=0)))
theorem KQ {w k op n cp:Int} {v va:Value} {l:List Vr} {rows:List (List Value)} {H:AH} (h:H.n0≤H.nx) (B:dh H v l) (N:l.length<2^60) (I:Rows H 4 va rows) (M:rows.length<2^60):
 Ca E O 156 [.int .i64 w,v,.int .i64 k,.agg #[.int .i64 op,.int .i64 n,.int .i64 cp,va]] H (fun x H'=>x= .bool (e7 w l k op n cp rows.length)∧Ext H H'):=by
 refine Ca.dx (F:=a156) rfl rfl rfl ?_;obtain ⟨T,Q,A⟩:=I.len;obtain ⟨S,P,r⟩:=B.len;by_cases m:op=1
 ·subst m
  have d:=Ext.alloc H (.cells 4 [.int .i64 1,.int .i64 n,.int .i64 cp,va]);have a:(H.alloc (.cells 4 [.int .i64 1,.int .i64 n,.int .i64 cp,va])).ld ⟨H.nx,0,none⟩=some (.int .i64 1):=aj h rfl;have c:(H.alloc (.cells 4 [.int .i64 1,.int .i64 n,.int .i64 cp,va])).ld ⟨H.nx,1,none⟩=some (.int .i64 n):=aj h rfl;have e:(H.alloc (.cells 4 [.int .i64 1,.int .i64 n,.int .i64 cp,va])).ld ⟨H.nx,2,none⟩=some (.int .i64 cp):=aj h rfl;have f:(H.alloc (.cells 4 [.int .i64 1,.int .i64 n,.int .i64 cp,va])).ld ⟨H.nx,3,none⟩=some va:=aj h rfl;generalize j:H.alloc (.cells 4 [.int .i64 1,.int .i64 n,.int .i64 cp,va])=u at d a c e f;by_cases h2:n<0
  ·simp-implicitDefEqProofs [a156,aq,j,a,c,e,h2,e7]
   exact d
  by_cases g:(l.length:Int)≤n
  ·simp-implicitDefEqProofs [a156,aq,j,a,c,e,h2,g,r,e7]
   exact d
  by_cases i:cp<0
  ·simp-implicitDefEqProofs [a156,aq,j,a,c,e,h2,g,i,r,e7]
   exact d
  by_cases C:k≤cp
  ·simp-implicitDefEqProofs [a156,aq,j,a,c,e,h2,g,i,C,r,e7]
   exact d
  obtain ⟨y,z⟩:∃y,l[n.toNat]?=some y:=⟨_,aqG (by omega)⟩
  obtain ⟨b,o,R,G,_,_,_,K⟩:=(B.ext d).at z;simp-implicitDefEqProofs [a156,aq,j,a,c,e,h2,g,i,C,r,e7];refine oL _ _ ?_;have t:0≤n:=by omega
  have s:n<l.length:=by omega
  rw [←r,G,A]at*;simp-implicitDefEqProofs [aq,c,f,t,s,K];refine mF ?_;simp-implicitDefEqProofs;have q:=bo.1 f;have J:=F4 (decide (1<y.cells)) u;refine J.mono ?_;rintro x D ⟨rfl,rfl⟩;simp-implicitDefEqProofs [aq,tS,chain,j7,nth,AO.wanted,eC,sameAt,eK,da,q];have L:al l n=y.cells:=by simp [al,z]
  exact ⟨by rw [L],d⟩
 ·have d:=Ext.alloc H (.cells 4 [.int .i64 op,.int .i64 n,.int .i64 cp,va])
  have a:(H.alloc (.cells 4 [.int .i64 op,.int .i64 n,.int .i64 cp,va])).ld ⟨H.nx,0,none⟩=some (.int .i64 op):=aj h rfl;have c:(H.alloc (.cells 4 [.int .i64 op,.int .i64 n,.int .i64 cp,va])).ld ⟨H.nx,1,none⟩=some (.int .i64 n):=aj h rfl;have e:(H.alloc (.cells 4 [.int .i64 op,.int .i64 n,.int .i64 cp,va])).ld ⟨H.nx,2,none⟩=some (.int .i64 cp):=aj h rfl;have f:(H.alloc (.cells 4 [.int .i64 op,.int .i64 n,.int .i64 cp,va])).ld ⟨H.nx,3,none⟩=some va:=aj h rfl;generalize j:H.alloc (.cells 4 [.int .i64 op,.int .i64 n,.int .i64 cp,va])=u at d a c e f;have q:=bo.1 f;have p:=bo.1 a;simp-implicitDefEqProofs [a156,aq,j,a,m];refine oL _ _ ?_;by_cases h2:cp=0
  case neg=>
   simp-implicitDefEqProofs [aq,tS,chain,j7,nth,AO.wanted,eC,sameAt,eK,da,a,c,e,f,q,p,m,h2,e7];exact d
  rw [A]at f q;simp-implicitDefEqProofs [aq,a,c,e,f,m,h2];refine mF ?_;simp-implicitDefEqProofs;refine (KP op u).mono ?_;rintro x D ⟨rfl,rfl⟩;by_cases g:(rows.length:Int)=jf op
  case neg=>
   simp-implicitDefEqProofs [aq,tS,chain,j7,nth,AO.wanted,eC,sameAt,eK,da,a,c,e,f,q,p,m,h2,g,e7];exact d
  simp-implicitDefEqProofs [aq,tS,chain,j7,nth,AO.wanted,eC,sameAt,eK,da,a,c,e,f,q,p,m,h2,g];by_cases i:op=0
  case neg=>
   simp-implicitDefEqProofs [aq,a,c,m,h2,g,i,e7];exact d
  simp-implicitDefEqProofs [aq,a,c,i];refine ba ?_;simp-implicitDefEqProofs;refine (Bw w n D).mono ?_;rintro x U ⟨rfl,rfl⟩;rw [i]at g;simp-implicitDefEqProofs [aq,e7,h2,g,i];exact d
mutual
def dz (w:Int) (l:List Vr) (k:Int):bQ→Bool
 | .mk op n cp args=>e7 w l k op n cp args.length&&uq w l k args
def uq (w:Int) (l:List Vr) (k:Int):List bQ→Bool
 |[]=>true
 |e::es=>dz w l k e&&uq w l k es
end
theorem iU {w:Int} {l:List Vr} {k:Int}:∀{es:List bQ},uq w l k es=true↔∀e∈es,dz w l k e=true
 |[]=>by simp [uq]
 |e::es=>by simp [uq,iU (es:=es)]
theorem KR {w k:Int} {v:Value} {l:List Vr} (Y:l.length<2^60):∀(N:Nat) (e:bQ) (c:List Value) (H:AH),SizeOf.sizeOf e<N→H.n0≤H.nx→dh H v l→oO H c e→
 Ca E O 139 [.int .i64 w,v,.int .i64 k,.agg c.toArray] H (fun x H'=>x= .bool (dz w l k e)∧Ext H H'):=by
 intro N
 induction N with
 |zero=>intro e c H h;omega
 |succ N ih=>
  intro e c H hN p P he
  cases he with| @mk op n cp va rows args i1 i2 i3 R D Q=>
  refine Ca.dx (F:=a139) rfl rfl rfl ?_;have g:=Ext.alloc H (.cells 4 [.int .i64 op,.int .i64 n,.int .i64 cp,va]);have S:(H.alloc (.cells 4 [.int .i64 op,.int .i64 n,.int .i64 cp,va])).ld ⟨H.nx,3,none⟩=some va:=aj p rfl;have d:=bj p (z:=4) (c:=[.int .i64 op,.int .i64 n,.int .i64 cp,va]) 4 rfl;generalize cF:H.alloc (.cells 4 [.int .i64 op,.int .i64 n,.int .i64 cp,va])=H1 at g S d;simp-implicitDefEqProofs [a139,aq,cF,d];refine ba ?_;simp-implicitDefEqProofs;have C:=Q.length;refine (KQ (w:=w) (k:=k) (op:=op) (n:=n) (cp:=cp) (g.wf p) (P.ext g) Y (D.ext g) (by omega)).mono ?_;rintro x H2 ⟨rfl,K⟩;rw [C]
  cases I:e7 w l k op n cp args.length with
  |false=>
   simp-implicitDefEqProofs [aq,I,dz];exact g.trans K
  |true=>
   simp-implicitDefEqProofs [aq,I];obtain ⟨a0,c0,L⟩:=D.len;rw [C]at L;refine dY (fun j f H'=>Ext H2 H'∧∃i:Nat,i+j=args.length∧f.get 0= .int .i64 w∧f.get 1=v∧f.get 2= .int .i64 k∧f.get 7= .pointer (some ⟨H.nx,0,none⟩)∧f.get 9= .int .i64 i∧∀e∈args.take i,dz w l k e=true) ?_ args.length ⟨Ext.refl _,0,by simp,by simp,by simp,by simp,by simp,by simp,by simp⟩;rintro j f H3 ⟨J,i,hi,A,u,t,s,q,G⟩;have X:=g.trans (K.trans J);have B:=(K.trans J).ld S;have U:=X.wf p;by_cases h:i<args.length
   ·obtain ⟨y,m⟩:∃y,args[i]?=some y:=⟨_,aqG h⟩
    obtain ⟨r,V,Z⟩:=Q.at m;obtain ⟨b,o,c',M,W⟩:=(D.ext X).at V;rw [C]at M;rw [M]at B;simp-implicitDefEqProofs [aq,A,u,t,s,q,B,h,W];refine ba ?_;simp-implicitDefEqProofs [A,u,t];have hs:=kf (op:=op) (n:=n) (cp:=cp) m;refine (ih y r H3 (by omega) U (P.ext X) (Z.ext X)).mono ?_;rintro x H4 ⟨rfl,T⟩
    cases h2:dz w l k y with
    |true=>
     simp-implicitDefEqProofs [aq,A,u,t,s,q,h2];rw [ai (n:=(i:Int)+1) ⟨by omega,by omega⟩];refine ⟨j- 1,by omega,J.trans T,i+1,by omega,by simp,fun z a=>?_⟩;rw [aq1,m]at a;rcases aq0.1 a with a|a
     ·exact G z a
     ·simp at a;subst a;exact h2
    |false=>
     simp-implicitDefEqProofs [aq,A,u,t,s,q,h2];refine ⟨?_,X.trans T⟩
     have:uq w l k args=false:=by
      rw [ark];intro e;have:=iU.1 e y (aqL m);rw [h2]at this;cases this
     rw [dz,this,Bool.and_false]
   ·rw [L]at B
    simp-implicitDefEqProofs [aq,s,q,B,h];rw [aqN (by omega)]at G;refine ⟨?_,X⟩;rw [dz,I,iU.2 G];rfl
def gh (w:Int) (l:List Vr) (k:Int) (e:bQ):Bool:=decide (av e≤400)&&(decide (cJ e≤16)&&dz w l k e)
theorem Vl {w k:Int} {v:Value} {l:List Vr} (p:l.length<2^60) {e:bQ} {c:List Value} {H:AH} (h:H.n0≤H.nx) (o:dh H v l) (i:oO H c e):
 Ca E O 102 [.int .i64 w,v,.int .i64 k,.agg c.toArray] H (fun x H'=>x= .bool (gh w l k e)∧Ext H H'):=by
 refine Ca.dx (F:=Ki) rfl rfl rfl ?_;have q:c.length=4:=by cases i;rfl
 have a:=Ext.alloc H (.cells c.length c);have d:=bj h (z:=c.length) (c:=c) 4 q;generalize r:H.alloc (.cells c.length c)=A at a d;simp-implicitDefEqProofs [Ki,aq,r,d];refine ba ?_;simp-implicitDefEqProofs;refine (KO (a.wf h) (i.ext a) (by omega)).mono ?_;rintro x u ⟨rfl,f⟩;by_cases b:av e≤400
 case neg=>
  simp-implicitDefEqProofs [aq,b,gh];exact a.trans f
 have m:=f.ldn d;simp-implicitDefEqProofs [aq,b,m];refine ba ?_;simp-implicitDefEqProofs;refine (Gb _ e c u (aqV _) ((a.trans f).wf h) (i.ext (a.trans f)) (by omega)).mono ?_;rintro x t ⟨rfl,n⟩;have g:=a.trans (f.trans n);by_cases h2:cJ e≤16
 case neg=>
  simp-implicitDefEqProofs [aq,b,h2,gh];exact g
 have j:=n.ldn m;simp-implicitDefEqProofs [aq,b,h2,j];refine ba ?_;simp-implicitDefEqProofs;refine (KR p _ e c t (aqV _) (g.wf h) (o.ext g) (i.ext g)).mono ?_;rintro x y ⟨rfl,s⟩;simp-implicitDefEqProofs [aq,b,h2,gh];exact g.trans s
end
section
open Go
inductive bh where
 |mk (op n:Int) (args:List bQ) (aB aE:List bh)
mutual
inductive nM (H:AH):List Value→bh→Prop where
 |mk {op n:Int} {va vt ve:Value} {ra rt re:List (List Value)} {args:List bQ} {aB aE:List bh}:jR op→jR n→args.length<2^60→aB.length<2^60→aE.length<2^60→
  Rows H 4 va ra→fY H ra args→Rows H 5 vt rt→gN H rt aB→Rows H 5 ve re→gN H re aE→nM H [.int .i64 op,.int .i64 n,va,vt,ve] (.mk op n args aB aE)
inductive gN (H:AH):List (List Value)→List bh→Prop where
 |nil:gN H [] []
 |cons {r:List Value} {e:bh} {rs:List (List Value)} {es:List bh}:nM H r e→gN H rs es→gN H (r::rs) (e::es)
end
mutual
theorem nM.ext {H H':AH} (E:Ext H H') {c:List Value} {e:bh}:nM H c e→nM H' c e
 | .mk a b c d e g h rt lt f le=>.mk a b c d e (g.ext E) (fY.ext E h) (rt.ext E) (gN.ext E lt) (f.ext E) (gN.ext E le)
theorem gN.ext {H H':AH} (E:Ext H H') {c:List (List Value)} {e:List bh}:gN H c e→gN H' c e
 | .nil=>.nil
 | .cons a b=>.cons (nM.ext E a) (gN.ext E b)
end
theorem gN.length {H:AH}:∀{c:List (List Value)} {e:List bh},gN H c e→c.length=e.length
 |_,_,.nil=>rfl
 |_,_,.cons _ b=>by simp [gN.length b]
theorem gN.at {H:AH}:∀{c:List (List Value)} {e:List bh} {i:Nat} {x:bh},gN H c e→e[i]?=some x→∃r,c[i]?=some r∧nM H r x
 |_,_,i,x,.nil,h=>by simp at h
 |_,_,0,x,.cons a b,h=>by simp at h;subst h;exact ⟨_,rfl,a⟩
 |_,_,i+1,x,.cons a b,h=>by obtain ⟨r,d,h2⟩:=gN.at b (by simpa using h);exact ⟨r,by simpa using d,h2⟩
theorem oR {l:List bh} {i:Nat} {op n:Int} {args:List bQ} {a b:List bh} (h:l[i]?=some (.mk op n args a b)):SizeOf.sizeOf a<SizeOf.sizeOf l∧SizeOf.sizeOf b<SizeOf.sizeOf l:=by
 have:=arb (aqL h);simp at this;omega
mutual
def vF:bh→Int→Int
 | .mk _ _ args aB aE,m=>cU aE (cU aB (dy args (m- 1)))
def cU:List bh→Int→Int
 |[],m=>m
 |s::ss,m=>if 0<m then cU ss (vF s m)else m
end
theorem gN.row {H:AH} {v:Value} {rows:List (List Value)} {l:List bh} (w:Rows H 5 v rows) (h:gN H rows l) {i:Nat} {op n:Int} {args:List bQ} {f aE:List bh} (t:l[i]?=some (.mk op n args f aE)):
 ∃b o c va vt ve e rt d,v= .slice (some ⟨b,o,none⟩) l.length c∧H.ldn ⟨b,o+i*5,none⟩ 5=some [.int .i64 op,.int .i64 n,va,vt,ve]∧
  H.ld ⟨b,o+i*5,none⟩=some (.int .i64 op)∧H.ld ⟨b,o+i*5+1,none⟩=some (.int .i64 n)∧H.ld ⟨b,o+i*5+2,none⟩=some va∧H.ld ⟨b,o+i*5+3,none⟩=some vt∧H.ld ⟨b,o+i*5+4,none⟩=some ve∧
  jR op∧jR n∧args.length<2^60∧f.length<2^60∧aE.length<2^60∧Rows H 4 va e∧fY H e args∧Rows H 5 vt rt∧gN H rt f∧Rows H 5 ve d∧gN H d aE:=by
 obtain ⟨r,u,x⟩:=h.at t;obtain ⟨b,o,c,g,a⟩:=w.at u;rw [h.length]at g
 cases x with| @mk _ _ va vt ve e rt d _ _ _ s q p m k C h2 B A z y=>
 exact ⟨b,o,c,va,vt,ve,e,rt,d,g,a,by simpa using aK a (j:=0) rfl,aK a (j:=1) rfl,aK a (j:=2) rfl,aK a (j:=3) rfl,aK a (j:=4) rfl,s,q,p,m,k,C,h2,B,A,z,y⟩
open Go
theorem vG {l:List bh} {i:Nat} {s:bh} (h:l[i]?=some s) (m:Int) (a:0<m):cU (l.drop i) m=cU (l.drop (i+1)) (vF s m):=by
 obtain ⟨b,e⟩:=aqM.1 h;rw [List.drop_eq_getElem_cons b,cU,if_pos a,e]
theorem zU {l:List bQ} {i:Nat} {s:bQ} (h:l[i]?=some s) (m:Int):dy (l.drop i) m=dy (l.drop (i+1)) (jE s m):=by
 obtain ⟨a,e⟩:=aqM.1 h;rw [List.drop_eq_getElem_cons a,dy,e]
theorem KS:∀(N:Nat) (l:List bh) (v:Value) (rows:List (List Value)) (H:AH) (m:Int),SizeOf.sizeOf l<N→H.n0≤H.nx→l.length<2^60→Rows H 5 v rows→gN H rows l→0≤m→m≤1000001→
 Ca E O 35 [v,.int .i64 m] H (fun x H'=>(x= .int .i64 (cU l m)∧Ext H H')∧0≤cU l m∧cU l m≤m):=by
 intro N
 induction N with
 |zero=>intro l v rows H m h;omega
 |succ N ih=>
  intro l v rows H m hN hw Z Y hl NS hm1;refine Ca.dx (F:=Zc) rfl rfl rfl ?_;obtain ⟨a0,c0,D⟩:=Y.len;rw [hl.length]at D;simp-implicitDefEqProofs [Zc,aq];refine dY (fun k I H'=>Ext H H'∧∃(i:Nat) (cur:Int),i+k=l.length∧I.get 0=v∧I.get 5= .int .i64 i∧I.get 1= .int .i64 cur∧0≤cur∧cur≤m∧cU l m=cU (l.drop i) cur) ?_ l.length ⟨Ext.refl _,0,m,by simp,by simp,by simp,by simp,NS,Int.le_refl _,by simp⟩;rintro k I H1 ⟨u,i,cur,hi,e,J,T,b0,b1,d⟩;have fin:∀q:Prop,(cU l m=cur→q)→(cU (l.drop i) cur=cur)→q:=fun q h1 h2=>h1 (d.trans h2)
  by_cases h:i<l.length
  ·by_cases G:0<cur
   ·obtain ⟨⟨op,n,args,aB,aE⟩,P⟩:∃y,l[i]?=some y:=⟨_,aqG h⟩
    have hs:=oR P;obtain ⟨b,o,c,va,vt,ve,ra,rt,re,X,_,_,_,e2,e3,e4,i1,i2,i3,i4,i5,g1,S,g3,g4,g5,g6⟩:=gN.row (Y.ext u) (hl.ext u) P;obtain ⟨a3,c3,W⟩:=g1.len;rw [S.length]at W;have f0v:=e;rw [X]at e;simp-implicitDefEqProofs [aq,e,J,T,h,G];rw [ai (n:=cur- 1) ⟨by omega,by omega⟩];refine dY (fun M B L=>Ext H1 L∧∃(j:Nat) (f:Int),j+M=args.length∧B.get 0= .slice (some ⟨b,o,none⟩) l.length c∧B.get 5= .int .i64 i∧B.get 1= .int .i64 f∧B.get 6= .int .i64 j∧0≤f∧f≤cur- 1∧dy args (cur- 1)=dy (args.drop j) f) ?_ args.length ⟨Ext.refl _,0,cur- 1,by simp,by simp [e],by simp [J],by simp,by simp,by omega,by omega,by simp⟩;rintro M B L ⟨a,j,f,hj,A,z,g,w,q0,q1,p⟩;have K:=a.ld e2;have SW:=a.ld e3;have C:=a.ld e4;have Q:=(u.trans a).wf hw;by_cases h2:j<args.length
    ·obtain ⟨y,V⟩:∃y,args[j]?=some y:=⟨_,aqG h2⟩
     obtain ⟨r,Dv,mG⟩:=S.at V;obtain ⟨b2,o2,c2,R,bL⟩:=(g1.ext a).at Dv;rw [S.length]at R;rw [R]at K;simp-implicitDefEqProofs [aq,A,z,g,w,h,h2,K,bL];refine ba ?_;simp-implicitDefEqProofs [g];refine (Bx _ y r L f (aqV _) Q (mG.ext a) ⟨by omega,by omega⟩).mono ?_;rintro x H3 ⟨rfl,t⟩;have hle:=xB _ y f (aqV _);simp-implicitDefEqProofs [aq,A,z,g,w];rw [ai (n:=(j:Int)+1) ⟨by omega,by omega⟩];refine ⟨M- 1,by omega,a.trans t,j+1,by omega,by simp,by omega,by omega,?_⟩;rw [p,zU V]
    ·rw [W]at K
     have Ep:j=args.length:=by omega
     rw [Ep,List.drop_length,dy]at p;simp-implicitDefEqProofs [aq,A,z,g,w,h,h2,K,SW,C];refine ba ?_;simp-implicitDefEqProofs [g];refine (ih aB vt rt L f (by omega) Q i4 (g3.ext a) (g4.ext a) q0 (by omega)).mono ?_;rintro x H3 ⟨⟨rfl,t⟩,r0,r1⟩;have U:=t.ld C;simp-implicitDefEqProofs [aq,A,z,g,w,h,U];refine ba ?_;simp-implicitDefEqProofs;refine (ih aE ve re H3 _ (by omega) (t.wf Q) i5 (g5.ext (a.trans t)) (g6.ext (a.trans t)) r0 (by omega)).mono ?_;rintro x H4 ⟨⟨rfl,X4⟩,s0,s1⟩;simp-implicitDefEqProofs [aq,A,z,g,w];rw [ai (n:=(i:Int)+1) ⟨by omega,by omega⟩];refine ⟨k- 1,by omega,u.trans (a.trans (t.trans X4)),i+1,by omega,X.symm,by simp,s0,by omega,?_⟩;rw [d,vG P cur G,vF,p]
   ·have R:=D
    rw [D]at e;simp-implicitDefEqProofs [aq,e,J,T,h,G]
    have s:cU (l.drop i) cur=cur:=by
     rw [List.drop_eq_getElem_cons h,cU,if_neg G]
    exact ⟨⟨(d.trans s).symm,u⟩,by rw [d,s];exact b0,by rw [d,s];exact b1⟩
  ·rw [D]at e
   simp-implicitDefEqProofs [aq,e,J,T,h]
   have s:cU (l.drop i) cur=cur:=by
    rw [List.drop_of_length_le (by omega),cU]
   exact ⟨⟨(d.trans s).symm,u⟩,by rw [d,s];exact b0,by rw [d,s];exact b1⟩
end
section
open Go
mutual
def bc:bh→Int
 | .mk _ _ args aB aE=>1+ar args+au aB+au aE
def au:List bh→Int
 |[]=>0
 |s::ss=>bc s+au ss
end
theorem vH {M:List bh→Prop} (h:∀l,(∀op n args a b,.mk op n args a b∈l→M a∧M b)→M l):∀l,M l:=by
 have key:∀(N:Nat) (l:List bh),SizeOf.sizeOf l<N→M l:=by
  intro N
  induction N with
  |zero=>intro l h;omega
  |succ N ih=>
   intro l d;refine h l fun op n args a b c=>?_
   have:=arb c;simp at this;exact ⟨ih a (by omega),ih b (by omega)⟩
 exact fun l=>key _ l (aqV _)
theorem Gc (l:List bQ) (k:Int) (b:0≤k):dy l k=max (k- ar l) 0:=by
 induction l generalizing k with
 |nil=>rw [dy,ar];omega
 |cons x l a=>
  rw [dy,ar,xC,a _ (by omega)];have:=a6 l;omega
theorem dm:∀l,0≤au l∧∀m,0≤m→cU l m=max (m- au l) 0:=vH fun l ih=>by
 induction l with
 |nil=>exact ⟨by rw [au];omega,fun m f=>by rw [cU,au];omega⟩
 |cons s k e=>
  obtain ⟨op,n,args,a,b⟩:=s;obtain ⟨⟨j,d⟩,⟨i,c⟩⟩:=ih op n args a b (by simp);obtain ⟨g,v1⟩:=e fun op n args a b h=>ih op n args a b (by simp [h])
  have o:=a6 args;refine ⟨by rw [au,bc];omega,fun m f=>?_⟩;rw [cU,au,bc];split
  ·rw [vF,Gc _ _ (by omega),d _ (by omega),c _ (by omega),v1 _ (by omega)]
   omega
  ·omega
theorem xE {l:List bh} {v:Value} {rows:List (List Value)} {H:AH} {m:Int} (b:H.n0≤H.nx) (a:l.length<2^60) (c:Rows H 5 v rows) (d:gN H rows l) (f:0≤m∧m≤1000000):
 Ca E O 10 [v,.int .i64 m] H (fun x H'=>x= .bool (decide (au l≤m))∧Ext H H'):=by
 refine Ca.dx (F:=Y3) rfl rfl rfl ?_;simp-implicitDefEqProofs [Y3,aq];refine ba ?_;rw [ai ⟨by omega,by omega⟩];simp-implicitDefEqProofs;refine (KS _ l v rows H (m+1) (aqV _) b a c d (by omega) (by omega)).mono ?_;rintro x g ⟨⟨rfl,e⟩,_⟩;simp-implicitDefEqProofs [aq];refine ⟨?_,e⟩;rw [(dm l).2 _ (by omega)];have:=(dm l).1;omega
def lS (l:List Vr) (n:Int) (na:Nat) (more:Int):Bool:=decide (0≤n)&&(decide (n<l.length)&&decide ((na:Int)=more+if 1<al l n then 1 else 0))
theorem xF {n more:Int} {v d va vt ve:Value} {l:List Vr} {rows:List (List Value)} {H:AH} (j:H.n0≤H.nx) (k:dh H v l) (B:l.length<2^60) (s:Rows H 4 va rows) (A:rows.length<2^60) (t:0≤more∧more≤1):
 Ca E O 136 [v,.agg #[d,.int .i64 n,va,vt,ve],.int .i64 more] H (fun x H'=>x= .bool (lS l n rows.length more)∧Ext H H'):=by
 refine Ca.dx (F:=Kr) rfl rfl rfl ?_;have f:=Ext.alloc H (.cells 5 [d,.int .i64 n,va,vt,ve]);have c:(H.alloc (.cells 5 [d,.int .i64 n,va,vt,ve])).ld ⟨H.nx,1,none⟩=some (.int .i64 n):=aj j rfl;have e:(H.alloc (.cells 5 [d,.int .i64 n,va,vt,ve])).ld ⟨H.nx,2,none⟩=some va:=aj j rfl;generalize w:H.alloc (.cells 5 [d,.int .i64 n,va,vt,ve])=z at f c e;obtain ⟨J,D,q⟩:=s.len;obtain ⟨I,C,p⟩:=k.len;have a:=bo.1 c;have g:=bo.1 e;simp-implicitDefEqProofs [Kr,aq,w];refine oL _ _ ?_;by_cases h2:0≤n
 case neg=>
  simp-implicitDefEqProofs [aq,tS,chain,j7,nth,AO.wanted,eC,sameAt,eK,da,c,a,g,h2,lS];exact f
 by_cases h:n<l.length
 case neg=>
  simp-implicitDefEqProofs [aq,tS,chain,j7,nth,AO.wanted,eC,sameAt,eK,da,c,a,g,h2,h,p,lS];exact f
 obtain ⟨y,i⟩:∃y,l[n.toNat]?=some y:=⟨_,aqG (by omega)⟩
 obtain ⟨b,o,G,r,_,_,_,m⟩:=(k.ext f).at i;have u:al l n=y.cells:=by simp [al,i]
 rw [q]at e g;rw [r];simp-implicitDefEqProofs [aq,c,e,m,h2,h];refine mF ?_;simp-implicitDefEqProofs;refine (F4 (decide (1<y.cells)) z).mono ?_;rintro x K ⟨rfl,rfl⟩;simp-implicitDefEqProofs [aq,tS,chain,j7,nth,AO.wanted,eC,sameAt,eK,da,c,e,a,g,m,h2,h,lS,u];refine ⟨?_,f⟩;rw [ai (by unfold jR;split<;>omega)]
open Go
mutual
def jF:bh→Int→Int
 | .mk _ _ _ aB aE,n=>max (max n (1+bk aB 0)) (1+bk aE 0)
def bk:List bh→Int→Int
 |[],n=>n
 |s::ss,n=>bk ss (jF s n)
end
theorem oT:∀(l:List bh) (n:Int),bk l n=l.foldl (fun n e=>jF e n) n
 |[],n=>rfl
 |e::es,n=>by simp [bk,oT es]
theorem kH:∀l,∀k,0≤k→k≤bk l k∧bk l k≤max k (au l):=vH fun l ih=>by
 induction l with
 |nil=>intro k e;rw [bk,au];omega
 |cons s c d=>
  obtain ⟨op,n,args,a,b⟩:=s;intro k e;obtain ⟨t,u⟩:=ih op n args a b (by simp);have t:=t 0 (by omega);have u:=u 0 (by omega);have i:=(dm a).1;have g:=(dm b).1;have f:=(dm c).1;have j:=a6 args;rw [bk,au,bc,jF];have w:=d (fun op n args a b h=>ih op n args a b (by simp [h])) (max (max k (1+bk a 0)) (1+bk b 0)) (by omega);omega
theorem zV {l:List bh} {op n:Int} {args:List bQ} {a b:List bh} (h:bh.mk op n args a b∈l):1+au a≤au l∧1+au b≤au l∧1+ar args≤au l:=by
 induction l with
 |nil=>cases h
 |cons s f ih=>
  rw [au];have m:=(dm f).1;rcases aqY.1 h with h|h
  ·rw [←h,bc]
   have e:=(dm a).1;have c:=(dm b).1;have k:=a6 args;omega
  ·have:=ih h
   obtain ⟨g,o,j,d,i⟩:=s;rw [bc];have e:=(dm d).1;have c:=(dm i).1;have k:=a6 j;omega
theorem Dw:∀(N:Nat) (l:List bh) (v:Value) (rows:List (List Value)) (H:AH),SizeOf.sizeOf l<N→H.n0≤H.nx→l.length<2^60→Rows H 5 v rows→gN H rows l→au l<2^60→
 Ca E O 72 [v] H (fun x H'=>x= .int .i64 (bk l 0)∧Ext H H'):=by
 intro N
 induction N with
 |zero=>intro l v rows H h;omega
 |succ N ih=>
  intro l v rows H hN P A z B hm;refine Ca.dx (F:=a72) rfl rfl rfl ?_;obtain ⟨a0,c0,w⟩:=z.len;rw [B.length]at w;simp-implicitDefEqProofs [a72,aq];refine dY (fun k j H'=>Ext H H'∧∃i:Nat,i+k=l.length∧j.get 0=v∧j.get 4= .int .i64 i∧j.get 3= .int .i64 (bk (l.take i) 0)) ?_ l.length ⟨Ext.refl _,0,by simp,by simp,by simp,by simp [bk]⟩;rintro k j X ⟨e,i,hi,d,m,q⟩;by_cases h:i<l.length
  ·obtain ⟨⟨op,n,args,f,p⟩,g⟩:∃y,l[i]?=some y:=⟨_,aqG h⟩
   have hs:=oR g;have hn:=zV (aqL g);obtain ⟨b,o,c,Y,I,J,Z,rt,K,u,_,_,_,e2,V,G,i1,i2,i3,M,L,g1,g2,T,S,C,R⟩:=gN.row (z.ext e) (B.ext e) g;obtain ⟨a4,c4,Q⟩:=C.len;have t:=e.wf P;rw [u]at d;simp-implicitDefEqProofs [aq,d,m,q,h];refine oL _ _ ?_;simp-implicitDefEqProofs [aq,d,m,q,h,V,G];refine mF ?_;simp-implicitDefEqProofs;refine (ih f I rt X (by omega) t M T S (by omega)).mono ?_;rintro x W ⟨rfl,a⟩;have bt:=kH f 0 (by omega);have be:=kH p 0 (by omega);simp-implicitDefEqProofs [aq];rw [ai (n:=1+bk f 0) ⟨by omega,by omega⟩];refine mF ?_;simp-implicitDefEqProofs;refine (ih p J K W (by omega) (a.wf t) L (C.ext a) (R.ext a) (by omega)).mono ?_;rintro x H3 ⟨rfl,s⟩;have r:=bo.1 G;have D:=a.ldn r;rw [Q]at r D;simp-implicitDefEqProofs [aq,Jl,tS,chain,j7,nth,AO.wanted,eC,sameAt,eK,da,r,D,a.n0,s.n0,a.nx,s.nx,d,m];rw [ai (n:=1+bk p 0) ⟨by omega,by omega⟩,ai (n:=(i:Int)+1) ⟨by omega,by omega⟩]
   have U:bk (l.take (i+1)) 0=max (max (bk (l.take i) 0) (1+bk f 0)) (1+bk p 0):=by
    rw [aq1,g];simp [oT,List.foldl_append,jF]
   refine ⟨k- 1,by omega,e.trans (a.trans s),i+1,by omega,u.symm,by simp,?_⟩;rw [U];split<;>split<;>omega
  ·rw [w]at d
   simp-implicitDefEqProofs [aq,d,m,q,h];rw [aqN (by omega)];exact ⟨rfl,e⟩
end
section
open Go
def b9 (l:List Vr) (op n:Int) (na nt ne:Nat):Bool:=
 if op=0 then(decide (nt=0)&&decide (ne=0))&&lS l n na 1
 else if op=1 then decide (n=0)&&decide (na=1)
 else if op=2 then decide (n=0)&&(decide (na=1)&&decide (ne=0))
 else if op=3 then(decide (nt=0)&&decide (ne=0))&&(decide (0≤n)&&(decide (n≤47)&&decide (na=1)))
 else if op=4 then(decide (nt=0)&&decide (ne=0))&&lS l n na 0
 else if op=5∨op=6 then(decide (nt=0)&&decide (ne=0))&&(decide (n=0)&&decide (na=1))
 else false
def pZ:AC:=match Dn.body with| .seq _ (.seq _ r)=>r|c=>c
theorem zW:Dn.body= .seq (.bI [o 3 (.box (.t 1)),o 4 (.mv (.k (.bool false)))]) (.seq (.bI [o 6 (.fa 3 (.t 3)),o 7 (.ld (.t 6)),o 8 (.eN (.t 7)),o 9 (.bin .eql (.t 8) (i 0)),o 10 (.mv (.t 9)),og 10 true 11 (.fa 4 (.t 3)),og 10 true 12 (.ld (.t 11)),og 10 true 13 (.eN (.t 12)),og 10 true 14 (.bin .eql (.t 13) (i 0)),o 15 (.pick (.t 10) (.t 14) (.k (.bool false))),o 5 (.mv (.t 15))]) pZ):=rfl
theorem dA (n:Nat):((n:Int)=0)=(n=0):=by apply propext;omega
theorem cW (n:Nat):((n:Int)=1)=(n=1):=by apply propext;omega
theorem KU {op n:Int} {v va vt ve:Value} {l:List Vr} {s rt w:List (List Value)} {H:AH} (q:H.n0≤H.nx) (hv:dh H v l) (hl:l.length<2^60) (A:Rows H 4 va s) (R:Rows H 5 vt rt) (U:Rows H 5 ve w) (T:s.length<2^60):
 Ca E O 101 [v,.agg #[.int .i64 op,.int .i64 n,va,vt,ve]] H (fun x H'=>x= .bool (b9 l op n s.length rt.length w.length)∧Ext H H'):=by
 refine Ca.dx (F:=Dn) rfl rfl rfl ?_;have f:=Ext.alloc H (.cells 5 [.int .i64 op,.int .i64 n,va,vt,ve]);have Z:(H.alloc (.cells 5 [.int .i64 op,.int .i64 n,va,vt,ve])).ld ⟨H.nx,0,none⟩=some (.int .i64 op):=aj q rfl;have k:(H.alloc (.cells 5 [.int .i64 op,.int .i64 n,va,vt,ve])).ld ⟨H.nx,1,none⟩=some (.int .i64 n):=aj q rfl;have Y:(H.alloc (.cells 5 [.int .i64 op,.int .i64 n,va,vt,ve])).ld ⟨H.nx,2,none⟩=some va:=aj q rfl;have X:(H.alloc (.cells 5 [.int .i64 op,.int .i64 n,va,vt,ve])).ld ⟨H.nx,3,none⟩=some vt:=aj q rfl;have W:(H.alloc (.cells 5 [.int .i64 op,.int .i64 n,va,vt,ve])).ld ⟨H.nx,4,none⟩=some ve:=aj q rfl;have d:=bj q (z:=5) (c:=[.int .i64 op,.int .i64 n,va,vt,ve]) 5 rfl;generalize V:H.alloc (.cells 5 [.int .i64 op,.int .i64 n,va,vt,ve])=N at f Z k Y X W d;obtain ⟨a2,c2,gg⟩:=A.len;obtain ⟨a3,c3,wS⟩:=R.len;obtain ⟨a4,c4,tV⟩:=U.len;have m:=Y;have P:=X;have i:=W;rw [gg]at m;rw [wS]at P;rw [tV]at i;have Q:∀more:Int,0≤more∧more≤1→Ca E O 136 [v,.agg #[.int .i64 op,.int .i64 n,va,vt,ve],.int .i64 more] N (fun x H'=>x= .bool (lS l n s.length more)∧Ext N H'):=fun more hm=>xF (f.wf q) (hv.ext f) hl (A.ext f) T hm
 clear A R U T;generalize s.length=r at*;generalize rt.length=y at*;generalize w.length=ne at*
 obtain ⟨fl,o⟩:∃b,b=(decide (y=0)&&decide (ne=0)):=⟨_,rfl⟩
 suffices S:∀u:Fr,u.get 0=v→u.get 3= .pointer (some ⟨H.nx,0,none⟩)→u.get 5= .bool fl→Wk E O pZ [] u N (xp [.tmp 4] fun x H'=>x= .bool (b9 l op n r y ne)∧Ext H H') by
  rw [zW];by_cases B:y=0
  ·subst B
   simp-implicitDefEqProofs [aq,V,P,i,dA];refine S _ ?_ ?_ ?_<;>simp [o]
  ·simp-implicitDefEqProofs [aq,V,P,i,B,dA]
   refine S _ ?_ ?_ ?_<;>simp [o,B]
 intro u g h a;simp-implicitDefEqProofs [pZ,Dn,aq,h,Z];by_cases L:op=0
 ·subst L
  cases e:fl with
  |false=>
   rw [e]at a;simp-implicitDefEqProofs [aq,g,h,a,d,b9,←o,e];exact f
  |true=>
   rw [e]at a;simp-implicitDefEqProofs [aq,g,h,a,d];refine ba ?_;simp-implicitDefEqProofs [g];refine (Q 1 (by omega)).mono ?_;rintro x H2 ⟨rfl,M⟩;simp-implicitDefEqProofs [aq,b9,←o,e];exact f.trans M
 simp-implicitDefEqProofs [aq,L];by_cases K:op=1
 ·subst K
  by_cases j:n=0
  case neg=>
   simp-implicitDefEqProofs [aq,g,h,a,k,m,i,dA,cW,b9,j];exact f
  by_cases p:r=1
  case neg=>
   simp-implicitDefEqProofs [aq,g,h,a,k,m,i,dA,cW,b9,j,p];exact f
  simp-implicitDefEqProofs [aq,g,h,a,k,m,i,dA,cW,b9,j,p];exact f
 simp-implicitDefEqProofs [aq,K];by_cases J:op=2
 ·subst J
  by_cases j:n=0
  case neg=>
   simp-implicitDefEqProofs [aq,g,h,a,k,m,i,dA,cW,b9,j];exact f
  by_cases p:r=1
  case neg=>
   simp-implicitDefEqProofs [aq,g,h,a,k,m,i,dA,cW,b9,j,p];exact f
  by_cases t:ne=0
  case neg=>
   simp-implicitDefEqProofs [aq,g,h,a,k,m,i,dA,cW,b9,j,p,t];exact f
  simp-implicitDefEqProofs [aq,g,h,a,k,m,i,dA,cW,b9,j,p,t];exact f
 simp-implicitDefEqProofs [aq,J];by_cases I:op=3
 ·subst I
  cases e:fl with
  |false=>
   rw [e]at a;simp-implicitDefEqProofs [aq,g,h,a,k,m,i,dA,cW,b9,←o,e];exact f
  |true=>
  rw [e]at a;by_cases j:0≤n
  case neg=>
   simp-implicitDefEqProofs [aq,g,h,a,k,m,i,dA,cW,b9,←o,e,j];exact f
  by_cases p:n≤47
  case neg=>
   simp-implicitDefEqProofs [aq,g,h,a,k,m,i,dA,cW,b9,←o,e,j,p];exact f
  by_cases t:r=1
  case neg=>
   simp-implicitDefEqProofs [aq,g,h,a,k,m,i,dA,cW,b9,←o,e,j,p,t];exact f
  simp-implicitDefEqProofs [aq,g,h,a,k,m,i,dA,cW,b9,←o,e,j,p,t];exact f
 simp-implicitDefEqProofs [aq,I];by_cases G:op=4
 ·subst G
  cases e:fl with
  |false=>
   rw [e]at a;simp-implicitDefEqProofs [aq,g,h,a,d,b9,←o,e];exact f
  |true=>
   rw [e]at a;simp-implicitDefEqProofs [aq,g,h,a,d];refine ba ?_;simp-implicitDefEqProofs [g];refine (Q 0 (by omega)).mono ?_;rintro x H2 ⟨rfl,M⟩;simp-implicitDefEqProofs [aq,b9,←o,e];exact f.trans M
 simp-implicitDefEqProofs [aq,G];by_cases D:op=5
 ·subst D
  cases e:fl with
  |false=>
   rw [e]at a;simp-implicitDefEqProofs [aq,g,h,a,k,m,i,dA,cW,b9,←o,e];exact f
  |true=>
  rw [e]at a;by_cases j:n=0
  case neg=>
   simp-implicitDefEqProofs [aq,g,h,a,k,m,i,dA,cW,b9,←o,e,j];exact f
  by_cases p:r=1
  case neg=>
   simp-implicitDefEqProofs [aq,g,h,a,k,m,i,dA,cW,b9,←o,e,j,p];exact f
  simp-implicitDefEqProofs [aq,g,h,a,k,m,i,dA,cW,b9,←o,e,j,p];exact f
 simp-implicitDefEqProofs [aq,D];by_cases C:op=6
 ·subst C
  cases e:fl with
  |false=>
   rw [e]at a;simp-implicitDefEqProofs [aq,g,h,a,k,m,i,dA,cW,b9,←o,e];exact f
  |true=>
  rw [e]at a;by_cases j:n=0
  case neg=>
   simp-implicitDefEqProofs [aq,g,h,a,k,m,i,dA,cW,b9,←o,e,j];exact f
  by_cases p:r=1
  case neg=>
   simp-implicitDefEqProofs [aq,g,h,a,k,m,i,dA,cW,b9,←o,e,j,p];exact f
  simp-implicitDefEqProofs [aq,g,h,a,k,m,i,dA,cW,b9,←o,e,j,p];exact f
 simp-implicitDefEqProofs [aq,C];simp-implicitDefEqProofs [b9,L,K,J,I,G,D,C];exact f
open Go
mutual
def eL (w:Int) (V:List Vr):bh→Bool
 | .mk op n args aB aE=>b9 V op n args.length aB.length aE.length&&(fv w V aB&&(fv w V aE&&args.all (gh w V 1)))
def fv (w:Int) (V:List Vr):List bh→Bool
 |[]=>true
 |s::ss=>eL w V s&&fv w V ss
end
theorem kg {w:Int} {V:List Vr}:∀{es:List bh},fv w V es=true↔∀e∈es,eL w V e=true
 |[]=>by simp [fv]
 |e::es=>by simp [fv,kg (es:=es)]
theorem oU {w:Int} {V:List Vr} {es:List bh} {e:bh} (h:e∈es) (k:eL w V e=false):fv w V es=false:=by
 rw [ark];intro q;rw [kg.1 q e h]at k;cases k
theorem KV {w:Int} {v:Value} {V:List Vr} (hV:V.length<2^60):∀(N:Nat) (l:List bh) (t:Value) (rows:List (List Value)) (H:AH),SizeOf.sizeOf l<N→H.n0≤H.nx→dh H v V→l.length<2^60→Rows H 5 t rows→gN H rows l→
 Ca E O 73 [.int .i64 w,v,t] H (fun x H'=>x= .bool (fv w V l)∧Ext H H'):=by
 intro N
 induction N with
 |zero=>intro l t rows H h;omega
 |succ N ih=>
  intro l t rows H hN hw hv hlen hr hl;refine Ca.dx (F:=Zt) rfl rfl rfl ?_;obtain ⟨a0,c0,lT⟩:=hr.len;rw [hl.length]at lT;simp-implicitDefEqProofs [Zt,aq];refine dY (fun k D H'=>Ext H H'∧∃i:Nat,i+k=l.length∧D.get 0= .int .i64 w∧D.get 1=v∧D.get 2=t∧D.get 7= .int .i64 i∧∀e∈l.take i,eL w V e=true) ?_ l.length ⟨Ext.refl _,0,by simp,by simp,by simp,by simp,by simp,by simp⟩;rintro k D H1 ⟨d,i,hi,U,I,f,G,aH⟩;by_cases h:i<l.length
  case neg=>
   rw [lT]at f;simp-implicitDefEqProofs [aq,f,G,h];rw [aqN (by omega)]at aH;exact ⟨kg.2 aH,d⟩
  obtain ⟨⟨op,n,args,X,aE⟩,Q⟩:∃y,l[i]?=some y:=⟨_,aqG h⟩
  have hs:=oR Q;have T:=aqL Q;obtain ⟨b,o,c,va,vt,ve,ra,rt,re,cx,bL,_,_,e2,e3,e4,i1,i2,i3,i4,i5,g1,C,g3,g4,g5,g6⟩:=gN.row (hr.ext d) (hl.ext d) Q;have R:=d.wf hw;have S:=hv.ext d;rw [cx]at f;simp-implicitDefEqProofs [aq,U,I,f,G,h,bL];refine ba ?_;simp-implicitDefEqProofs [I];refine (KU R S hV g1 g3 g5 (by rw [C.length];exact i3)).mono ?_;rintro x H2 ⟨rfl,g⟩;rw [C.length,g4.length,g6.length]
  cases q:b9 V op n args.length X.length aE.length with
  |false=>
   simp-implicitDefEqProofs [aq,q];exact ⟨oU T (by simp [eL,q]),d.trans g⟩
  |true=>
   simp-implicitDefEqProofs [aq,U,I,f,G,h,q,g.ld e3];refine ba ?_;simp-implicitDefEqProofs;refine (ih X vt rt H2 (by omega) (g.wf R) (S.ext g) i4 (g3.ext g) (g4.ext g)).mono ?_;rintro x H3 ⟨rfl,X3⟩;have p:=g.trans X3
   cases u:fv w V X with
   |false=>
    simp-implicitDefEqProofs [aq,u];exact ⟨oU T (by simp [eL,q,u]),d.trans p⟩
   |true=>
    simp-implicitDefEqProofs [aq,U,I,f,G,h,u,p.ld e4];refine ba ?_;simp-implicitDefEqProofs;refine (ih aE ve re H3 (by omega) (p.wf R) (S.ext p) i5 (g5.ext p) (g6.ext p)).mono ?_;rintro x H4 ⟨rfl,X4⟩;have KW:=p.trans X4
    cases K:fv w V aE with
    |false=>
     simp-implicitDefEqProofs [aq,K];exact ⟨oU T (by simp [eL,q,u,K]),d.trans KW⟩
    |true=>
     simp-implicitDefEqProofs [aq,K];obtain ⟨a3,c3,gg⟩:=g1.len;rw [C.length]at gg;refine dY (fun Y s H5=>Ext H4 H5∧∃j:Nat,j+Y=args.length∧s.get 0= .int .i64 w∧s.get 1=v∧s.get 2= .slice (some ⟨b,o,none⟩) l.length c∧s.get 7= .int .i64 i∧s.get 8= .int .i64 j∧∀e∈args.take j,gh w V 1 e=true) ?_ args.length ⟨Ext.refl _,0,by simp,by simp [U],by simp [I],by simp [f],by simp [G],by simp,by simp⟩;rintro Y s H5 ⟨X5,j,hj,B,A,P,M,L,oW⟩;have m:=KW.trans X5;have W:=m.ld e2;by_cases h2:j<args.length
     ·obtain ⟨y,Z⟩:∃y,args[j]?=some y:=⟨_,aqG h2⟩
      obtain ⟨r,Dv,mG⟩:=C.at Z;obtain ⟨b2,o2,c2,zw,xG⟩:=(g1.ext m).at Dv;rw [C.length]at zw;rw [zw]at W;simp-implicitDefEqProofs [aq,B,A,P,M,L,h,h2,W,xG];refine ba ?_;simp-implicitDefEqProofs [B,A];refine (Vl (k:=1) hV (m.wf R) (S.ext m) (mG.ext m)).mono ?_;rintro x H6 ⟨rfl,X6⟩
      cases J:gh w V 1 y with
      |true=>
       simp-implicitDefEqProofs [aq,B,A,P,M,L,J];rw [ai (n:=(j:Int)+1) ⟨by omega,by omega⟩];refine ⟨Y- 1,by omega,X5.trans X6,j+1,by omega,by simp,fun z a=>?_⟩;rw [aq1,Z]at a;rcases aq0.1 a with a|a
       ·exact oW z a
       ·simp at a;subst a;exact J
      |false=>
       simp-implicitDefEqProofs [aq,B,A,P,M,L,J];refine ⟨oU T ?_,d.trans (m.trans X6)⟩
       have:args.all (gh w V 1)=false:=by
        rw [List.all_eq_false];exact ⟨y,aqL Z,by simp [J]⟩
       simp only [eL,this,Bool.and_false]
     ·rw [gg]at W
      simp-implicitDefEqProofs [aq,B,A,P,M,L,h,h2,W];rw [ai (n:=(i:Int)+1) ⟨by omega,by omega⟩];rw [aqN (by omega)]at oW;refine ⟨k- 1,by omega,d.trans m,i+1,by omega,cx.symm,by simp,fun z a=>?_⟩;rw [aq1,Q]at a;rcases aq0.1 a with a|a
      ·exact aH z a
      ·simp at a
       subst a;have:args.all (gh w V 1)=true:=aqW.2 oW;simp only [eL,q,u,K,this,Bool.and_self]
end
section
open Go
structure bC where
 w:Int
 vars:List Vr
 body:List bh
structure p9 (H:AH) (c:List Value) (p:bC):Prop where
 is:∃vv vb rb,c=[.int .i64 p.w,vv,vb]∧jR p.w∧dh H vv p.vars∧nL p.vars∧Rows H 5 vb rb∧gN H rb p.body∧p.body.length<2^60
theorem p9.ext {H H':AH} (E:Ext H H') {c:List Value} {p:bC} (h:p9 H c p):p9 H' c p:=by
 obtain ⟨i,j,k,e,a,b,l,d,f,g⟩:=h.is;exact ⟨i,j,k,e,a,b.ext E,l,d.ext E,gN.ext E f,g⟩
theorem p9.len {H:AH} {c:List Value} {p:bC} (h:p9 H c p):c.length=3:=by
 obtain ⟨a,b,d,e,_⟩:=h.is;rw [e];rfl
def bw (p:bC):Bool:=aA p.w p.vars&&(decide (au p.body≤400)&&(decide (bk p.body 0≤16)&&fv p.w p.vars p.body))
theorem Qn {p:bC} {c:List Value} {H:AH} (a:H.n0≤H.nx) (A:p9 H c p):Ca E O 40 [.agg c.toArray] H (fun x H'=>x= .bool (bw p)∧Ext H H'):=by
 obtain ⟨vv,vb,s,rfl,hi,u,t,l,m,n⟩:=A.is;refine Ca.dx (F:=a40) rfl rfl rfl ?_;have f:=Ext.alloc H (.cells 3 [.int .i64 p.w,vv,vb]);have q:(H.alloc (.cells 3 [.int .i64 p.w,vv,vb])).ld ⟨H.nx,0,none⟩=some (.int .i64 p.w):=aj a rfl;have o:(H.alloc (.cells 3 [.int .i64 p.w,vv,vb])).ld ⟨H.nx,1,none⟩=some vv:=aj a rfl;have h:(H.alloc (.cells 3 [.int .i64 p.w,vv,vb])).ld ⟨H.nx,2,none⟩=some vb:=aj a rfl;generalize B:H.alloc (.cells 3 [.int .i64 p.w,vv,vb])=K at f q o h;simp-implicitDefEqProofs [a40,aq,B,q,o];refine ba ?_;simp-implicitDefEqProofs;refine (zT (f.wf a) (u.ext f) t p.w).mono ?_;rintro x J ⟨rfl,i⟩
 cases d:aA p.w p.vars with
 |false=>
  simp-implicitDefEqProofs [aq,d,bw];exact f.trans i
 |true=>
  have j:=f.trans i;simp-implicitDefEqProofs [aq,d,i.ld h];refine ba ?_;simp-implicitDefEqProofs;refine (xE (j.wf a) n (l.ext j) (m.ext j) (by omega)).mono ?_;rintro x G ⟨rfl,y⟩;have e:=j.trans y;have z:=i.trans y;by_cases g:au p.body≤400
  case neg=>
   simp-implicitDefEqProofs [aq,d,g,bw];exact e
  simp-implicitDefEqProofs [aq,g,z.ld h];refine ba ?_;simp-implicitDefEqProofs;refine (Dw _ p.body vb s G (aqV _) (e.wf a) n (l.ext e) (m.ext e) (by omega)).mono ?_;rintro x D ⟨rfl,v⟩;have b:=e.trans v;have r:=z.trans v;by_cases k:bk p.body 0≤16
  case neg=>
   simp-implicitDefEqProofs [aq,d,g,k,bw];exact b
  simp-implicitDefEqProofs [aq,k,r.ld q,r.ld o,r.ld h];refine ba ?_;simp-implicitDefEqProofs;refine (KV t.1 _ p.body vb s D (aqV _) (b.wf a) (u.ext b) n (l.ext b) (m.ext b)).mono ?_;rintro x I ⟨rfl,C⟩;simp-implicitDefEqProofs [aq,d,g,k,bw];exact b.trans C
open Go
theorem fb.ext {H H':AH} (E:Ext H H') {v:Value} {l:List Int} (h:fb H v l):fb H' v l:=Rows.ext E h
def bB (w:Int) (V:List Vr) (l:List Int):Bool:=decide ((l.length:Int)=cT (V.map (·.cells)))&&l.all (isWord w)
theorem Gd {w:Int} {v vs:Value} {V:List Vr} {l:List Int} {H:AH} (b:dh H v V) (g:V.length<2^60) (hs:fb H vs l) (e:l.length<2^60):
 Ca E O 14 [.int .i64 w,v,vs] H (fun x H'=>x= .bool (bB w V l)∧H'=H):=by
 refine Ca.dx (F:=Y6) rfl rfl rfl ?_;obtain ⟨k,i,d⟩:=hs.len;obtain ⟨j,h,c⟩:=b.len;have f:=F8 b g V.length (aqK _);have a:=F5 w vs l H hs e;rw [c,d]at*;simp-implicitDefEqProofs [Y6,aq];refine ba ?_;simp-implicitDefEqProofs;refine f.mono ?_;rintro x H' ⟨rfl,rfl⟩;rw [List.take_length];by_cases q:(l.length:Int)=cT (V.map (·.cells))
 case neg=>simp-implicitDefEqProofs [aq,q,bB]
 simp-implicitDefEqProofs [aq,q];refine ba ?_;simp-implicitDefEqProofs;refine a.mono ?_;rintro x m ⟨rfl,rfl⟩;simp-implicitDefEqProofs [aq,q,bB]
structure gA where
 store:List Int
 cd:List Int
structure xH (H:AH) (c:List Value) (s:gA):Prop where
 is:∃vs vp,c=[vs,vp]∧fb H vs s.store∧fb H vp s.cd∧s.store.length<2^60∧s.cd.length<2^60∧(∀n∈s.store,jR n)∧∀n∈s.cd,jR n
theorem xH.ext {H H':AH} (E:Ext H H') {c:List Value} {s:gA} (h:xH H c s):xH H' c s:=by
 obtain ⟨d,i,e,a,b,f,g⟩:=h.is;exact ⟨d,i,e,a.ext E,b.ext E,f,g⟩
def jg (p:bC) (s:gA):Bool:=bB p.w p.vars s.store&&(decide (s.cd.length≤16)&&s.cd.all (isWord p.w))
def gC (p:bC) (fuel:Int) (t:gA):Int:=if bw p=false then 30 else if fuel<0∨4096<fuel then 1 else if jg p t=false then 50 else 0
end
section
open Go
section
variable{E:Env} {O:jD} {ks:List Ko} {fr:Fr} {H:AH} {Q:Ex→Fr→AH→Prop}
def et (b:Bool):Value→Bool
 | .bool c=>c==b
 |_=>false
@[simp]theorem ZD (c:Bool):et true (.bool c)=c:=by cases c<;>rfl
@[simp]theorem ZE (c:Bool):et false (.bool c)= !c:=by cases c<;>rfl
@[simp]theorem ZF (b:Bool):et b undef=false:=rfl
def br (c a b:Prop):Prop:=(c→a)∧(¬ c→b)
@[congr]theorem Vq {c d a a' b b':Prop} (f:c=d) (h2:d→a=a') (e:¬ d→b=b'):br c a b=br d a' b':=by
 subst f;unfold br;exact propext ⟨fun k=>⟨fun h=>h2 h▸k.1 h,fun h=>e h▸k.2 h⟩,fun k=>⟨fun h=>(h2 h).symm▸k.1 h,fun h=>(e h).symm▸k.2 h⟩⟩
@[simp]theorem Qo (a b:Prop):br True a b=a:=propext ⟨fun h=>h.1 trivial,fun h=>⟨fun _=>h,fun k=>(k trivial).elim⟩⟩
@[simp]theorem Qp (a b:Prop):br False a b=b:=propext ⟨fun h=>h.2 id,fun h=>⟨fun k=>k.elim,fun _=>h⟩⟩
@[simp]theorem ah8 (c:Prop):br c True True=True:=propext ⟨fun _=>trivial,fun _=>⟨fun _=>trivial,fun _=>trivial⟩⟩
theorem zY {c a b:Prop} (h:c→a) (k:¬ c→b):br c a b:=⟨h,k⟩
theorem mI (t:Nat) (b:Bool) (d:Option Nat) (p:cv):(AO.mk (some (t,b)) d p).wanted fr=et b (fr.get t):=by
 unfold AO.wanted et;simp only;split<;>rename_i h<;>simp_all
theorem adU (t:Nat) (b:Bool) (d:Option Nat) (p:cv) (l:List AO):Wr E O (⟨some (t,b),d,p⟩::l) ks fr H Q↔
 br (et b (fr.get t)=true) (Wr E O (⟨none,d,p⟩::l) ks fr H Q) (Wr E O l ks (fr.aO d undef) H Q):=by
 by_cases a:et b (fr.get t)=true
 ·simp only [a,Qo]
  exact UK _ _ _ (by unfold et at a;split at a<;>simp_all)
 ·simp only [a]
  rw [show(false=true)=False by simp,Qp];exact zM _ _ _ (by intro h;rw [h]at a;simp [et]at a)
theorem adV {c:List AO} {ck:List (Nat×Nat×Nat)} {acc:List (Fr×AH)} (t:Nat) (b:Bool) (d:Option Nat) (p:cv) (l:List AO):Wd E O c ck acc (⟨some (t,b),d,p⟩::l) ks fr H Q↔
 br (et b (fr.get t)=true) (Wd E O c ck acc (⟨none,d,p⟩::l) ks fr H Q) (Wd E O c ck ((fr.aO d undef,H)::acc) l ks (fr.aO d undef) H Q):=by
 by_cases a:et b (fr.get t)=true
 ·simp only [a,Qo]
  exact UL _ _ _ (by unfold et at a;split at a<;>simp_all)
 ·simp only [a]
  rw [show(false=true)=False by simp,Qp];exact zN _ _ _ (by intro h;rw [h]at a;simp [et]at a)
@[simp]theorem Tj (f:Fr) (d:Nat) (v:Value):f.aO (some d) v=f.put d v:=rfl
@[simp]theorem Tk (f:Fr) (v:Value):f.aO none v=f:=rfl
def Ge:Value→Bool
 | .bool _=>true
 |_=>false
@[simp]theorem adW (c:Bool):Ge (.bool c)=true:=rfl
theorem adX {x:X} {a b:AC}:Wk E O (.cond x a b) ks fr H Q↔Ge (x.ev fr)=true∧br (et true (x.ev fr)=true) (Wk E O a ks fr H Q) (Wk E O b ks fr H Q):=by
 cases d:x.ev fr with
 |bool c=>
  cases c
  ·simp [FM d]
  ·simp [FL d]
 |_=>
  refine ⟨?_,fun h=>by simp [Ge]at h⟩;rintro ⟨n,ex,f,g,e,q⟩
  cases n with
  |zero=>simp [aD]at e
  |succ n=>
   rw [aD,d]at e;cases e
end
structure Mod (S:Nat→Prop) (H H':AH):Prop where
 n0:H'.n0=H.n0
 nx:H.nx≤H'.nx
 old:∀b,b<H.nx→¬ S b→H'.get b=H.get b
theorem Mod.refl (S:Nat→Prop) (H:AH):Mod S H H:=⟨rfl,aqK _,fun _ _ _=>rfl⟩
theorem Mod.trans {S:Nat→Prop} {a b c:AH} (h:Mod S a b) (k:Mod S b c):Mod S a c:=⟨k.n0.trans h.n0,aq2 h.nx k.nx,fun x d e=>(k.old x (aq3 d h.nx) e).trans (h.old x d e)⟩
theorem Mod.bT {S:Nat→Prop} {a b:AH} (h:Ext a b):Mod S a b:=⟨h.n0,h.nx,fun x c _=>h.old x c⟩
theorem Mod.mono {S T:Nat→Prop} {a b:AH} (h:Mod S a b) (k:∀x,x<a.nx→S x→T x):Mod T a b:=⟨h.n0,h.nx,fun x c d=>h.old x c fun e=>d (k x c e)⟩
theorem Ext.mod {S:Nat→Prop} {a b c:AH} (h:Ext a b) (k:Mod S b c) (hs:∀x,S x→a.nx≤x):Ext a c:=⟨k.n0.trans h.n0,aq2 h.nx k.nx,fun x d=>(k.old x (aq3 d h.nx) (fun q=>absurd (hs x q) (Nat.not_le.2 d))).trans (h.old x d)⟩
theorem Mod.get {S:Nat→Prop} {a b:AH} (h:Mod S a b) {x:Nat} (hs:¬ S x) {y:pP} (k:a.get x=some y):b.get x=some y:=by rw [h.old x (AH.aS k) hs];exact k
theorem Mod.ldn {S:Nat→Prop} {H H':AH} (h:Mod S H H') {a:Addr} {n:Nat} {vs:List Value} (hs:¬ S a.block) (k:H.ldn a n=some vs):H'.ldn a n=some vs:=by
 obtain ⟨x,b⟩:=arj.1 (db k).1;rw [←k];exact eR (h.old _ (AH.aS b) hs) h.n0
theorem Mod.ld {S:Nat→Prop} {H H':AH} (h:Mod S H H') {a:Addr} {v:Value} (hs:¬ S a.block) (k:H.ld a=some v):H'.ld a=some v:=bo.2 (h.ldn hs (bo.1 k))
theorem Mod.wf {S:Nat→Prop} {H H':AH} (h:Mod S H H') (w:H.n0≤H.nx):H'.n0≤H'.nx:=by rw [h.n0];exact aq2 w h.nx
theorem bR {H:AH} {b z k:Nat} {c vs:List Value} (d:H.get b=some (.cells z c)) (h:H.n0≤b) (g:k+vs.length≤c.length):
 ∃a,H.st ⟨b,k,none⟩ vs=some a∧Mod (fun x=>x=b) H a∧a.nx=H.nx∧a.n0=H.n0∧a.get b=some (.cells z (aJ c k vs)):=by
 have e:=AH.aS d;refine ⟨H.put b (some (.cells z (aJ c k vs))),?_,⟨rfl,aqK _,fun x i f=>?_⟩,rfl,rfl,?_⟩
 ·unfold AH.st
  simp [d,h,g]
 ·rw [AH.bG _ _ _ _ e,if_neg f]
 ·rw [AH.bG _ _ _ _ e,if_pos rfl]
theorem iK {H:AH} (w:H.n0≤H.nx) {z:Nat} {c vs:List Value} (i:vs.length=c.length):
 ∃a,(H.alloc (.cells z c)).st ⟨H.nx,0,none⟩ vs=some a∧Ext H a∧a.nx=H.nx+1∧a.n0=H.n0∧a.get H.nx=some (.cells z vs):=by
 have d:(H.alloc (.cells z c)).get H.nx=some (.cells z c):=by rw [AH.dF,if_pos rfl]
 obtain ⟨a,h,h2,g,f,b⟩:=bR d w (k:=0) (vs:=vs) (by omega)
 have e:aJ c 0 vs=vs:=by
  have:aJ c 0 vs=vs++c.drop vs.length:=by cases c<;>rfl
  rw [this,List.drop_eq_nil_of_le (by omega)];simp
 rw [e]at b;exact ⟨a,h,(Ext.alloc H _).mod h2 (by rintro x rfl;exact aqK _),g,f,b⟩
theorem bH {H:AH} {b z k n:Nat} {c:List Value} (d:H.get b=some (.cells z c)) (e:H.n0≤b) (a:k+n≤c.length):H.ldn ⟨b,k,none⟩ n=some ((c.drop k).take n):=by
 unfold AH.ldn;have:¬ b<H.n0:=Nat.not_lt.2 e;simp [d,a,this]
theorem aG {H:AH} {b z k:Nat} {c:List Value} {v:Value} (d:H.get b=some (.cells z c)) (e:H.n0≤b) (a:c[k]?=some v):H.ld ⟨b,k,none⟩=some v:=by
 unfold AH.ld;have:¬ b<H.n0:=Nat.not_lt.2 e;simp [d,a,this]
theorem cq (H:AH) (x:pP):(H.alloc x).get H.nx=some x:=by rw [AH.dF,if_pos rfl]
end
section
open Go
section
variable{E:Env} {O:jD} {ks:List Ko} {fr:Fr} {H:AH} {Q:Ex→Fr→AH→Prop}
inductive Md where
 |pl
 |dr (l0:List AO) (ck:List (Nat×Nat×Nat)) (acc:List (Fr×AH))
def Md.up:Md→Fr→AH→Md
 | .pl,_,_=>.pl
 | .dr l0 ck acc,fr,H=>.dr l0 ck ((fr,H)::acc)
@[simp]theorem ah9:Md.up .pl fr H= .pl:=rfl
@[simp]theorem aia (a:List AO) (ck:List (Nat×Nat×Nat)) (acc:List (Fr×AH)):Md.up (.dr a ck acc) fr H= .dr a ck ((fr,H)::acc):=rfl
def Vx (E:Env) (O:jD) (m:Md) (l:List AO) (ks:List Ko) (fr:Fr) (H:AH) (Q:Ex→Fr→AH→Prop):Prop:=match m with
 | .pl=>Wr E O l ks fr H Q
 | .dr l0 ck acc=>Wd E O l0 ck acc l ks fr H Q
def Vk (E:Env) (O:jD) (c:AC) (ks:List Ko) (fr:Fr) (H:AH) (Q:Ex→Fr→AH→Prop):Prop:=Wk E O c ks fr H Q
def Vn (E:Env) (O:jD) (ex:Ex) (ks:List Ko) (fr:Fr) (H:AH) (Q:Ex→Fr→AH→Prop):Prop:=Un E O ex ks fr H Q
@[simp]theorem adY (ex:Ex):Vn E O ex [] fr H Q=Q ex fr H:=FJ _
@[simp]theorem aib (b:AC):Vn E O .normal (.seq b::ks) fr H Q=Vk E O b ks fr H Q:=rfl
@[simp]theorem aic (i:Nat):Vn E O .normal (.aR i::ks) fr H Q=Vn E O .normal ks fr H Q:=rfl
@[simp]theorem aid (j:Nat) (b:AC):Vn E O (.exit j) (.seq b::ks) fr H Q=Vn E O (.exit j) ks fr H Q:=rfl
@[simp]theorem adZ (i:Nat):Vn E O (.exit i) (.aR i::ks) fr H Q=Vn E O .normal ks fr H Q:=PM _
@[simp]theorem al3 (k:Ko):Vn E O .ret (k::ks) fr H Q=Vn E O .ret ks fr H Q:=ab9 _
@[simp]theorem ZG:Vk E O .skip ks fr H Q↔Vn E O .normal ks fr H Q:=J8
@[simp]theorem ad0:Vk E O .ret ks fr H Q↔Vn E O .ret ks fr H Q:=PN
@[simp]theorem ZH (i:Nat):Vk E O (.exit i) ks fr H Q↔Vn E O (.exit i) ks fr H Q:=J9 _
@[simp]theorem ad1 (l:List AO):Vk E O (.bI l) ks fr H Q↔Vx E O .pl l ks fr H Q:=PQ _
@[simp]theorem ad2 (a b:AC):Vk E O (.seq a b) ks fr H Q↔Vk E O a (.seq b::ks) fr H Q:=PR _ _
@[simp]theorem Vs (i:Nat) (a:AC):Vk E O (.block i a) ks fr H Q↔Vk E O a (.aR i::ks) fr H Q:=FK _ _
theorem ad3 {x:X} {a b:AC}:Vk E O (.cond x a b) ks fr H Q↔Ge (x.ev fr)=true∧br (et true (x.ev fr)=true) (Vk E O a ks fr H Q) (Vk E O b ks fr H Q):=adX
@[simp]theorem ZI (l:List AO) (ck:List (Nat×Nat×Nat)):Vk E O (.bJ l ck) ks fr H Q↔Vx E O (.dr l ck [(fr,H)]) l ks fr H Q:=by
 refine ⟨?_,fun h=>oL _ _ h⟩;rintro ⟨n,ex,c,d,e,q⟩
 cases n with
 |zero=>simp [aD]at e
 |succ n=>
  simp only [aD,wZ]at e
  cases b:jN (fk E O (n+1)) l fr H with
  |none=>simp [b]at e
  |some a=>
   simp only [b]at e
   cases h2:chain ((fr,H)::a)&&ck.all (j7 l ((fr,H)::a))with
   |false=>simp [h2]at e
   |true=>
    simp only [h2,cond_true,aqH,aqO]at e;obtain ⟨rfl,rfl,rfl⟩:=e;refine ⟨n+1,a,b,?_,q⟩;unfold tS
    simpa using h2
@[simp]theorem ad4:Vx E O .pl [] ks fr H Q↔Vn E O .normal ks fr H Q:=PT
@[simp]theorem ZJ {a:List AO} {ck:List (Nat×Nat×Nat)} {acc:List (Fr×AH)}:Vx E O (.dr a ck acc) [] ks fr H Q↔tS a ck acc=true∧Vn E O .normal ks fr H Q:=PU
theorem ad5 {m:Md} (t:Nat) (b:Bool) (d:Option Nat) (p:cv) (l:List AO):Vx E O m (⟨some (t,b),d,p⟩::l) ks fr H Q↔
 br (et b (fr.get t)=true) (Vx E O m (⟨none,d,p⟩::l) ks fr H Q) (Vx E O (m.up (fr.aO d undef) H) l ks (fr.aO d undef) H Q):=by
 cases m
 ·exact adU _ _ _ _ _
 ·exact adV _ _ _ _ _
def CV (E:Env) (O:jD) (v:Value) (a b:AC) (ks:List Ko) (fr:Fr) (H:AH) (Q:Ex→Fr→AH→Prop):Prop:=
 Ge v=true∧br (et true v=true) (Vk E O a ks fr H Q) (Vk E O b ks fr H Q)
@[simp]theorem aie {x:X} {a b:AC}:Vk E O (.cond x a b) ks fr H Q↔CV E O (x.ev fr) a b ks fr H Q:=ad3
variable{a b:AC}
@[simp]theorem al4:CV E O (.bool true) a b ks fr H Q↔Vk E O a ks fr H Q:=by simp [CV]
@[simp]theorem al5:CV E O (.bool false) a b ks fr H Q↔Vk E O b ks fr H Q:=by simp [CV]
@[simp]theorem al6 (c:Prop) [Decidable c]:CV E O (.bool (decide c)) a b ks fr H Q↔br c (Vk E O a ks fr H Q) (Vk E O b ks fr H Q):=by simp [CV]
@[simp]theorem al7 (c:Bool):CV E O (.bool (!c)) a b ks fr H Q↔CV E O (.bool c) b a ks fr H Q:=by cases c<;>simp
def GV (E:Env) (O:jD) (v:Value) (b:Bool) (m:Md) (d:Option Nat) (p:cv) (l:List AO) (ks:List Ko) (fr:Fr) (H:AH) (Q:Ex→Fr→AH→Prop):Prop:=
 br (et b v=true) (Vx E O m (⟨none,d,p⟩::l) ks fr H Q) (Vx E O (m.up (fr.aO d undef) H) l ks (fr.aO d undef) H Q)
@[simp]theorem aif {m:Md} (t:Nat) (b:Bool) (d:Option Nat) (p:cv) (l:List AO):Vx E O m (⟨some (t,b),d,p⟩::l) ks fr H Q↔GV E O (fr.get t) b m d p l ks fr H Q:=ad5 _ _ _ _ _
section
variable{m:Md} {d:Option Nat} {p:cv} {l:List AO}
@[simp]theorem aih:GV E O (.bool true) true m d p l ks fr H Q↔Vx E O m (⟨none,d,p⟩::l) ks fr H Q:=by simp [GV]
@[simp]theorem aii:GV E O (.bool false) false m d p l ks fr H Q↔Vx E O m (⟨none,d,p⟩::l) ks fr H Q:=by simp [GV]
@[simp]theorem aij:GV E O (.bool true) false m d p l ks fr H Q↔Vx E O (m.up (fr.aO d undef) H) l ks (fr.aO d undef) H Q:=by simp [GV]
@[simp]theorem aik:GV E O (.bool false) true m d p l ks fr H Q↔Vx E O (m.up (fr.aO d undef) H) l ks (fr.aO d undef) H Q:=by simp [GV]
@[simp]theorem al8 (b:Bool):GV E O undef b m d p l ks fr H Q↔Vx E O (m.up (fr.aO d undef) H) l ks (fr.aO d undef) H Q:=by simp [GV]
@[simp]theorem ail (c:Prop) [Decidable c]:GV E O (.bool (decide c)) true m d p l ks fr H Q↔br c (Vx E O m (⟨none,d,p⟩::l) ks fr H Q) (Vx E O (m.up (fr.aO d undef) H) l ks (fr.aO d undef) H Q):=by simp [GV]
@[simp]theorem aim (c:Prop) [Decidable c]:GV E O (.bool (decide c)) false m d p l ks fr H Q↔br c (Vx E O (m.up (fr.aO d undef) H) l ks (fr.aO d undef) H Q) (Vx E O m (⟨none,d,p⟩::l) ks fr H Q):=by
 by_cases h:c<;>simp [h]
@[simp]theorem ain (c:Bool):GV E O (.bool (!c)) true m d p l ks fr H Q↔GV E O (.bool c) false m d p l ks fr H Q:=by cases c<;>simp
@[simp]theorem aio (c:Bool):GV E O (.bool (!c)) false m d p l ks fr H Q↔GV E O (.bool c) true m d p l ks fr H Q:=by cases c<;>simp
end
theorem ad6 (c:Bool):CV E O (.bool c) a b ks fr H Q↔br (c=true) (Vk E O a ks fr H Q) (Vk E O b ks fr H Q):=by simp [CV]
@[simp]theorem Vt (x y:ByteArray):CV E O (.bool (bN x y)) a b ks fr H Q↔br (bN x y=true) (Vk E O a ks fr H Q) (Vk E O b ks fr H Q):=ad6 _
theorem Gf {m:Md} (d:Nat) (p:cv) (l:List AO) (h:p.aV=false):Vx E O m (⟨none,some d,p⟩::l) ks fr H Q↔
 Bu (aq p (X.ev fr) H)=true∧Vx E O (m.up (fr.put d (valOf (aq p (X.ev fr) H))) (fO H (aq p (X.ev fr) H))) l ks (fr.put d (valOf (aq p (X.ev fr) H))) (fO H (aq p (X.ev fr) H)) Q:=by
 cases m
 ·exact aca _ _ _ h
 ·exact acd _ _ _ h
theorem Vu {m:Md} (p:cv) (l:List AO) (h:p.aV=false):Vx E O m (⟨none,none,p⟩::l) ks fr H Q↔
 Bu (aq p (X.ev fr) H)=true∧Vx E O (m.up fr (fO H (aq p (X.ev fr) H))) l ks fr (fO H (aq p (X.ev fr) H)) Q:=by
 cases m
 ·exact acb _ _ h
 ·exact ace _ _ h
theorem dU {m:Md} {d:Nat} {p:cv} {l:List AO} (h:p.aV=false) {r:Option Value} (e:aq p (X.ev fr) H=r.map fun v=>(.v v,H)):Vx E O m (⟨none,some d,p⟩::l) ks fr H Q↔
 r.isSome=true∧Vx E O (m.up (fr.put d (r.getD undef)) H) l ks (fr.put d (r.getD undef)) H Q:=by
 rw [Gf _ _ _ h,e];cases r<;>simp [Bu]
def xI:Value→Value→Value→Option Value
 | .bool t,a,b=>some (bif t then a else b)
 |_,_,_=>none
@[simp]theorem ZK (t:Bool) (a b:Value):xI (.bool t) a b=some (bif t then a else b):=rfl
def Tl (H:AH):Value→Option Value
 | .pointer (some a)=>H.ld a
 |_=>none
@[simp]theorem aip (a:Addr):Tl H (.pointer (some a))=H.ld a:=rfl
def tW (n:Nat) (H:AH):Value→Option Value
 | .pointer (some a)=>(H.ldn a n).map fun l=>.agg l.toArray
 |_=>none
@[simp]theorem Qq (n:Nat) (a:Addr):tW n H (.pointer (some a))=(H.ldn a n).map fun l=>.agg l.toArray:=rfl
def Gg (n:Nat) (H:AH):Value→Value→Option AH
 | .pointer (some a),v=>bif Nat.beq (aT v).length n&& !cC v then H.st a (aT v)else none
 |_,_=>none
@[simp]theorem Vv (n:Nat) (a:Addr) (v:Value):Gg n H (.pointer (some a)) v=if(aT v).length=n∧cC v=false then H.st a (aT v)else none:=by
 unfold Gg;simp only [nb,Bool.cond_eq_ite,aqJ,aqS,Bool.not_eq_true']
@[simp]theorem sG (k:IntKind) (n:Int):aT (.int k n)=[.int k n]:=rfl
@[simp]theorem NU (b:Bool):aT (.bool b)=[.bool b]:=rfl
@[simp]theorem Jt (b:ByteArray):aT (.string b)=[.string b]:=rfl
@[simp]theorem KX (a:Option Addr) (n c:Nat):aT (.slice a n c)=[.slice a n c]:=rfl
@[simp]theorem Gi (a:Option Addr):aT (.pointer a)=[.pointer a]:=rfl
@[simp]theorem Qr (a:Option Nat):aT (.map a)=[.map a]:=rfl
@[simp]theorem NV (f:Fn) (a b:Array Value):aT (.func f a b)=[.func f a b]:=rfl
@[simp]theorem Gj:aT .nilFunc=[.nilFunc]:=rfl
@[simp]theorem Tm (k:IntKind) (n:Int):cC (.int k n)=false:=rfl
@[simp]theorem Qs (b:Bool):cC (.bool b)=false:=rfl
@[simp]theorem KY (b:ByteArray):cC (.string b)=false:=rfl
@[simp]theorem NW (a:Option Addr) (n c:Nat):cC (.slice a n c)=false:=rfl
@[simp]theorem Ju (a:Option Addr):cC (.pointer a)=false:=rfl
@[simp]theorem Tn (a:Option Nat):cC (.map a)=false:=rfl
@[simp]theorem Qt (f:Fn) (a b:Array Value):cC (.func f a b)=false:=rfl
@[simp]theorem Jv:cC .nilFunc=false:=rfl
def ur:Value→Option Value
 | .pointer (some a)=>some (.pointer (some a))
 |_=>none
@[simp]theorem ZL (a:Addr):ur (.pointer (some a))=some (.pointer (some a)):=rfl
def Gk (k:IntKind):Value→Option Value
 | .int _ n=>some (.int k (k.wrap n))
 |_=>none
@[simp]theorem ad7 (k c:IntKind) (n:Int):Gk k (.int c n)=some (.int k (k.wrap n)):=rfl
def Vw:Value→Option Value
 | .int _ n=>some (.string (Utf8.encode n))
 |_=>none
@[simp]theorem ad8 (c:IntKind) (n:Int):Vw (.int c n)=some (.string (Utf8.encode n)):=rfl
def NX (off:Nat):Value→Option Value
 | .pointer (some a)=>bif a.spot.isNone then some (.pointer (some ⟨a.block,a.off+off,none⟩))else none
 |_=>none
@[simp]theorem aiq (off b o:Nat):NX off (.pointer (some ⟨b,o,none⟩))=some (.pointer (some ⟨b,o+off,none⟩)):=rfl
def NY (sz:Nat):Value→Value→Option Value
 | .slice (some a) len _,.int _ n=>if 0≤n∧n<len then(bif a.spot.isNone then some (.pointer (some ⟨a.block,a.off+n.toNat*sz,none⟩))else none)else none
 |_,_=>none
@[simp]theorem NZ (sz b o len c:Nat) (k:IntKind) (n:Int):NY sz (.slice (some ⟨b,o,none⟩) len c) (.int k n)=if 0≤n∧n<len then some (.pointer (some ⟨b,o+n.toNat*sz,none⟩))else none:=rfl
def xJ (len sz:Nat):Value→Value→Option Value
 | .pointer (some a),.int _ n=>if 0≤n∧n<len then(bif a.spot.isNone then some (.pointer (some ⟨a.block,a.off+n.toNat*sz,none⟩))else none)else none
 |_,_=>none
@[simp]theorem Gl (sz b o len:Nat) (k:IntKind) (n:Int):xJ len sz (.pointer (some ⟨b,o,none⟩)) (.int k n)=if 0≤n∧n<len then some (.pointer (some ⟨b,o+n.toNat*sz,none⟩))else none:=rfl
def Ew:Value→Value→Option Value
 | .string s,.int _ n=>if 0≤n then(match s[n.toNat]? with|some b=>some (.int .u8 b.toNat)|none=>none)else none
 |_,_=>none
theorem N0 {s:ByteArray} {k:IntKind} {n:Nat} (h:n<s.size):Ew (.string s) (.int k n)=some (.int .u8 (cH s n)):=by
 have:s[n]?=some s[n]:=getElem?_pos s n h;simp only [Ew,Int.toNat_natCast];rw [if_pos (by omega),this];unfold cH;rw [this];rfl
def xK:Value→Nat→Option Value
 | .tuple vs,i=>vs.toList[i]?
 |_,_=>none
@[simp]theorem ad9 (vs:Array Value) (i:Nat):xK (.tuple vs) i=vs.toList[i]?:=rfl
def sI:Value→Option Value
 | .string s=>some (.int .i64 s.size)
 |_=>none
@[simp]theorem ZM (s:ByteArray):sI (.string s)=some (.int .i64 s.size):=rfl
def sJ:Value→Option Value
 | .slice _ n _=>some (.int .i64 n)
 |_=>none
@[simp]theorem ZN (a:Option Addr) (n c:Nat):sJ (.slice a n c)=some (.int .i64 n):=rfl
def Gm (k:Nat) (neg:Bool) (x y:Value):Option Value:=(gL k x y).map fun b=>.bool (bif neg then !b else b)
@[simp]theorem air (neg a b:Bool):Gm 0 neg (.bool a) (.bool b)=some (.bool (bif neg then !(a==b)else(a==b))):=rfl
@[simp]theorem aea (neg:Bool) (b:Option Addr):Gm 1 neg (.pointer none) (.pointer b)=some (.bool (bif neg then !b.isNone else b.isNone)):=rfl
@[simp]theorem aeb (neg:Bool) (b:Addr):Gm 1 neg (.pointer (some b)) (.pointer none)=some (.bool neg):=by cases neg<;>rfl
@[simp]theorem aec (neg:Bool) (n c d e:Nat) (b:Option Addr):Gm 2 neg (.slice none n c) (.slice b d e)=some (.bool (bif neg then !b.isNone else b.isNone)):=rfl
@[simp]theorem aed (neg:Bool) (n c d e:Nat) (b:Addr):Gm 2 neg (.slice (some b) n c) (.slice none d e)=some (.bool neg):=by cases neg<;>rfl
@[simp]theorem aee (neg:Bool) (f:Fn) (a b:Array Value):Gm 3 neg (.func f a b) .nilFunc=some (.bool neg):=by cases neg<;>rfl
@[simp]theorem aef (neg:Bool) (b:Option Nat):Gm 4 neg (.map none) (.map b)=some (.bool (bif neg then !b.isNone else b.isNone)):=rfl
def KZ (neg:Bool) (offs:List (Nat×Nat)):Value→Value→Option Value
 | .agg cs,.agg ds=>(dP cs.toList ds.toList offs).map fun b=>.bool (bif neg then !b else b)
 |_,_=>none
@[simp]theorem aeg (neg:Bool) (offs:List (Nat×Nat)) (cs ds:Array Value):KZ neg offs (.agg cs) (.agg ds)=(dP cs.toList ds.toList offs).map fun b=>.bool (bif neg then !b else b):=rfl
def iE (kk:Nat) (z:Value) (H:AH) (x k:Value) (ok:Bool):Option Value:=
 match x with
 | .map none=>bif cw kk k then some (bif ok then .tuple #[z, .bool false]else z)else none
 | .map (some r)=>match H.get r with
   |some (.map es)=>bif cw kk k&&decide (H.n0≤r)then(match fI k es with
    |some (some v)=>some (bif ok then .tuple #[v, .bool true]else v)
    |some none=>some (bif ok then .tuple #[z, .bool false]else z)
    |none=>none)else none
   |_=>none
 |_=>none
section
variable{m:Md} {l:List AO} (d:Nat)
@[simp]theorem ais (x:X):Vx E O m (⟨none,some d,.mv x⟩::l) ks fr H Q↔Vx E O (m.up (fr.put d (x.ev fr)) H) l ks (fr.put d (x.ev fr)) H Q:=by
 rw [dU (r:=some (x.ev fr)) rfl rfl];simp
@[simp]theorem ZO (c a b:X):Vx E O m (⟨none,some d,.pick c a b⟩::l) ks fr H Q↔(xI (c.ev fr) (a.ev fr) (b.ev fr)).isSome=true∧Vx E O (m.up (fr.put d ((xI (c.ev fr) (a.ev fr) (b.ev fr)).getD undef)) H) l ks (fr.put d ((xI (c.ev fr) (a.ev fr) (b.ev fr)).getD undef)) H Q:=
 dU rfl (by simp only [aq];cases c.ev fr<;>rfl)
@[simp]theorem ait (x:X):Vx E O m (⟨none,some d,.ld x⟩::l) ks fr H Q↔(Tl H (x.ev fr)).isSome=true∧Vx E O (m.up (fr.put d ((Tl H (x.ev fr)).getD undef)) H) l ks (fr.put d ((Tl H (x.ev fr)).getD undef)) H Q:=
 dU rfl (by
  simp only [aq]
  cases x.ev fr with
  |pointer a=>cases a<;>rfl
  |_=>rfl)
@[simp]theorem aeh (n:Nat) (x:X):Vx E O m (⟨none,some d,.ldn n x⟩::l) ks fr H Q↔(tW n H (x.ev fr)).isSome=true∧Vx E O (m.up (fr.put d ((tW n H (x.ev fr)).getD undef)) H) l ks (fr.put d ((tW n H (x.ev fr)).getD undef)) H Q:=
 dU rfl (by
  simp only [aq]
  cases x.ev fr with
  |pointer a=>
   cases a with
   |none=>rfl
   |some a=>simp only [tW];cases H.ldn a n<;>rfl
  |_=>rfl)
@[simp]theorem ZP (x:X):Vx E O m (⟨none,some d,.aZ x⟩::l) ks fr H Q↔(ur (x.ev fr)).isSome=true∧Vx E O (m.up (fr.put d ((ur (x.ev fr)).getD undef)) H) l ks (fr.put d ((ur (x.ev fr)).getD undef)) H Q:=
 dU rfl (by
  simp only [aq]
  cases x.ev fr with
  |pointer a=>cases a<;>rfl
  |_=>rfl)
@[simp]theorem aei (op:BinOp) (x y:X):Vx E O m (⟨none,some d,.bin op x y⟩::l) ks fr H Q↔(cj op (x.ev fr) (y.ev fr)).isSome=true∧Vx E O (m.up (fr.put d ((cj op (x.ev fr) (y.ev fr)).getD undef)) H) l ks (fr.put d ((cj op (x.ev fr) (y.ev fr)).getD undef)) H Q:=
 dU rfl rfl
@[simp]theorem aej (k:Nat) (neg:Bool) (x y:X):Vx E O m (⟨none,some d,.eqk k neg x y⟩::l) ks fr H Q↔(Gm k neg (x.ev fr) (y.ev fr)).isSome=true∧Vx E O (m.up (fr.put d ((Gm k neg (x.ev fr) (y.ev fr)).getD undef)) H) l ks (fr.put d ((Gm k neg (x.ev fr) (y.ev fr)).getD undef)) H Q:=
 dU rfl (by simp only [aq,Gm];cases gL k (x.ev fr) (y.ev fr)<;>rfl)
@[simp]theorem aiu (op:UnOp) (x:X):Vx E O m (⟨none,some d,.un op x⟩::l) ks fr H Q↔(EL op (x.ev fr)).isSome=true∧Vx E O (m.up (fr.put d ((EL op (x.ev fr)).getD undef)) H) l ks (fr.put d ((EL op (x.ev fr)).getD undef)) H Q:=
 dU rfl rfl
@[simp]theorem aek (k:IntKind) (x:X):Vx E O m (⟨none,some d,.nk k x⟩::l) ks fr H Q↔(Gk k (x.ev fr)).isSome=true∧Vx E O (m.up (fr.put d ((Gk k (x.ev fr)).getD undef)) H) l ks (fr.put d ((Gk k (x.ev fr)).getD undef)) H Q:=
 dU rfl (by simp only [aq];cases x.ev fr<;>rfl)
@[simp]theorem aiv (off:Nat) (x:X):Vx E O m (⟨none,some d,.fa off x⟩::l) ks fr H Q↔(NX off (x.ev fr)).isSome=true∧Vx E O (m.up (fr.put d ((NX off (x.ev fr)).getD undef)) H) l ks (fr.put d ((NX off (x.ev fr)).getD undef)) H Q:=
 dU rfl (by
  simp only [aq]
  cases x.ev fr with
  |pointer a=>
   cases a with
   |none=>rfl
   |some a=>simp only [NX];cases a.spot.isNone<;>rfl
  |_=>rfl)
@[simp]theorem aiw (sz:Nat) (x i:X):Vx E O m (⟨none,some d,.ia sz x i⟩::l) ks fr H Q↔(NY sz (x.ev fr) (i.ev fr)).isSome=true∧Vx E O (m.up (fr.put d ((NY sz (x.ev fr) (i.ev fr)).getD undef)) H) l ks (fr.put d ((NY sz (x.ev fr) (i.ev fr)).getD undef)) H Q:=
 dU rfl (by
  simp only [aq]
  cases x.ev fr with
  |slice a len c=>
   cases a with
   |none=>rfl
   |some a=>
    cases i.ev fr<;>first
     |rfl
     |(simp only [NY];split<;>first|rfl|(cases a.spot.isNone<;>rfl))
  |_=>rfl)
@[simp]theorem ael (len sz:Nat) (x i:X):Vx E O m (⟨none,some d,.qx len sz x i⟩::l) ks fr H Q↔(xJ len sz (x.ev fr) (i.ev fr)).isSome=true∧Vx E O (m.up (fr.put d ((xJ len sz (x.ev fr) (i.ev fr)).getD undef)) H) l ks (fr.put d ((xJ len sz (x.ev fr) (i.ev fr)).getD undef)) H Q:=
 dU rfl (by
  simp only [aq]
  cases x.ev fr with
  |pointer a=>
   cases a with
   |none=>rfl
   |some a=>
    cases i.ev fr<;>first
     |rfl
     |(simp only [xJ];split<;>first|rfl|(cases a.spot.isNone<;>rfl))
  |_=>rfl)
@[simp]theorem aix (x i:X):Vx E O m (⟨none,some d,.ix x i⟩::l) ks fr H Q↔(Ew (x.ev fr) (i.ev fr)).isSome=true∧Vx E O (m.up (fr.put d ((Ew (x.ev fr) (i.ev fr)).getD undef)) H) l ks (fr.put d ((Ew (x.ev fr) (i.ev fr)).getD undef)) H Q:=
 dU rfl (by
  simp only [aq]
  cases x.ev fr with
  |string s=>
   cases i.ev fr<;>first
    |rfl
    |(simp only [Ew];rename_i n;cases s[n.toNat]?<;>(split<;>rfl))
  |_=>rfl)
@[simp]theorem aem (x:X) (i:Nat):Vx E O m (⟨none,some d,.ext x i⟩::l) ks fr H Q↔(xK (x.ev fr) i).isSome=true∧Vx E O (m.up (fr.put d ((xK (x.ev fr) i).getD undef)) H) l ks (fr.put d ((xK (x.ev fr) i).getD undef)) H Q:=
 dU rfl (by
  simp only [aq]
  cases x.ev fr with
  |tuple c=>simp only [xK];cases c.toList[i]?<;>rfl
  |_=>rfl)
@[simp]theorem ZQ (x:X):Vx E O m (⟨none,some d,.lens x⟩::l) ks fr H Q↔(sI (x.ev fr)).isSome=true∧Vx E O (m.up (fr.put d ((sI (x.ev fr)).getD undef)) H) l ks (fr.put d ((sI (x.ev fr)).getD undef)) H Q:=
 dU rfl (by simp only [aq];cases x.ev fr<;>rfl)
@[simp]theorem ZR (x:X):Vx E O m (⟨none,some d,.eN x⟩::l) ks fr H Q↔(sJ (x.ev fr)).isSome=true∧Vx E O (m.up (fr.put d ((sJ (x.ev fr)).getD undef)) H) l ks (fr.put d ((sJ (x.ev fr)).getD undef)) H Q:=
 dU rfl (by simp only [aq];cases x.ev fr<;>rfl)
@[simp]theorem ZS (kk:Nat) (z:Value) (x k:X) (ok:Bool):Vx E O m (⟨none,some d,.look kk z x k ok⟩::l) ks fr H Q↔(iE kk z H (x.ev fr) (k.ev fr) ok).isSome=true∧Vx E O (m.up (fr.put d ((iE kk z H (x.ev fr) (k.ev fr) ok).getD undef)) H) l ks (fr.put d ((iE kk z H (x.ev fr) (k.ev fr) ok).getD undef)) H Q:=
 dU rfl (by
  simp only [aq,iE]
  cases x.ev fr with
  |map r=>
   cases r with
   |none=>dsimp only;cases cw kk (k.ev fr)<;>rfl
   |some r=>
    dsimp only
    cases H.get r with
    |none=>rfl
    |some b=>
     cases b with
     |cells=>rfl
     |map es=>
      dsimp only;cases cw kk (k.ev fr)&&decide (H.n0≤r)
      ·rfl
      ·cases fI (k.ev fr) es with
       |none=>rfl
       |some q=>cases q<;>rfl
  |_=>rfl)
@[simp]theorem aen (f:Nat) (a b:List X):Vx E O m (⟨none,some d,.mkf f a b⟩::l) ks fr H Q↔Vx E O (m.up (fr.put d (.func (.func f) (a.map (X.ev fr)).toArray (b.map (X.ev fr)).toArray)) H) l ks (fr.put d (.func (.func f) (a.map (X.ev fr)).toArray (b.map (X.ev fr)).toArray)) H Q:=by
 rw [dU (r:=some (.func (.func f) (a.map (X.ev fr)).toArray (b.map (X.ev fr)).toArray)) rfl rfl];simp
@[simp]theorem aiy (sz:Nat) (x:X) (lo hi mx:Option X):Vx E O m (⟨none,some d,.sl sz x lo hi mx⟩::l) ks fr H Q↔(bS sz H (x.ev fr) (lo.map (X.ev fr)) (hi.map (X.ev fr)) (mx.map (X.ev fr))).isSome=true∧Vx E O (m.up (fr.put d ((bS sz H (x.ev fr) (lo.map (X.ev fr)) (hi.map (X.ev fr)) (mx.map (X.ev fr))).getD undef)) H) l ks (fr.put d ((bS sz H (x.ev fr) (lo.map (X.ev fr)) (hi.map (X.ev fr)) (mx.map (X.ev fr))).getD undef)) H Q:=
 dU rfl rfl
def eS (z:List Value) (ps:List (Nat×Nat×Value)):Option Value:=(iX z ps).map fun c=>.agg c.toArray
@[simp]theorem Vy (z:List Value) (ps:List (Nat×Nat×X)):Vx E O m (⟨none,some d,.build z ps⟩::l) ks fr H Q↔(eS z (ps.map fun p=>(p.1,p.2.1,p.2.2.ev fr))).isSome=true∧Vx E O (m.up (fr.put d ((eS z (ps.map fun p=>(p.1,p.2.1,p.2.2.ev fr))).getD undef)) H) l ks (fr.put d ((eS z (ps.map fun p=>(p.1,p.2.1,p.2.2.ev fr))).getD undef)) H Q:=
 dU rfl (by simp only [aq,eS];cases iX z (ps.map fun p=>(p.1,p.2.1,p.2.2.ev fr))<;>rfl)
@[simp]theorem VA (z:List Value):Vx E O m (⟨none,some d,.alloc z⟩::l) ks fr H Q↔Vx E O (m.up (fr.put d (.pointer (some ⟨H.nx,0,none⟩))) (H.alloc (.cells z.length z))) l ks (fr.put d (.pointer (some ⟨H.nx,0,none⟩))) (H.alloc (.cells z.length z)) Q:=by
 rw [Gf _ _ _ rfl];simp [aq]
@[simp]theorem aeo (x:X):Vx E O m (⟨none,some d,.box x⟩::l) ks fr H Q↔cC (x.ev fr)=false∧Vx E O (m.up (fr.put d (.pointer (some ⟨H.nx,0,none⟩))) (H.alloc (.cells (aT (x.ev fr)).length (aT (x.ev fr))))) l ks (fr.put d (.pointer (some ⟨H.nx,0,none⟩))) (H.alloc (.cells (aT (x.ev fr)).length (aT (x.ev fr)))) Q:=by
 rw [Gf _ _ _ rfl];simp only [aq];cases cC (x.ev fr)<;>simp [Bu]
@[simp]theorem VB:Vx E O m (⟨none,some d,.mkmap⟩::l) ks fr H Q↔Vx E O (m.up (fr.put d (.map (some H.nx))) (H.alloc (.map []))) l ks (fr.put d (.map (some H.nx))) (H.alloc (.map [])) Q:=by
 rw [Gf _ _ _ rfl];simp [aq]
@[simp]theorem aiz (n:Nat) (x v:X):Vx E O m (⟨none,none,.st n x v⟩::l) ks fr H Q↔(Gg n H (x.ev fr) (v.ev fr)).isSome=true∧Vx E O (m.up fr ((Gg n H (x.ev fr) (v.ev fr)).getD H)) l ks fr ((Gg n H (x.ev fr) (v.ev fr)).getD H) Q:=by
 rw [Vu _ _ rfl]
 have e:aq (.st n x v) (X.ev fr) H=(Gg n H (x.ev fr) (v.ev fr)).map fun c=>(.v undef,c):=by
  simp only [aq]
  cases x.ev fr with
  |pointer a=>
   cases a with
   |none=>rfl
   |some a=>
    simp only [Gg];cases (Nat.beq (aT (v.ev fr)).length n&& !cC (v.ev fr))<;>simp
  |_=>rfl
 rw [e];cases Gg n H (x.ev fr) (v.ev fr)<;>simp [Bu,fO]
def Dx:Option (Value×AH)→Bool
 |some _=>true
 |none=>false
def v1:Option (Value×AH)→Value
 |some (v,_)=>v
 |none=>undef
def h2 (H:AH):Option (Value×AH)→AH
 |some (_,H')=>H'
 |none=>H
@[simp]theorem aep (r:Value×AH):Dx (some r)=true:=rfl
@[simp]theorem al9 (v:Value) (H':AH):v1 (some (v,H'))=v:=rfl
@[simp]theorem ama (v:Value) (H':AH):h2 H (some (v,H'))=H':=rfl
theorem Gp {p:cv} (h:p.aV=false) {r:Option (Value×AH)} (e:aq p (X.ev fr) H=r.map fun q=>(.v q.1,q.2)):Vx E O m (⟨none,some d,p⟩::l) ks fr H Q↔
 Dx r=true∧Vx E O (m.up (fr.put d (v1 r)) (h2 H r)) l ks (fr.put d (v1 r)) (h2 H r) Q:=by
 rw [Gf _ _ _ h,e]
 cases r with
 |none=>simp [Dx,Bu]
 |some q=>obtain ⟨v,c⟩:=q;simp
@[simp]theorem aer (sz bytes:Nat) (s x:X):Vx E O m (⟨none,some d,.app sz bytes s x⟩::l) ks fr H Q↔Dx (bm sz bytes H (s.ev fr) (x.ev fr))=true∧Vx E O (m.up (fr.put d (v1 (bm sz bytes H (s.ev fr) (x.ev fr)))) (h2 H (bm sz bytes H (s.ev fr) (x.ev fr)))) l ks (fr.put d (v1 (bm sz bytes H (s.ev fr) (x.ev fr)))) (h2 H (bm sz bytes H (s.ev fr) (x.ev fr))) Q:=
 Gp _ rfl rfl
def ng (len sz:Nat) (z:List Value) (H:AH) (ps:List (Nat×Nat×Value)):Option (Value×AH):=(iX z ps).map fun c=>(.slice (some ⟨H.nx,0,none⟩) len len,H.alloc (.cells sz c))
@[simp]theorem aes (len sz:Nat) (z:List Value) (ps:List (Nat×Nat×X)):Vx E O m (⟨none,some d,.bsl len sz z ps⟩::l) ks fr H Q↔Dx (ng len sz z H (ps.map fun p=>(p.1,p.2.1,p.2.2.ev fr)))=true∧Vx E O (m.up (fr.put d (v1 (ng len sz z H (ps.map fun p=>(p.1,p.2.1,p.2.2.ev fr))))) (h2 H (ng len sz z H (ps.map fun p=>(p.1,p.2.1,p.2.2.ev fr))))) l ks (fr.put d (v1 (ng len sz z H (ps.map fun p=>(p.1,p.2.1,p.2.2.ev fr))))) (h2 H (ng len sz z H (ps.map fun p=>(p.1,p.2.1,p.2.2.ev fr)))) Q:=
 Gp _ rfl (by simp only [aq,ng];cases iX z (ps.map fun p=>(p.1,p.2.1,p.2.2.ev fr))<;>rfl)
def rh (kk:Nat) (H:AH) (x k v:Value):Option AH:=
 match x with
 | .map (some r)=>match H.get r with
   |some (.map es)=>bif cw kk k&&decide (H.n0≤r)&& !cC v then(lI k v es).map fun es'=>H.put r (some (.map es'))else none
   |_=>none
 |_=>none
@[simp]theorem aet (kk:Nat) (x k v:X):Vx E O m (⟨none,none,.pJ kk x k v⟩::l) ks fr H Q↔(rh kk H (x.ev fr) (k.ev fr) (v.ev fr)).isSome=true∧Vx E O (m.up fr ((rh kk H (x.ev fr) (k.ev fr) (v.ev fr)).getD H)) l ks fr ((rh kk H (x.ev fr) (k.ev fr) (v.ev fr)).getD H) Q:=by
 rw [Vu _ _ rfl]
 have e:aq (.pJ kk x k v) (X.ev fr) H=(rh kk H (x.ev fr) (k.ev fr) (v.ev fr)).map fun c=>(.v undef,c):=by
  simp only [aq,rh]
  cases x.ev fr with
  |map r=>
   cases r with
   |none=>rfl
   |some r=>
    dsimp only
    cases H.get r with
    |none=>rfl
    |some b=>
     cases b with
     |cells=>rfl
     |map es=>
      dsimp only;cases (cw kk (k.ev fr)&&decide (H.n0≤r)&& !cC (v.ev fr))
      ·rfl
      ·simp only [cond_true]
       cases lI (k.ev fr) (v.ev fr) es<;>rfl
  |_=>rfl
 rw [e];cases rh kk H (x.ev fr) (k.ev fr) (v.ev fr)<;>simp [Bu,fO]
theorem K0 {d f:Nat} {«as»:List X} {vs:List Value} {R:Value→AH→Prop} (c:«as».map (X.ev fr)=vs) (h:Ca E O f vs H R) (k:∀x H',R x H'→Vx E O (m.up (fr.put d x) H') l ks (fr.put d x) H' Q):Vx E O m (⟨none,some d,.call f «as»⟩::l) ks fr H Q:=by
 subst c;cases m
 ·exact ba (h.mono k)
 ·exact mF (h.mono k)
theorem ah {d f:Nat} {«as»:List X} {vs:List Value} (c:«as».map (X.ev fr)=vs) (h:Ca E O f vs H fun x H'=>Vx E O (m.up (fr.put d x) H') l ks (fr.put d x) H' Q):Vx E O m (⟨none,some d,.call f «as»⟩::l) ks fr H Q:=K0 c h fun _ _ k=>k
theorem Gq {d f:Nat} {x:X} {«as»:List X} {first cap:Array Value} {vs:List Value} {R:Value→AH→Prop} (c:x.ev fr= .func (.func f) first cap) (g:first.toList++«as».map (X.ev fr)++cap.toList=vs) (h:Ca E O f vs H R) (k:∀x H',R x H'→Vx E O (m.up (fr.put d x) H') l ks (fr.put d x) H' Q):Vx E O m (⟨none,some d,.callv x «as»⟩::l) ks fr H Q:=by
 subst g;have e:aq (.callv x «as») (X.ev fr) H=some (.enter f (first.toList++«as».map (X.ev fr)++cap.toList),H):=by simp only [aq,c]
 cases m
 ·show Wo E O _ _ _ _
  rw [gV,fN _ _ _ _ rfl,e];exact h.mono k
 ·show Wd E O _ _ _ _ _ _ _ _
  rw [je,fN _ _ _ _ rfl,e];exact h.mono k
theorem kh {d f:Nat} {x:X} {«as»:List X} {first cap:Array Value} {vs:List Value} (c:x.ev fr= .func (.func f) first cap) (e:first.toList++«as».map (X.ev fr)++cap.toList=vs) (h:Ca E O f vs H fun x H'=>Vx E O (m.up (fr.put d x) H') l ks (fr.put d x) H' Q):Vx E O m (⟨none,some d,.callv x «as»⟩::l) ks fr H Q:=Gq c e h fun _ _ k=>k
end
def Gr:AO→Fr→Bool
 |⟨none,_,_⟩,_=>true
 |⟨some (t,b),_,_⟩,fr=>et b (fr.get t)
@[simp]theorem aiA (d:Option Nat) (p:cv) (fr:Fr):Gr ⟨none,d,p⟩ fr=true:=rfl
@[simp]theorem aiB (t:Nat) (b:Bool) (d:Option Nat) (p:cv) (fr:Fr):Gr ⟨some (t,b),d,p⟩ fr=et b (fr.get t):=rfl
theorem Qu (o:AO) (fr:Fr):o.wanted fr=Gr o fr:=by
 obtain ⟨g,d,p⟩:=o
 cases g with
 |none=>rfl
 |some q=>obtain ⟨t,b⟩:=q;exact mI _ _ _ _
def To (H:AH) (n:Nat):Value→Option (Addr×List Value)
 | .pointer (some a)=>(H.ldn a n).map fun l=>(a,l)
 |_=>none
@[simp]theorem aiC (n:Nat) (a:Addr):To H n (.pointer (some a))=(H.ldn a n).map fun l=>(a,l):=rfl
def VC:cv→Fr→AH→Option (Addr×List Value)
 | .ld x,fr,H=>To H 1 (x.ev fr)
 | .ldn n x,fr,H=>To H n (x.ev fr)
 |_,_,_=>none
@[simp]theorem aeu (x:X):VC (.ld x) fr H=To H 1 (x.ev fr):=rfl
@[simp]theorem ZT (n:Nat) (x:X):VC (.ldn n x) fr H=To H n (x.ev fr):=rfl
def Qv (H':AH):Option (Addr×List Value)→Bool
 |some x=>sameAt H' x
 |none=>false
@[simp]theorem aev (x:Addr×List Value):Qv H (some x)=sameAt H x:=rfl
def Qw:Option (List Value)→List Value→Bool
 |some m,l=>eK m l
 |none,_=>false
@[simp]theorem aew (m l:List Value):Qw (some m) l=eK m l:=rfl
@[simp]theorem xL (a:Addr) (l:List Value):sameAt H (a,l)=Qw (H.ldn a l.length) l:=by
 unfold sameAt Qw;dsimp only;cases H.ldn a l.length<;>rfl
@[simp]theorem ZU:eK [] []=true:=rfl
@[simp]theorem ZV (x y:Value) (l m:List Value):eK (x::l) (y::m)=(da x y&&eK l m):=rfl
@[simp]theorem ZW (k:IntKind) (n:Int):da (.int k n) (.int k n)=true:=by simp [da]
@[simp]theorem ZX (b:Bool):da (.bool b) (.bool b)=true:=by simp [da]
@[simp]theorem ZY (a:Option Addr):da (.pointer a) (.pointer a)=true:=by simp [da]
@[simp]theorem ZZ (a:Option Addr) (n c:Nat):da (.slice a n c) (.slice a n c)=true:=by simp [da]
def Qx (l:List AO):Nat→Option AO→Option (Fr×AH)→Option (Fr×AH)→Option AO→Option (Fr×AH)→Option (Fr×AH)→Bool
 |k,some op,some (fp,Hp),some (_,Jo),some oq,some (fq,_),some (_,C4)=>
  !Gr op fp|| !Gr oq fq||(match k with
   |0=>Qv C4 (VC op.o fp Hp)
   |1=>nm (Jo.get Hp.nx) (C4.get Hp.nx)
   |_=>match cK op fp,cK oq fq with|some b,some b'=>!Nat.beq b b'|_,_=>true)
 |_,_,_,_,_,_,_=>false
@[simp]theorem aiD (l:List AO) (op d:AO) (c e i h:Fr) (g j H1 f:AH):Qx l 0 (some op) (some (c,g)) (some (i,j)) (some d) (some (e,H1)) (some (h,f))=(!Gr op c|| !Gr d e||Qv f (VC op.o c g)):=rfl
@[simp]theorem aiE (l:List AO) (op d:AO) (f e j i:Fr) (c h H1 g:AH):Qx l 1 (some op) (some (f,c)) (some (j,h)) (some d) (some (e,H1)) (some (i,g))=(!Gr op f|| !Gr d e||nm (h.get c.nx) (g.get c.nx)):=rfl
theorem By (l:List AO) (op c:AO) (e d g f:Fr) (j i H1 h:AH):Qx l 2 (some op) (some (e,j)) (some (g,i)) (some c) (some (d,H1)) (some (f,h))=(!Gr op e|| !Gr c d||(match cK op e,cK c d with|some b,some b'=>!Nat.beq b b'|_,_=>true)):=rfl
theorem K3 (l:List AO) (e:List (Fr×AH)) (k p q:Nat):j7 l e (k,p,q)=Qx l k (nth l p) (nth e p) (nth e (p+1)) (nth l q) (nth e q) (nth e (q+1)):=by
 unfold j7;dsimp only
 cases nth l p with
 |none=>rfl
 |some op=>
  cases nth e p with
  |none=>rfl
  |some a=>
   cases nth e (p+1)with
   |none=>rfl
   |some b=>
    cases nth l q with
    |none=>rfl
    |some i=>
     cases nth e q with
     |none=>rfl
     |some c=>
      cases nth e (q+1)with
      |none=>rfl
      |some d=>
       obtain ⟨h,f⟩:=a;obtain ⟨t,s⟩:=b;obtain ⟨r,o⟩:=c;obtain ⟨n,m⟩:=d;simp only [Qx,Qu];congr 1
       match k with
       |0=>
        obtain ⟨g,j,p⟩:=op
        cases p<;>first
         |rfl
         |(simp only [eC,VC]
           rename_i x
           cases x.ev h with
           |pointer z=>
            cases z with
            |none=>rfl
            |some z=>simp only [To];cases AH.ldn f z _<;>rfl
           |_=>rfl)
       |1=>rfl
       |k+2=>rfl
theorem Qy (l:List AO) (ck:List (Nat×Nat×Nat)) (acc:List (Fr×AH)):tS l ck acc=(chain acc.reverse&&ck.all fun c=>Qx l c.1 (nth l c.2.1) (nth acc.reverse c.2.1) (nth acc.reverse (c.2.1+1)) (nth l c.2.2) (nth acc.reverse c.2.2) (nth acc.reverse (c.2.2+1))):=by
 unfold tS;congr 1;congr 1;funext c;obtain ⟨k,p,q⟩:=c;exact K3 _ _ _ _ _
theorem bq (l:List AO) (ck:List (Nat×Nat×Nat)) (acc:List (Fr×AH)):tS l ck acc=true↔chain acc.reverse=true∧ck.all (fun c=>Qx l c.1 (nth l c.2.1) (nth acc.reverse c.2.1) (nth acc.reverse (c.2.1+1)) (nth l c.2.2) (nth acc.reverse c.2.2) (nth acc.reverse (c.2.2+1)))=true:=by
 rw [Qy,aqJ]
theorem aM (a b:Fr×AH) (l:List (Fr×AH)):chain (a::b::l)=true↔(a.2.n0=b.2.n0∧a.2.nx≤b.2.nx)∧chain (b::l)=true:=by
 simp only [chain,aqJ,Nat.beq_eq,Nat.ble_eq]
theorem aN (a:Fr×AH):chain [a]=true:=rfl
@[simp]theorem VD {α:Type} (x:α) (l:List α):nth (x::l) 0=some x:=rfl
@[simp]theorem aiF {α:Type} (x:α) (l:List α) (n:Nat):nth (x::l) (n+1)=nth l n:=rfl
theorem uu {α:Type}:∀(l:List α) (n:Nat),nth l n=l[n]?
 |[],n=>by cases n<;>rfl
 |x::l,0=>rfl
 |x::l,n+1=>by simp [uu l n]
def spine:Nat→AC→AC→AC
 |0,_,r=>r
 |k+1,.seq a b,r=>.seq a (spine k b r)
 |_,c,_=>c
def sK:Nat→AC→AC
 |0,c=>c
 |k+1,.seq _ b=>sK k b
 |_,c=>c
theorem K4 (a b r:AC):spine 1 (.seq a b) r= .seq a r:=by cases b<;>rfl
theorem K5 (a b r:AC):spine 2 (.seq a b) r= .seq a (spine 1 b r):=rfl
theorem K6 (a b r:AC):spine 3 (.seq a b) r= .seq a (spine 2 b r):=rfl
theorem K7 (a b r:AC):spine 4 (.seq a b) r= .seq a (spine 3 b r):=rfl
theorem K8 (a b r:AC):spine 5 (.seq a b) r= .seq a (spine 4 b r):=rfl
theorem K9 (a b r:AC):spine 6 (.seq a b) r= .seq a (spine 5 b r):=rfl
theorem La (a b r:AC):spine 7 (.seq a b) r= .seq a (spine 6 b r):=rfl
theorem Lb (a b r:AC):spine 8 (.seq a b) r= .seq a (spine 7 b r):=rfl
attribute [simp] K4 K5 K6 K7 K8 K9 La Lb
inductive dH where
 |l
 |r
def fP:List dH→AC→AC
 |[],c=>c
 | .l::p,.seq a _=>fP p a
 | .r::p,.seq _ b=>fP p b
 | .l::p,.block _ a=>fP p a
 | .l::p,.cond _ a _=>fP p a
 | .r::p,.cond _ _ b=>fP p b
 |_,c=>c
def kI:List dH→AC→AC→AC
 |[],_,r=>r
 | .l::p,.seq a b,r=>.seq (kI p a r) b
 | .r::p,.seq a b,r=>.seq a (kI p b r)
 | .l::p,.block i a,r=>.block i (kI p a r)
 | .l::p,.cond x a b,r=>.cond x (kI p a r) b
 | .r::p,.cond x a b,r=>.cond x a (kI p b r)
 |_,c,_=>c
def kJ:List dH→AC→List Ko→List Ko
 |[],_,ks=>ks
 | .l::p,.seq a b,ks=>kJ p a (.seq b::ks)
 | .r::p,.seq _ b,ks=>kJ p b ks
 | .l::p,.block i a,ks=>kJ p a (.aR i::ks)
 | .l::p,.cond _ a _,ks=>kJ p a ks
 | .r::p,.cond _ _ b,ks=>kJ p b ks
 |_,_,ks=>ks
@[simp]theorem Lc (c:AC):fP [] c=c:=by cases c<;>rfl
@[simp]theorem Z0 (p:List dH) (a b:AC):fP (.l::p) (.seq a b)=fP p a:=rfl
@[simp]theorem Ld (p:List dH) (a b:AC):fP (.r::p) (.seq a b)=fP p b:=rfl
@[simp]theorem Z1 (p:List dH) (i:Nat) (a:AC):fP (.l::p) (.block i a)=fP p a:=rfl
@[simp]theorem VE (p:List dH) (x:X) (a b:AC):fP (.l::p) (.cond x a b)=fP p a:=rfl
@[simp]theorem VF (p:List dH) (x:X) (a b:AC):fP (.r::p) (.cond x a b)=fP p b:=rfl
@[simp]theorem Z2 (p:List dH) (x:X) (a b r:AC):kI (.l::p) (.cond x a b) r= .cond x (kI p a r) b:=rfl
@[simp]theorem Z3 (p:List dH) (x:X) (a b r:AC):kI (.r::p) (.cond x a b) r= .cond x a (kI p b r):=rfl
@[simp]theorem Z4 (p:List dH) (x:X) (a b:AC) (ks:List Ko):kJ (.l::p) (.cond x a b) ks=kJ p a ks:=rfl
@[simp]theorem Z5 (p:List dH) (x:X) (a b:AC) (ks:List Ko):kJ (.r::p) (.cond x a b) ks=kJ p b ks:=rfl
@[simp]theorem aex (c r:AC):kI [] c r=r:=by cases c<;>rfl
@[simp]theorem aey (p:List dH) (a b r:AC):kI (.l::p) (.seq a b) r= .seq (kI p a r) b:=rfl
@[simp]theorem aez (p:List dH) (a b r:AC):kI (.r::p) (.seq a b) r= .seq a (kI p b r):=rfl
@[simp]theorem aeA (p:List dH) (i:Nat) (a r:AC):kI (.l::p) (.block i a) r= .block i (kI p a r):=rfl
@[simp]theorem zZ (c:AC) (ks:List Ko):kJ [] c ks=ks:=by cases c<;>rfl
@[simp]theorem aeB (p:List dH) (a b:AC) (ks:List Ko):kJ (.l::p) (.seq a b) ks=kJ p a (.seq b::ks):=rfl
@[simp]theorem Aa (p:List dH) (a b:AC) (ks:List Ko):kJ (.r::p) (.seq a b) ks=kJ p b ks:=rfl
@[simp]theorem aeC (p:List dH) (i:Nat) (a:AC) (ks:List Ko):kJ (.l::p) (.block i a) ks=kJ p a (.aR i::ks):=rfl
def Bz:Nat→List dH→List Ko→AC
 |0,p,.seq c::_=>fP p c
 |j+1,p,_::ks=>Bz j p ks
 |_,_,_=>.skip
def vI:Nat→List dH→List Ko→AC→List Ko
 |0,p,.seq c::ks,r=>.seq (kI p c r)::ks
 |j+1,p,k::ks,r=>k::vI j p ks r
 |_,_,ks,_=>ks
def xM:Nat→List dH→List Ko→List Ko
 |0,p,.seq c::ks=>kJ p c ks
 |j+1,p,_::ks=>xM j p ks
 |_,_,ks=>ks
theorem sL {c:AC} (p:List dH) (P:Fr→AH→Prop) (d:kI p c (fP p c)=c) (h2:∀fr H,P fr H→Vk E O (fP p c) (kJ p c ks) fr H Q) (e:∀rest,(∀fr H,P fr H→Vk E O rest (kJ p c ks) fr H Q)→Vk E O (kI p c rest) ks fr H Q):Vk E O c ks fr H Q:=by
 have:=e _ h2;rwa [d]at this
theorem VG {m:Md} {l:List AO} (j:Nat) (p:List dH) (P:Fr→AH→Prop) (c:vI j p ks (Bz j p ks)=ks) (h2:∀fr H,P fr H→Vk E O (Bz j p ks) (xM j p ks) fr H Q) (d:∀rest,(∀fr H,P fr H→Vk E O rest (xM j p ks) fr H Q)→Vx E O m l (vI j p ks rest) fr H Q):Vx E O m l ks fr H Q:=by
 have:=d _ h2;rwa [c]at this
theorem Ca.VH {f:Nat} {F:AF} {«as»:List Value} {H:AH} {Q:Value→AH→Prop} (k:Nat) (c:O f=none) (g:E f=some F) (d:«as».length=F.np) (e:spine k F.body (sK k F.body)=F.body) (h:Vk E O (spine k F.body (sK k F.body)) [] (Fr.of «as») H (xp F.res Q)):Ca E O f «as» H Q:=Ca.dx c g d (e▸h)
theorem Ca.aW {f:Nat} {F:AF} {«as»:List Value} {H:AH} {Q:Value→AH→Prop} (c:O f=none) (e:E f=some F) (d:«as».length=F.np) (h:Vk E O F.body [] (Fr.of «as») H (xp F.res Q)):Ca E O f «as» H Q:=Ca.dx c e d h
def xN (E:Env) (O:jD) (I:Nat→Fr→AH→Prop) (k:Nat) (ks:List Ko) (Q:Ex→Fr→AH→Prop):Ex→Fr→AH→Prop
 | .normal,fr,H=>∃j,j<k∧I j fr H
 | .exit i,fr,H=>Vn E O (.exit i) ks fr H Q
 | .ret,fr,H=>Vn E O .ret ks fr H Q
@[simp]theorem Z6 (I:Nat→Fr→AH→Prop) (k:Nat):xN E O I k ks Q .normal fr H=∃j,j<k∧I j fr H:=rfl
@[simp]theorem Z7 (I:Nat→Fr→AH→Prop) (k i:Nat):xN E O I k ks Q (.exit i) fr H=Vn E O (.exit i) ks fr H Q:=rfl
@[simp]theorem Z8 (I:Nat→Fr→AH→Prop) (k:Nat):xN E O I k ks Q .ret fr H=Vn E O .ret ks fr H Q:=rfl
theorem cm {a:AC} (I:Nat→Fr→AH→Prop) (step:∀k fr H,I k fr H→Vk E O a [] fr H (xN E O I k ks Q)) (k:Nat) (h:I k fr H):Vk E O (.loop a) ks fr H Q:=by
 refine dY I (fun k fr H c=>?_) k h;have:=step k fr H c;unfold Vk at this
 have e:xN E O I k ks Q=xv E O I k ks Q:=by
  funext ex fr H;cases ex<;>rfl
 rw [e]at this;exact this
@[simp]theorem X_t (n:Nat):X.ev fr (.t n)=fr.get n:=rfl
@[simp]theorem X_k (v:Value):X.ev fr (.k v)=v:=rfl
@[simp]theorem X_f (n:Nat):X.ev fr (.f n)= .func (.func n) #[] #[]:=rfl
end
end
set_option maxRecDepth 10000
section
open Go
theorem Dy (c:Int) (H:AH):Ca E O 154 [.int .u8 c] H (fun x H'=>x= .bool (eo c)∧H'=H):=by
 refine Ca.aW (F:=a154) rfl rfl rfl ?_;simp (maxSteps:=9^7)-implicitDefEqProofs+contextual [-X.ev,a154];simp [br,eo,ff,isDigit];by_cases d:97≤c<;>by_cases h2:c≤122<;>by_cases b:48≤c<;>by_cases a:c≤57<;>simp [*]<;>omega
theorem uv {s:ByteArray}:bN s ⟨#[]⟩=decide (s.size=0):=by
 rw [arc,iT];constructor
 ·rintro rfl;rfl
 ·intro h;simp at h;exact h
theorem Dz (s:ByteArray) (G:s.size<2^60) (H:AH):Ca E O 129 [.string s] H (fun x H'=>x= .bool (isName s)∧H'=H):=by
 refine Ca.aW (F:=FW) rfl rfl rfl ?_;by_cases u:s.size=0
 ·simp (maxSteps:=9^7)-implicitDefEqProofs+contextual [-X.ev,FW,uv,u,isName]
 have D:0<s.size:=by omega
 have o:Ew (.string s) (.int .i64 0)=some (.int .u8 (cH s 0)):=N0 (n:=0) D;have c:ff (cH s 0)=(decide (97≤cH s 0)&&decide (cH s 0≤122)):=rfl
 obtain ⟨b0,a⟩:∃b,cH s 0=b:=⟨_,rfl⟩
 rw [a]at o c;simp (maxSteps:=9^7)-implicitDefEqProofs+contextual [-X.ev,FW,uv,u,o];refine zY (fun q=>?_) (fun q=>zY (fun A=>?_) (fun A=>zY (fun z=>?_) (fun z=>?_)))
 ·have:¬ s.size≤12:=by omega
  simp [isName,this]
 ·have f:¬ 97≤b0:=by omega
  simp [isName,a,c,f]
 ·have d:¬ b0≤122:=by omega
  simp [isName,a,c,d]
 refine cm (fun k g H'=>H'=H∧∃i:Nat,i+k=s.size∧g.get 0= .string s∧g.get 3= .int .i64 i∧∀j,j<i→eo (cH s j)=true) ?_ s.size ⟨rfl,0,by simp,by simp,by simp,fun j p=>by omega⟩;rintro k g H' ⟨rfl,i,hi,m,l,r⟩;by_cases h:i<s.size
 ·have B:Ew (.string s) (.int .i64 i)=some (.int .u8 (cH s i)):=N0 h
  simp (maxSteps:=9^7)-implicitDefEqProofs+contextual [-X.ev,m,l,h,B];apply ah
  ·(simp-implicitDefEqProofs [-X.ev];rfl)
  refine (Dy (cH s i) H').mono ?_;rintro x I ⟨rfl,rfl⟩
  cases t:eo (cH s i)with
  |true=>
   simp (maxSteps:=9^7)-implicitDefEqProofs+contextual [-X.ev,m,l];rw [ai ⟨by omega,by omega⟩];refine ⟨k- 1,by omega,i+1,by omega,by simp,fun j p=>?_⟩;by_cases e:j=i
   ·subst e;exact t
   ·exact r j (by omega)
  |false=>
   simp (maxSteps:=9^7)-implicitDefEqProofs+contextual [-X.ev];simp [isName];intro _ _ _ _;exact ⟨i,h,t⟩
 ·have C:((List.range s.size).all fun i=>eo (cH s i))=true:=by simpa using fun j p=>r j (by omega)
  have y:1≤s.size:=by omega
  have w:s.size≤12:=by omega
  have v:ff (cH s 0)=true:=by rw [a,c];simp;omega
  have e:isName s= !dJ s:=by simp [isName,C,y,w,v]
  simp (maxSteps:=9^7)-implicitDefEqProofs+contextual [-X.ev,m,l,h,e,dJ]
open Go
def smap (l:List (ByteArray×Value)):List (Value×Value):=l.map fun p=>(.string p.1,p.2)
theorem BA (s:ByteArray):∀l:List (ByteArray×Value),fI (.string s) (smap l)=some ((l.find? fun p=>bN s p.1).map (·.2))
 |[]=>rfl
 |p::l=>by
  have ih:=BA s l;unfold smap at ih⊢;simp only [List.map_cons,fI,il,List.find?_cons];change (match some (bN s p.1)with|some true=>_|some false=>_|none=>_)=_;cases bN s p.1
  ·exact ih
  ·rfl
theorem Gs (s:ByteArray) (v:Value):∀l:List (ByteArray×Value),(∀p∈l,bN s p.1=false)→lI (.string s) v (smap l)=some (smap (l++[(s,v)]))
 |[],_=>rfl
 |p::l,h=>by
  have ih:=Gs s v l fun q a=>h q (by simp [a])
  unfold smap at ih⊢;simp only [List.map_cons,lI,il,List.cons_append];change (match some (bN s p.1)with|some true=>_|some false=>_|none=>_)=_;rw [h p (by simp)];simp [ih]
theorem eV {kk m:Nat} {z k v:Value} {H:AH} {es:List (Value×Value)} (b:H.get m=some (.map es)) (d:H.n0≤m) (a:cw kk k=true) (c:fI k es=some (some v)):iE kk z H (.map (some m)) k false=some v:=by
 simp [iE,b,d,a,c]
theorem BB {kk m:Nat} {z k:Value} {H:AH} {es:List (Value×Value)} (b:H.get m=some (.map es)) (d:H.n0≤m) (a:cw kk k=true) (c:fI k es=some none):iE kk z H (.map (some m)) k false=some z:=by
 simp [iE,b,d,a,c]
theorem gE {kk m:Nat} {k v:Value} {H:AH} {es es':List (Value×Value)} (b:H.get m=some (.map es)) (h:H.n0≤m) (g:cw kk k=true) (e:cC v=false) (d:lI k v es=some es'):
 ∃a,rh kk H (.map (some m)) k v=some a∧Mod (fun x=>x=m) H a∧a.nx=H.nx∧a.n0=H.n0∧a.get m=some (.map es'):=by
 have c:=AH.aS b;refine ⟨H.put m (some (.map es')),by simp [rh,b,h,g,e,d],⟨rfl,aqK _,fun x i f=>?_⟩,rfl,rfl,?_⟩
 ·rw [AH.bG _ _ _ _ c,if_neg f]
 ·rw [AH.bG _ _ _ _ c,if_pos rfl]
def kK (l:List Vr):List (ByteArray×Value):=l.map fun v=>(v.name,.bool true)
theorem xO (l:List Vr) (s:ByteArray):((kK l).find? fun p=>bN s p.1).map (·.2)=if l.any (fun v=>bN v.name s)=true then some (.bool true)else none:=by
 induction l with
 |nil=>rfl
 |cons v l ih=>
  simp only [kK,List.map_cons,List.find?_cons,List.any_cons]
  have e:bN s v.name=bN v.name s:=by
   rw [arc,iT,iT];exact eq_comm
  rcases Bool.eq_false_or_eq_true (bN v.name s)with q|q
  ·rw [q]at e
   simp [e,q]
  ·rw [q]at e
   simp only [e,q,Bool.false_or]
   simpa [kK]using ih
theorem xP {l:List Vr} {i:Nat} {y:Vr} (d:l[i]?=some y):((l.take i).any fun v=>bN v.name y.name)= !decide (iD l y.name=i):=by
 have hi:=(aqM.1 d).1
 cases q:(l.take i).any fun v=>bN v.name y.name with
 |false=>
  have:iD l y.name=i:=sD d (by rw [iT]) fun j z c b=>by
   rw [List.any_eq_false]at q;have:=q z (aqL (i:=j) (by rw [arf,if_pos c];exact b))
   simpa using this
  simp [this]
 |true=>
  rw [List.any_eq_true]at q;obtain ⟨z,b,g⟩:=q;obtain ⟨j,c,e⟩:=List.mem_iff_getElem.1 b
  have:¬ iD l y.name=i:=by
   intro f;unfold iD at f;split at f
   ·rename_i k a
    rw [List.findIdx?_eq_some_iff_getElem]at a;obtain ⟨_,_,a⟩:=a;have h:j<i:=by simp at c;omega
    have:=a j (by omega);rw [List.getElem_take]at e;rw [e,g]at this;simp at this
   ·omega
  simp [this]
def DA (l:List Vr) (i:Nat):Bool:=match l[i]? with|some v=>ep l i v|none=>true
theorem fQ (w:Int) (l:List Vr):aA w l=(bA w&&(decide (1≤l.length)&&(decide (l.length≤18)&&((List.range l.length).all (DA l)&&decide (cT (l.map (·.cells))≤48))))):=rfl
theorem qa {l:List Vr} {i:Nat} {y:Vr} (h:l[i]?=some y):DA l i=ep l i y:=by unfold DA;rw [h]
set_option maxHeartbeats 1000000 in
theorem BC {v:Value} {l:List Vr} {H:AH} (hw:H.n0≤H.nx) (hv:dh H v l) (pU:nL l) (w:Int):Ca E O 96 [.int .i64 w,v] H (fun x H'=>x= .int .i64 (if aA w l=true then 0 else 1)∧Ext H H'):=by
 refine Ca.aW (F:=ZA) rfl rfl rfl ?_;obtain ⟨a,c,gg⟩:=hv.len;have iu:=pU.1;have X0:=Ext.alloc H (.map []);have g0:=cq H (.map []);generalize Bq:H.alloc (.map [])=H0 at X0 g0;simp (maxSteps:=9^7)-implicitDefEqProofs+contextual [-X.ev,ZA,gg,Bq]
 have z1:aA w l=true→1≤w∧w≤8∧1≤l.length∧l.length≤18:=by
  intro h;simp [aA,bA]at h;omega
 have N:¬ (1≤w∧w≤8∧1≤l.length∧l.length≤18)→aA w l=false:=fun q=>by
  rw [ark];exact fun h=>q (z1 h)
 refine zY (fun q=>?_) (fun q1=>zY (fun q=>?_) (fun q2=>zY (fun q=>?_) (fun q3=>zY (fun q=>?_) (fun q4=>?_))))
 ·exact ⟨N (by omega),Ext.refl _⟩
 ·exact ⟨N (by omega),Ext.refl _⟩
 ·exact ⟨N (by omega),Ext.refl _⟩
 ·exact ⟨N (by omega),Ext.refl _⟩
 refine cm (fun k D g=>Ext H g∧g.get H.nx=some (.map (smap (kK (l.take (l.length- k)))))∧k≤l.length∧∃i:Nat,i+k=l.length∧D.get 26=v∧D.get 27= .int .i64 l.length∧D.get 28= .int .i64 i∧D.get 5= .map (some H.nx)∧D.get 6= .int .i64 (cT ((l.take i).map (·.cells)))∧∀j y,j<i→l[j]?=some y→ep l j y=true) ?_ l.length ⟨X0,by simpa [kK,smap]using g0,aqK _,0,by simp,by simp [gg],by simp,by simp,by simp,by simp [cT],fun j y hj=>by omega⟩;rintro k D g ⟨L,gm,hk,i,hi,f26,f27,f28,r,m,aH⟩;rw [show l.length- k=i by omega]at gm;have lu:=L.wf hw;have oB:g.n0≤H.nx:=by rw [L.n0];exact hw
 have T:∀y,l[i]?=some y→ep l i y=false→aA w l=false:=by
  intro y f hn
  have:((List.range l.length).all (DA l))=false:=by
   rw [List.all_eq_false];refine ⟨i,?_,?_⟩
   ·have:=(aqM.1 f).1;simpa using this
   ·rw [qa f];simp [hn]
  simp only [fQ,this,Bool.false_and,Bool.and_false]
 by_cases h:i<l.length
 ·obtain ⟨y,f⟩:∃y,l[i]?=some y:=⟨_,aqG h⟩
  obtain ⟨b,o,c',cx,bL,_⟩:=(hv.ext L).at f;have qD:=pU.2 y (aqL f);have amd:=f26;rw [cx]at f26;obtain ⟨A,R,X2,aeD,VJ,d,P⟩:=dZ (H:=g) lu (z:=3) (c:=[.string ⟨#[]⟩,.int .i64 0,.int .i64 0]) (vs:=[.string y.name,.int .i64 y.level,.int .i64 y.cells]) rfl;have t:A.ld ⟨g.nx,0,none⟩=some (.string y.name):=P 0 _ rfl;have G:A.ld ⟨g.nx,1,none⟩=some (.int .i64 y.level):=P 1 _ rfl;have s:A.ld ⟨g.nx,2,none⟩=some (.int .i64 y.cells):=P 2 _ rfl;clear P;replace d:A.ldn ⟨g.nx,0,none⟩ 3=some [.string y.name,.int .i64 y.level,.int .i64 y.cells]:=d;have jh:=X2.wf lu;have VK:=X2.get gm;have h0:A.n0≤H.nx:=by rw [VJ];exact oB
  have key:aA w l=true→ep l i y=true:=fun hh=>by
   cases e:ep l i y with
   |true=>rfl
   |false=>rw [T y f e]at hh;cases hh
  have C:iE 1 (.bool false) A (.map (some H.nx)) (.string y.name) false=some (.bool (!decide (iD l y.name=i))):=by
   have hf:=BA y.name (kK (l.take i));rw [xO,xP f]at hf;by_cases e:iD l y.name=i
   ·rw [BB VK h0 rfl (by simpa [e]using hf)];simp [e]
   ·rw [eV VK h0 rfl (by simpa [e]using hf)];simp [e]
  simp (maxSteps:=9^7)-implicitDefEqProofs+contextual [-X.ev,f26,f27,f28,r,m,h,bL,Vr.row,R,t];apply ah
  ·(simp-implicitDefEqProofs [-X.ev];rfl)
  refine (Dz y.name qD A).mono ?_;rintro x H3 ⟨rfl,rfl⟩;have u:=L.trans X2
  cases n1:isName y.name with
  |false=>
   simp (maxSteps:=9^7)-implicitDefEqProofs+contextual [-X.ev,f26,f27,f28,r,m];rw [T y f (by simp [ep,n1])];exact ⟨rfl,u⟩
  |true=>
   by_cases Q:ep l i y=true
   ·obtain ⟨_,m1,m2,m3,m4,m5⟩:isName y.name=true∧0≤y.level∧y.level≤47∧1≤y.cells∧y.cells≤8∧iD l y.name=i:=by simpa [ep]using Q
    have Y:¬ y.level<0:=by omega
    have W:¬ 47<y.level:=by omega
    have V:¬ y.cells<1:=by omega
    have U:¬ 8<y.cells:=by omega
    obtain ⟨H4,sm,X4,y9,nN,gm4⟩:=gE (v:=.bool true) VK h0 (kk:=1) (k:=.string y.name) rfl rfl (Gs y.name (.bool true) (kK (l.take i)) (by
     have:=xP f;simp only [m5,decide_true,Bool.not_true]at this;rw [List.any_eq_false]at this;intro p hp;unfold kK at hp;obtain ⟨z,J,rfl⟩:=ard.1 hp;have:=this z J
     have e:bN y.name z.name=bN z.name y.name:=by
      rw [arc,iT,iT];exact eq_comm
     simpa [e]using this))
    have fW:¬ g.nx=H.nx:=by have:=AH.aS gm;omega
    have DB:=X4.ld (a:=⟨g.nx,2,none⟩) fW s;simp (maxSteps:=9^7)-implicitDefEqProofs+contextual [-X.ev,f26,f27,f28,r,m,t,G,s,C,m5,Y,W,V,U,sm,DB];have Ey:-9223372036854775808≤(i:Int)+1∧(i:Int)+1≤9223372036854775807:=by omega
    rw [ai (n:=(i:Int)+1) Ey];refine ⟨k- 1,by omega,u.mod X4 (by rintro x rfl;exact aqK _),?_,by omega,i+1,by omega,cx.symm,by simp,?_,?_⟩
    ·rw [gm4,show l.length- (k- 1)=i+1 by omega,aq1,f]
     simp [kK]
    ·rw [aq1]
     simp [cT,ara,f,List.foldl_append]
    ·intro j z hj J
     by_cases e:j=i
     ·subst e;rw [f]at J;cases J;exact Q
     ·exact aH j z (by omega) J
   ·have aeE:ep l i y=false:=by simpa using Q
    have K:=T y f aeE
    have Z:¬ (iD l y.name=i∧¬ y.level<0∧¬ 47<y.level∧¬ y.cells<1∧¬ 8<y.cells):=by
     rintro ⟨a1,a2,a3,a4,a5⟩;apply Q;simp [ep,n1,a1];omega
    by_cases B:iD l y.name=i
    case neg=>
     simp (maxSteps:=9^7)-implicitDefEqProofs+contextual [-X.ev,f26,f27,f28,r,m,t,G,s,C,B,K,u]
    by_cases I:y.level<0
    case pos=>
     simp (maxSteps:=9^7)-implicitDefEqProofs+contextual [-X.ev,f26,f27,f28,r,m,t,G,s,C,B,I,K,u]
    by_cases M:47<y.level
    case pos=>
     simp (maxSteps:=9^7)-implicitDefEqProofs+contextual [-X.ev,f26,f27,f28,r,m,t,G,s,C,B,I,M,K,u]
    by_cases S:y.cells<1
    case pos=>
     simp (maxSteps:=9^7)-implicitDefEqProofs+contextual [-X.ev,f26,f27,f28,r,m,t,G,s,C,B,I,M,S,K,u]
    have p5:8<y.cells:=by
     rcases Int.lt_or_le 8 y.cells with e|e
     ·exact e
     ·exact absurd ⟨B,I,M,S,by omega⟩ Z
    simp (maxSteps:=9^7)-implicitDefEqProofs+contextual [-X.ev,f26,f27,f28,r,m,t,G,s,C,B,I,M,S,p5,K,u]
 ·have hl:i=l.length:=by omega
  have hc:aA w l=decide (cT (l.map (·.cells))≤48):=by
   have a1:bA w=true:=by simp [bA];omega
   have a2:((List.range l.length).all (DA l))=true:=by
    rw [aqW];intro j hj
    cases e:l[j]? with
    |none=>unfold DA;rw [e]
    |some y=>rw [qa e];exact aH j y (by simp at hj;omega) e
   have a3:1≤l.length:=by omega
   have a4:l.length≤18:=by omega
   simp only [fQ,a1,a2,a3,a4,decide_true,Bool.true_and]
  rw [hl,List.take_length]at m;simp (maxSteps:=9^7)-implicitDefEqProofs+contextual [-X.ev,f26,f27,f28,r,m,h,L,hc]
end
section
open Go
theorem fw {l:List bQ} {i:Nat} {y:bQ} (h:l[i]?=some y):ar (l.take (i+1))=ar (l.take i)+av y:=by
 induction l generalizing i with
 |nil=>simp at h
 |cons x l ih=>
  cases i with
  |zero=>simp at h;subst h;simp [ar]
  |succ i=>simp only [List.take_succ_cons,ar];rw [ih (by simpa using h)];omega
theorem bO (l:List bQ) (i:Nat):0≤ar (l.take i)∧ar (l.take i)≤ar l:=by
 induction l generalizing i with
 |nil=>simp [ar]
 |cons x l ih=>
  have a:=ec x;have h2:=a6 l
  cases i with
  |zero=>simp only [List.take_zero,ar];omega
  |succ i=>simp only [List.take_succ_cons,ar];have:=ih i;omega
theorem fY.row {H:AH} {v:Value} {rows:List (List Value)} {l:List bQ} (d:Rows H 4 v rows) (f:fY H rows l) {i:Nat} {y:bQ} (k:l[i]?=some y):
 ∃b o c va r,v= .slice (some ⟨b,o,none⟩) l.length c∧H.ldn ⟨b,o+i*4,none⟩ 4=some [.int .i64 y.op,.int .i64 y.n,.int .i64 y.cp,va]∧r=[.int .i64 y.op,.int .i64 y.n,.int .i64 y.cp,va]∧oO H r y:=by
 obtain ⟨r,m,s⟩:=f.at k;obtain ⟨b,o,t,e,q⟩:=d.at m;rw [f.length]at e
 cases s with| @mk op n u va rows args j h g a d p=>
 exact ⟨b,o,t,va,_,e,q,rfl,.mk j h g a d p⟩
theorem uw:∀(N:Nat) (e:bQ) (c:List Value) (H:AH),SizeOf.sizeOf e<N→H.n0≤H.nx→oO H c e→av e<2^60→
 Ca E O 132 [.agg c.toArray] H (fun x H'=>x= .int .i64 (av e)∧Ext H H'):=by
 intro N
 induction N with
 |zero=>intro e c H h;omega
 |succ N ih=>
  intro e c H hN a V S
  cases V with| @mk op n cp v rows args i1 i2 i3 J I K=>
  refine Ca.aW (F:=Kq) rfl rfl rfl ?_;have C:=Ext.alloc H (.cells 4 [.int .i64 op,.int .i64 n,.int .i64 cp,v]);have d0:(H.alloc (.cells 4 [.int .i64 op,.int .i64 n,.int .i64 cp,v])).ld ⟨H.nx,0,none⟩=some (.int .i64 op):=aj a rfl;have d1:(H.alloc (.cells 4 [.int .i64 op,.int .i64 n,.int .i64 cp,v])).ld ⟨H.nx,1,none⟩=some (.int .i64 n):=aj a rfl;have Z:(H.alloc (.cells 4 [.int .i64 op,.int .i64 n,.int .i64 cp,v])).ld ⟨H.nx,2,none⟩=some (.int .i64 cp):=aj a rfl;have L:(H.alloc (.cells 4 [.int .i64 op,.int .i64 n,.int .i64 cp,v])).ld ⟨H.nx,3,none⟩=some v:=aj a rfl;have d:(H.alloc (.cells 4 [.int .i64 op,.int .i64 n,.int .i64 cp,v])).ldn ⟨H.nx,0,none⟩ 4=some [.int .i64 op,.int .i64 n,.int .i64 cp,v]:=bj a 4 rfl;generalize W:H.alloc (.cells 4 [.int .i64 op,.int .i64 n,.int .i64 cp,v])=H1 at C d0 d1 Z L d;have bD:=C.wf a;rw [av]at S;obtain ⟨a0,c0,t⟩:=I.len;rw [K.length]at t;have P:=L;rw [t]at P;simp (maxSteps:=9^7)-implicitDefEqProofs+contextual [-X.ev,Kq,W,P];refine cm (fun k l H'=>Ext H1 H'∧∃i:Nat,i+k=args.length∧l.get 7=v∧l.get 8= .int .i64 args.length∧l.get 9= .int .i64 i∧l.get 3= .int .i64 (1+ar (args.take i))) ?_ args.length ⟨Ext.refl _,0,by simp,by simp [t],by simp,by simp,by simp [ar]⟩;rintro k l g ⟨M,i,hi,m,w,u,A⟩;have p:=C.trans M;have D:=p.wf a;by_cases h:i<args.length
  ·obtain ⟨y,s⟩:∃y,args[i]?=some y:=⟨_,aqG h⟩
   obtain ⟨b,o,c',va,r,G,T,rfl,U⟩:=fY.row (I.ext p) (K.ext p) s;have Y:=m;rw [G]at m;obtain ⟨f,Q,B,Gt,Gu,q,j⟩:=dZ (H:=g) D (z:=4) (c:=[.int .i64 0,.int .i64 0,.int .i64 0,.slice none 0 0]) (vs:=[.int .i64 y.op,.int .i64 y.n,.int .i64 y.cp,va]) rfl;have q0:f.ld ⟨g.nx,0,none⟩=some (.int .i64 y.op):=j 0 _ rfl;have q1:f.ld ⟨g.nx,1,none⟩=some (.int .i64 y.n):=j 1 _ rfl;have q2:f.ld ⟨g.nx,2,none⟩=some (.int .i64 y.cp):=j 2 _ rfl;have q3:f.ld ⟨g.nx,3,none⟩=some va:=j 3 _ rfl;clear j;replace q:f.ldn ⟨g.nx,0,none⟩ 4=some [.int .i64 y.op,.int .i64 y.n,.int .i64 y.cp,va]:=q;have R:=B.wf D;have t1:=fw s;have t2:=bO args (i+1);have t3:=bO args i;have t4:=ec y;have hs:=kf (op:=op) (n:=n) (cp:=cp) s;simp (maxSteps:=9^7)-implicitDefEqProofs+contextual [-X.ev,m,w,u,A,h,T,Q,q];apply ah
   ·(simp-implicitDefEqProofs [-X.ev];rfl)
   refine (ih y _ f (by omega) R (U.ext B) (by omega)).mono ?_;rintro x H4 ⟨rfl,X4⟩;simp (maxSteps:=9^7)-implicitDefEqProofs+contextual [-X.ev,m,w,u,A];rw [ai (n:=(i:Int)+1) ⟨by omega,by omega⟩,ai ⟨by omega,by omega⟩];exact ⟨k- 1,by omega,M.trans (B.trans X4),i+1,by omega,G.symm,by simp,by omega⟩
  ·simp (maxSteps:=9^7)-implicitDefEqProofs+contextual [-X.ev,m,w,u,A,h]
   rw [aqN (by omega)];exact ⟨by rw [av],p⟩
def lU (V:List Vr) (op n:Int):Int:=
 if op=0 then 0 else if op=1∧0≤n∧n<V.length then(if 1<al V n then 1 else 0)else
 if(2≤op∧op≤11)∨op=13∨op=14 then 2 else if op=12 then 1 else if op=15 then 3 else-1
theorem Gv {w kk op n cp:Int} {vv va:Value} {V:List Vr} {H:AH} (g:H.n0≤H.nx) (t:dh H vv V):
 Ca E O 174 [.agg #[.int .i64 w,vv,.int .i64 kk],.agg #[.int .i64 op,.int .i64 n,.int .i64 cp,va]] H (fun x H'=>x= .int .i64 (lU V op n)∧Ext H H'):=by
 refine Ca.aW (F:=Ds) rfl rfl rfl ?_;have r:=Ext.alloc H (.cells 3 [.int .i64 w,vv,.int .i64 kk]);have G:(H.alloc (.cells 3 [.int .i64 w,vv,.int .i64 kk])).ld ⟨H.nx,0,none⟩=some (.int .i64 w):=aj g rfl;have c:(H.alloc (.cells 3 [.int .i64 w,vv,.int .i64 kk])).ld ⟨H.nx,1,none⟩=some vv:=aj g rfl;have D:(H.alloc (.cells 3 [.int .i64 w,vv,.int .i64 kk])).ld ⟨H.nx,2,none⟩=some (.int .i64 kk):=aj g rfl;have d:(H.alloc (.cells 3 [.int .i64 w,vv,.int .i64 kk])).ldn ⟨H.nx,0,none⟩ 3=some [.int .i64 w,vv,.int .i64 kk]:=bj g 3 rfl;generalize p:H.alloc (.cells 3 [.int .i64 w,vv,.int .i64 kk])=a at r G c D d;have f:=r.wf g;have l:=Ext.alloc a (.cells 4 [.int .i64 op,.int .i64 n,.int .i64 cp,va]);have k:(a.alloc (.cells 4 [.int .i64 op,.int .i64 n,.int .i64 cp,va])).ld ⟨a.nx,0,none⟩=some (.int .i64 op):=aj f rfl;have j:(a.alloc (.cells 4 [.int .i64 op,.int .i64 n,.int .i64 cp,va])).ld ⟨a.nx,1,none⟩=some (.int .i64 n):=aj f rfl;have C:(a.alloc (.cells 4 [.int .i64 op,.int .i64 n,.int .i64 cp,va])).ld ⟨a.nx,2,none⟩=some (.int .i64 cp):=aj f rfl;have B:(a.alloc (.cells 4 [.int .i64 op,.int .i64 n,.int .i64 cp,va])).ld ⟨a.nx,3,none⟩=some va:=aj f rfl;have e:(a.alloc (.cells 4 [.int .i64 op,.int .i64 n,.int .i64 cp,va])).ldn ⟨a.nx,0,none⟩ 4=some [.int .i64 op,.int .i64 n,.int .i64 cp,va]:=bj f 4 rfl;generalize m:a.alloc (.cells 4 [.int .i64 op,.int .i64 n,.int .i64 cp,va])=M at l k j C B e;have I:=l.wf f;have X:=r.trans l;replace c:=l.ld c;by_cases h:0≤n∧n<V.length
 ·obtain ⟨h,h2⟩:=h
  obtain ⟨y,s⟩:∃y,V[n.toNat]?=some y:=⟨_,aqG (by omega)⟩
  obtain ⟨b,o,K,v,_,_,_,z⟩:=(t.ext X).at s;have i:al V n=y.cells:=by simp [al,s]
  rw [v]at c;simp (maxSteps:=9^7)-implicitDefEqProofs+contextual [-X.ev,Ds,p,m,c,k,j,h,h2,z,X,i,lU]
 ·have i:lU V op n=if op=0 then 0 else if(2≤op∧op≤11)∨op=13∨op=14 then 2 else if op=12 then 1 else if op=15 then 3 else-1:=by
   unfold lU;simp only [h,and_false,if_false]
  obtain ⟨L,J,u⟩:=t.len;rw [u]at c;by_cases h2:0≤n
  ·have A:¬ n<V.length:=fun q=>h ⟨h2,q⟩
   simp (maxSteps:=9^7)-implicitDefEqProofs+contextual [-X.ev,Ds,p,m,c,k,j,h2,A,X,i]
  ·simp (maxSteps:=9^7)-implicitDefEqProofs+contextual [-X.ev,Ds,p,m,c,k,j,h2,X,i]
open Go
def ux (w k:Int) (op n cp:Int):Bool:=
 if op=0 then !decide (n<0)&&(!decide (2^w.toNat≤n)&&decide (cp=0))else if op=1 then !decide (cp<0)&& !decide (k≤cp)else decide (n=0)&&decide (cp=0)
theorem vJ {w k:Int} (p:1≤w∧w≤8) (V:List Vr) (op n cp:Int) (g:Nat):e7 w V k op n cp g=(decide (lU V op n=g)&&ux w k op n cp):=by
 have o:bA w=true:=by simp [bA,p]
 unfold e7 ux lU;by_cases f:op=0
 ·subst f
  simp only [isWord,o,Bool.true_and];have:jf 0=0:=rfl;rw [arc];simp [this];omega
 by_cases d:op=1
 ·subst d
  have m:¬ ((1:Int)=0):=by omega
  have l:¬ ((2≤(1:Int)∧(1:Int)≤11)∨(1:Int)=13∨(1:Int)=14):=by omega
  have j:¬ ((1:Int)=12):=by omega
  have i:¬ ((1:Int)=15):=by omega
  simp only [if_true,if_neg m,if_neg l,if_neg j,if_neg i,true_and];rw [arc];generalize (if 1<al V n then(1:Int)else 0)=z;by_cases h2:0≤n∧n<V.length
  ·rw [if_pos h2]
   simp only [aqJ,Bool.not_eq_true',Bool.or_eq_false_iff,decide_eq_false_iff_not,aqS];omega
  ·rw [if_neg h2]
   simp only [aqJ,Bool.not_eq_true',Bool.or_eq_false_iff,decide_eq_false_iff_not,aqS];omega
 ·simp only [if_neg f,if_neg d,false_and,if_false]
  have e:jf op=if(2≤op∧op≤11)∨op=13∨op=14 then 2 else if op=12 then 1 else if op=15 then 3 else-1:=by
   unfold jf qN;rw [if_neg f];by_cases a:op=12
   ·subst a;simp
   by_cases b:op=15
   ·subst b;simp
   rw [if_neg a,if_neg b,if_neg a,if_neg b];by_cases c:(2≤op∧op≤11)∨op=13∨op=14
   ·rw [if_pos c,if_pos (by simpa using c)]
   ·rw [if_neg c,if_neg (by simpa using c)]
  rw [e,if_neg (show¬ (op=1∧0≤n∧n<V.length) from fun h=>d h.1)];generalize (if(2≤op∧op≤11)∨op=13∨op=14 then(2:Int)else if op=12 then 1 else if op=15 then 3 else-1)=z;rw [arc];simp;constructor
  ·rintro ⟨⟨a,b⟩,c⟩;exact ⟨b.symm,c,a⟩
  ·rintro ⟨a,b,c⟩;exact ⟨⟨c,a.symm⟩,b⟩
def gF (w:Int) (V:List Vr) (k:Int) (e:bQ) (deep left:Int):Bool:=decide (av e≤left)&&(decide (deep+cJ e≤17)&&dz w V k e)
theorem uy {w:Int} (a:1≤w∧w≤8):cj .shl (.int .i64 1) (.int .u64 (IntKind.u64.wrap w))=some (.int .i64 (2^w.toNat)):=by
 obtain ⟨b,h2⟩:=a
 obtain ⟨n,rfl⟩:∃n:Nat,w=n:=⟨w.toNat,by omega⟩
 have:n=1∨n=2∨n=3∨n=4∨n=5∨n=6∨n=7∨n=8:=by omega
 rcases this with rfl|rfl|rfl|rfl|rfl|rfl|rfl|rfl<;>rfl
theorem sM:∀{l:List bQ} {k:Int} {y:bQ},y∈l→cJ y≤c8 l k
 |x::l,k,y,h=>by
  rw [c8];rcases aqY.1 h with rfl|h
  ·have:∀(l:List bQ) (k:Int),k≤c8 l k:=by
    intro l
    induction l with
    |nil=>intro k;rw [c8];omega
    |cons z l ih=>intro k;rw [c8];have:=ih (max k (cJ z));omega
   have:=this l (max k (cJ y));omega
  ·exact sM h
theorem DC {l:List bQ} {k m:Int} (b:k≤m) (h:∀y∈l,cJ y≤m):c8 l k≤m:=by
 induction l generalizing k with
 |nil=>rw [c8];exact b
 |cons x l ih=>
  rw [c8];have:=h x (by simp);exact ih (by omega) fun y a=>h y (by simp [a])
set_option maxHeartbeats 2000000 in
theorem Li {w k:Int} (fR:1≤w∧w≤8) {vv:Value} {V:List Vr}:∀(N:Nat) (e:bQ) (c:List Value) (G H:AH) (deep left:Int) (b:Nat),SizeOf.sizeOf e<N→H.n0≤H.nx→Ext G H→G.nx≤b→dh G vv V→oO G c e→
 H.get b=some (.cells 1 [.int .i64 left])→H.n0≤b→0≤left∧left≤1000→1≤deep∧deep≤17→
 Ca E O 166 [.agg #[.int .i64 w,vv,.int .i64 k],.agg c.toArray,.int .i64 deep,.pointer (some ⟨b,0,none⟩)] H (fun x H'=>x= .bool (gF w V k e deep left)∧Mod (fun x=>x=b) H H'∧∃s,H'.get b=some (.cells 1 [.int .i64 s])∧(gF w V k e deep left=true→s=left- av e)):=by
 intro N
 induction N with
 |zero=>intro e c G H deep left b h;omega
 |succ N ih=>
  intro e c G H deep left b hN Z GX gb hv he hb xR aiG VM;have hbH:=AH.aS hb
  cases he with| @mk op n cp va rows args i1 i2 i3 hlen hr hl=>
  refine Ca.VH 4 (F:=xz) rfl rfl rfl rfl ?_
  obtain ⟨rest,cn⟩:∃r,sK 4 xz.body=r:=⟨_,rfl⟩
  rw [cn];have X1:=Ext.alloc H (.cells 3 [.int .i64 w,vv,.int .i64 k]);have S:(H.alloc (.cells 3 [.int .i64 w,vv,.int .i64 k])).ld ⟨H.nx,0,none⟩=some (.int .i64 w):=aj Z rfl;have d1:(H.alloc (.cells 3 [.int .i64 w,vv,.int .i64 k])).ld ⟨H.nx,1,none⟩=some vv:=aj Z rfl;have R:(H.alloc (.cells 3 [.int .i64 w,vv,.int .i64 k])).ld ⟨H.nx,2,none⟩=some (.int .i64 k):=aj Z rfl;have d:(H.alloc (.cells 3 [.int .i64 w,vv,.int .i64 k])).ldn ⟨H.nx,0,none⟩ 3=some [.int .i64 w,vv,.int .i64 k]:=bj Z 3 rfl;generalize cF:H.alloc (.cells 3 [.int .i64 w,vv,.int .i64 k])=f at X1 S d1 R d;have P:=X1.wf Z;have K:=Ext.alloc f (.cells 4 [.int .i64 op,.int .i64 n,.int .i64 cp,va]);have e0:(f.alloc (.cells 4 [.int .i64 op,.int .i64 n,.int .i64 cp,va])).ld ⟨f.nx,0,none⟩=some (.int .i64 op):=aj P rfl;have e1:(f.alloc (.cells 4 [.int .i64 op,.int .i64 n,.int .i64 cp,va])).ld ⟨f.nx,1,none⟩=some (.int .i64 n):=aj P rfl;have e2:(f.alloc (.cells 4 [.int .i64 op,.int .i64 n,.int .i64 cp,va])).ld ⟨f.nx,2,none⟩=some (.int .i64 cp):=aj P rfl;have e3:(f.alloc (.cells 4 [.int .i64 op,.int .i64 n,.int .i64 cp,va])).ld ⟨f.nx,3,none⟩=some va:=aj P rfl;have e:(f.alloc (.cells 4 [.int .i64 op,.int .i64 n,.int .i64 cp,va])).ldn ⟨f.nx,0,none⟩ 4=some [.int .i64 op,.int .i64 n,.int .i64 cp,va]:=bj P 4 rfl;generalize j0:f.alloc (.cells 4 [.int .i64 op,.int .i64 n,.int .i64 cp,va])=H2 at K e0 e1 e2 e3 e;have jh:=K.wf P;replace S:=K.ld S;replace d1:=K.ld d1;replace R:=K.ld R;replace d:=K.ldn d;have X:=X1.trans K;have N1:=X.get hb;have iP:H2.n0≤b:=by rw [X.n0];exact xR
  have u:=aG N1 iP (k:=0) rfl;obtain ⟨H3,s3,o,rG,mJ,Q⟩:=bR N1 iP (k:=0) (vs:=[.int .i64 (left- 1)]) (by simp);have tN:H3.n0≤b:=by rw [mJ];exact iP
  have Q:H3.get b=some (.cells 1 [.int .i64 (left- 1)]):=Q;have t:=aG Q tN (k:=0) rfl;have Ab:¬ H.nx=b:=by omega
  have W:¬ f.nx=b:=by have:=X1.nx;omega
  have D0:=o.ld (a:=⟨H.nx,0,none⟩) Ab S;have D2:=o.ld (a:=⟨H.nx,2,none⟩) Ab R;have D:=o.ldn (a:=⟨H.nx,0,none⟩) Ab d;have E0:=o.ld (a:=⟨f.nx,0,none⟩) W e0;have E1:=o.ld (a:=⟨f.nx,1,none⟩) W e1;have E2:=o.ld (a:=⟨f.nx,2,none⟩) W e2;have E3:=o.ld (a:=⟨f.nx,3,none⟩) W e3;have EE:=o.ldn (a:=⟨f.nx,0,none⟩) W e;have pN:=o.wf jh;have MX:Mod (fun x=>x=b) H H3:=(Mod.bT X).trans o;have GX3:Ext G H3:=GX.mod MX (by rintro x rfl;exact gb);have hnE:=a6 args;have hdE:=oQ (.mk op n cp args);obtain ⟨a3,c3,gg⟩:=hr.len;rw [hl.length]at gg;have FE:=E3;rw [gg]at FE;have wl:IntKind.i64.wrap (left- 1)=left- 1:=ai ⟨by omega,by omega⟩
  have no:∀q:¬ (1≤left∧deep≤16∧e7 w V k op n cp args.length=true),gF w V k (.mk op n cp args) deep left=false:=by
   intro q;rw [ark];intro h;have:av (.mk op n cp args)≤left∧deep+cJ (.mk op n cp args)≤17∧dz w V k (.mk op n cp args)=true:=by simpa [gF]using h
   rw [av,dz,aqJ]at this;exact q ⟨by omega,by omega,this.2.2.1⟩
  rw [vJ fR]at no
  obtain ⟨F,B⟩:∃F,gF w V k (.mk op n cp args) deep left=F:=⟨_,rfl⟩
  rw [B]at no⊢
  obtain ⟨NE,hNE⟩:∃F,av (.mk op n cp args)=F:=⟨_,rfl⟩
  rw [hNE];by_cases q1:left- 1<0
  ·have p:=no (by omega)
   simp (maxSteps:=9^7)-implicitDefEqProofs+contextual [-X.ev,xz,cF,j0,u,wl,s3,t,q1,bq,aM,aN,p,MX];exact ⟨_,Q⟩
  by_cases q2:16<deep
  ·have p:=no (by omega)
   simp (maxSteps:=9^7)-implicitDefEqProofs+contextual [-X.ev,xz,cF,j0,u,wl,s3,t,q1,q2,bq,aM,aN,p,MX];exact ⟨_,Q⟩
  simp (maxSteps:=9^7)-implicitDefEqProofs+contextual [-X.ev,xz,cF,j0,u,wl,s3,t,q1,q2,D,EE,FE];apply ah
  ·(simp-implicitDefEqProofs [-X.ev];rfl)
  refine (Gv pN (hv.ext GX3)).mono ?_;rintro x H4 ⟨rfl,g⟩;have L:=MX.trans (Mod.bT g);have FE4:=g.ld FE;have FEn:=bo.1 FE;have VN:=bo.1 FE4;have QA:=g.get Q
  have ex4:∃s,H4.get b=some (.cells 1 [.int .i64 s]):=⟨_,QA⟩
  have qO:=g.wf pN;have GX4:=GX3.trans g;have mK:H4.n0≤b:=by rw [g.n0];exact tN
  by_cases U:lU V op n=args.length
  case neg=>
   have p:=no (by simp [U]);simp (maxSteps:=9^7)-implicitDefEqProofs+contextual [-X.ev,U,bq,aM,aN,p,L,FEn,VN,g.n0,g.nx,ex4]
  have p:ux w k op n cp=false→F=false:=fun h=>no (by simp [h])
  have e0:=g.ld E0;have e1:=g.ld E1;have e2:=g.ld E2;have S:=g.ld D0;have R:=g.ld D2;have d:=g.ldn D;have e:=g.ldn EE
  suffices VP:∀l:Fr,ux w k op n cp=true→l.get 2= .int .i64 deep→l.get 3= .pointer (some ⟨b,0,none⟩)→l.get 4= .pointer (some ⟨H.nx,0,none⟩)→l.get 5= .pointer (some ⟨f.nx,0,none⟩)→
   Vk E O rest [] l H4 (xp [.tmp 8] fun x H'=>x= .bool F∧Mod (fun x=>x=b) H H'∧∃s,H'.get b=some (.cells 1 [.int .i64 s])∧(F=true→s=left- NE)) by
   have sh:=uy fR;simp (maxSteps:=9^7)-implicitDefEqProofs+contextual [-X.ev,U,bq,aM,aN,p,L,FEn,VN,g.n0,g.nx,ex4,ux,VP,e0,e1,e2,S,R,sh]
  intro l q4 J I C f5;subst cn;have e3:=FE4;simp (maxSteps:=9^7)-implicitDefEqProofs+contextual [-X.ev,sK,xz,J,I,C,f5,e3]
  refine cm (fun j l H'=>Mod (fun x=>x=b) H4 H'∧∃i:Nat,i+j=args.length∧l.get 2= .int .i64 deep∧l.get 3= .pointer (some ⟨b,0,none⟩)∧l.get 4= .pointer (some ⟨H.nx,0,none⟩)∧l.get 75=va∧l.get 76= .int .i64 args.length∧l.get 77= .int .i64 i∧
   H'.get b=some (.cells 1 [.int .i64 (left- 1- ar (args.take i))])∧1+ar (args.take i)≤left∧∀y∈args.take i,cJ y+deep≤16∧dz w V k y=true) ?_ args.length ⟨Mod.refl _ _,0,by simp,by simp [J],by simp [I],by simp [C],by simp [gg],by simp,by simp,by simpa [ar]using QA,by simp [ar];omega,by simp⟩
  rintro j l H5 ⟨M5,i,hi,J,I,C,f75,f76,f77,Jx,hle,aH⟩;have qP:=M5.wf qO;have N3:=L.trans M5;have VQ:Ext G H5:=GX.mod N3 (by rintro x rfl;exact gb);have dd:=M5.ldn (a:=⟨H.nx,0,none⟩) Ab d;by_cases h:i<args.length
  ·obtain ⟨y,m⟩:∃y,args[i]?=some y:=⟨_,aqG h⟩
   obtain ⟨b2,o2,c2,va2,r,cx,bL,rfl,mG⟩:=fY.row hr hl m;replace bL:=VQ.ldn bL;have aml:=f75;rw [cx]at f75;obtain ⟨M,Lk,T,QB,QC,q,Y⟩:=dZ (H:=H5) qP (z:=4) (c:=[.int .i64 0,.int .i64 0,.int .i64 0,.slice none 0 0]) (vs:=[.int .i64 y.op,.int .i64 y.n,.int .i64 y.cp,va2]) rfl;have q0:M.ld ⟨H5.nx,0,none⟩=some (.int .i64 y.op):=Y 0 _ rfl;have q1:M.ld ⟨H5.nx,1,none⟩=some (.int .i64 y.n):=Y 1 _ rfl;have q2:M.ld ⟨H5.nx,2,none⟩=some (.int .i64 y.cp):=Y 2 _ rfl;have U:M.ld ⟨H5.nx,3,none⟩=some va2:=Y 3 _ rfl;clear Y;replace q:M.ldn ⟨H5.nx,0,none⟩ 4=some [.int .i64 y.op,.int .i64 y.n,.int .i64 y.cp,va2]:=q;have Gw:=T.wf qP;replace dd:=T.ldn dd;have wd:IntKind.i64.wrap (deep+1)=deep+1:=ai ⟨by omega,by omega⟩;have t1:=fw m;have t2:=bO args (i+1);have t3:=bO args i;have t4:=ec y;have t5:=sM (k:=0) (aqL m);have hs:=kf (op:=op) (n:=n) (cp:=cp) m;have Gx:M.n0≤b:=by rw [T.n0,M5.n0];exact mK
   simp (maxSteps:=9^7)-implicitDefEqProofs+contextual [-X.ev,J,I,C,f75,f76,f77,h,bL,Lk,q,dd,wd];apply ah
   ·(simp-implicitDefEqProofs [-X.ev];rfl)
   refine (ih y _ G M (deep+1) (left- 1- ar (args.take i)) b (by omega) Gw (VQ.trans T) gb hv mG (T.get Jx) Gx (by omega) (by omega)).mono ?_;rintro x H7 ⟨rfl,M7,s,Tp,A⟩;have M67:=(Mod.bT T).trans M7
   cases q5:gF w V k y (deep+1) (left- 1- ar (args.take i))with
   |true=>
    have A:=A q5;have q5':av y≤left- 1- ar (args.take i)∧deep+1+cJ y≤17∧dz w V k y=true:=by simpa [gF]using q5
    simp (maxSteps:=9^7)-implicitDefEqProofs+contextual [-X.ev,J,I,C,f75,f76,f77,h];rw [ai (n:=(i:Int)+1) ⟨by omega,by omega⟩];refine ⟨j- 1,by omega,M5.trans M67,i+1,by omega,cx.symm,by simp,?_,by omega,fun z v=>?_⟩
    ·rw [Tp,A,t1]
     rw [show left- 1- ar (args.take i)- av y=left- 1- (ar (args.take i)+av y) by omega]
    ·rw [aq1,m]at v
     rcases aq0.1 v with v|v
     ·exact aH z v
     ·simp at v;subst v;exact ⟨by omega,q5'.2.2⟩
   |false=>
    have nJ:F=false:=by
     rw [ark];intro hT;rw [hT]at B;have B:av (.mk op n cp args)≤left∧deep+cJ (.mk op n cp args)≤17∧dz w V k (.mk op n cp args)=true:=by simpa [gF]using B
     rw [av,cJ,dz,aqJ]at B;have:=iU.1 B.2.2.2 y (aqL m);have:gF w V k y (deep+1) (left- 1- ar (args.take i))=true:=by simp [gF,this];omega
     rw [q5]at this;cases this
    simp (maxSteps:=9^7)-implicitDefEqProofs+contextual [-X.ev,J,I,C,f75,f76,f77,h,nJ,N3.trans M67];exact ⟨_,Tp⟩
  ·have Ac:F=true:=by
    rw [←B];rw [aqN (by omega)]at hle aH;have dQ:=iU.2 fun y m=>(aH y m).2
    have hdl:c8 args 0≤16- deep:=DC (by omega) fun y m=>by have:=(aH y m).1;omega
    have p:e7 w V k op n cp args.length=true:=by rw [vJ fR,q4];simp [U]
    have:av (.mk op n cp args)≤left∧deep+cJ (.mk op n cp args)≤17∧dz w V k (.mk op n cp args)=true:=by
     rw [av,cJ,dz,dQ,p];exact ⟨by omega,by omega,rfl⟩
    simp [gF,this]
   rw [aqN (by omega)]at Jx;rw [av]at hNE;simp (maxSteps:=9^7)-implicitDefEqProofs+contextual [-X.ev,J,I,C,f75,f76,f77,h,Ac,N3];rw [Jx,show left- 1- ar args=left- NE by omega]
end
section
open Go
theorem aP {w:Int} {V:List Vr} (h:aA w V=true):1≤w∧w≤8∧1≤V.length∧V.length≤18:=by
 simp [aA,bA]at h;omega
theorem ll {w:Int} {V:List Vr} (h:aA w V=true) {i:Nat} {v:Vr} (hi:V[i]?=some v):1≤v.cells∧v.cells≤8:=by
 rw [fQ]at h;simp only [aqJ,aqW]at h;have:=h.2.2.2.1 i (by simpa using(aqM.1 hi).1);rw [qa hi]at this;exact qL this
theorem vK (w:Int) (V:List Vr) (k:Int) (e:bQ):gF w V k e 1 400=gh w V k e:=by
 unfold gF gh;rw [show decide (1+cJ e≤17)=decide (cJ e≤16) by rw [arc];simp;omega]
def vL (w:Int) (V:List Vr) (k:Int) (e:bQ):Int:=if aA w V=true then(if k<1 then 1 else if 3<k then 1 else if gh w V k e=true then 0 else 20)else 1
theorem Gy {w k:Int} {vv:Value} {V:List Vr} {e:bQ} {c:List Value} {H:AH} (h:H.n0≤H.nx) (v:dh H vv V) (J:nL V) (y:oO H c e):
 Ca E O 155 [.agg #[.int .i64 w,vv,.int .i64 k],.agg c.toArray] H (fun x H'=>x= .int .i64 (vL w V k e)∧Ext H H'):=by
 refine Ca.aW (F:=Kw) rfl rfl rfl ?_;have T:c.length=4:=by cases y;rfl
 have r:=Ext.alloc H (.cells 3 [.int .i64 w,vv,.int .i64 k]);have n:(H.alloc (.cells 3 [.int .i64 w,vv,.int .i64 k])).ld ⟨H.nx,0,none⟩=some (.int .i64 w):=aj h rfl;have m:(H.alloc (.cells 3 [.int .i64 w,vv,.int .i64 k])).ld ⟨H.nx,1,none⟩=some vv:=aj h rfl;have a:(H.alloc (.cells 3 [.int .i64 w,vv,.int .i64 k])).ld ⟨H.nx,2,none⟩=some (.int .i64 k):=aj h rfl;have d:(H.alloc (.cells 3 [.int .i64 w,vv,.int .i64 k])).ldn ⟨H.nx,0,none⟩ 3=some [.int .i64 w,vv,.int .i64 k]:=bj h 3 rfl;generalize L:H.alloc (.cells 3 [.int .i64 w,vv,.int .i64 k])=o at r n m a d;have t:=r.wf h;have f:=Ext.alloc o (.cells c.length c);have q:(o.alloc (.cells c.length c)).ldn ⟨o.nx,0,none⟩ 4=some c:=bj t 4 (by assumption);generalize K:o.alloc (.cells c.length c)=W at f q;have s:=f.wf t;replace n:=f.ld n;replace m:=f.ld m;replace a:=f.ld a;replace d:=f.ldn d;have X:=r.trans f;simp (maxSteps:=9^7)-implicitDefEqProofs+contextual [-X.ev,Kw,L,K,n,m];apply ah
 ·(simp-implicitDefEqProofs [-X.ev];rfl)
 refine (BC s (v.ext X) J w).mono ?_;rintro x C ⟨rfl,j⟩;replace a:=j.ld a;replace d:=j.ldn d;replace q:=j.ldn q;have g:=X.trans j
 cases b:aA w V with
 |false=>
  simp (maxSteps:=9^7)-implicitDefEqProofs+contextual [-X.ev,b,vL,g]
 |true=>
  by_cases h2:k<1
  ·simp (maxSteps:=9^7)-implicitDefEqProofs+contextual [-X.ev,b,h2,a,vL,g]
  by_cases l:3<k
  ·simp (maxSteps:=9^7)-implicitDefEqProofs+contextual [-X.ev,b,h2,l,a,vL,g]
  have u:=aP b;have p:=j.wf s;obtain ⟨P,D,i,Q,G,M⟩:=iK p (z:=1) (c:=[.int .i64 0]) (vs:=[.int .i64 400]) rfl;replace d:=i.ldn d;replace q:=i.ldn q;simp (maxSteps:=9^7)-implicitDefEqProofs+contextual [-X.ev,b,h2,l,a,D,d,q];have I:=i.wf p;apply ah
  ·(simp-implicitDefEqProofs [-X.ev];rfl)
  refine (Li ⟨u.1,u.2.1⟩ _ e c C P 1 400 C.nx (aqV _) I i (aqK _) (v.ext g) (y.ext g) M (by rw [G];exact p) (by omega) (by omega)).mono ?_;rintro x H5 ⟨rfl,N,R,U,S⟩;have B:Ext H H5:=g.trans (i.mod N (by rintro x rfl;exact aqK _));rw [vK]
  cases A:gh w V k e with
  |true=>
   simp (maxSteps:=9^7)-implicitDefEqProofs+contextual [-X.ev,b,h2,l,A,vL,B]
  |false=>
   simp (maxSteps:=9^7)-implicitDefEqProofs+contextual [-X.ev,b,h2,l,A,vL,B]
theorem DD {w k:Int} {d:Value} {V:List Vr} {e:bQ} {c:List Value} {H:AH} (f:H.n0≤H.nx) (g:dh H d V) (l:nL V) (h:oO H c e):
 Ca E O 131 [.int .i64 w,d,.int .i64 k,.agg c.toArray] H (fun x H'=>x= .int .i64 (vL w V k e)∧Ext H H'):=by
 refine Ca.aW (F:=a131) rfl rfl rfl ?_;have p:c.length=4:=by cases h;rfl
 have b:=Ext.alloc H (.cells c.length c);have q:(H.alloc (.cells c.length c)).ldn ⟨H.nx,0,none⟩ 4=some c:=bj f 4 (by assumption);generalize n:H.alloc (.cells c.length c)=s at b q;have i:=b.wf f
 have m:eS [.int .i64 0,.slice none 0 0,.int .i64 0] [(0,1,.int .i64 w),(1,1,d),(2,1,.int .i64 k)]=some (.agg #[.int .i64 w,d,.int .i64 k]):=by
  obtain ⟨a,c,j⟩:=g.len;rw [j];rfl
 simp (maxSteps:=9^7)-implicitDefEqProofs+contextual [-X.ev,a131,n,q,m];apply ah
 ·(simp-implicitDefEqProofs [-X.ev];rfl)
 refine (Gy i (g.ext b) l (h.ext b)).mono ?_;rintro x r ⟨rfl,o⟩;simp (maxSteps:=9^7)-implicitDefEqProofs+contextual [-X.ev,b.trans o]
def nz (V:List Vr) (op n:Int):Int:=
 let z:=if 0≤n∧n<V.length then al V n else 0
 if op=0 then(if z=0 then-1 else if 1<z then 2 else 1)else if op=4 then(if z=0 then-1 else if 1<z then 1 else 0)else
 if op=3 then(if n<0 then-1 else if 47<n then-1 else 1)else
 if op=1 then(if n=0 then 1 else-1)else if op=2 then(if n=0 then 1 else-1)else if op=5 then(if n=0 then 1 else-1)else if op=6 then(if n=0 then 1 else-1)else-1
theorem Gz {w op n:Int} {vv vb va vt ve:Value} {V:List Vr} {H:AH} (i:H.n0≤H.nx) (z:dh H vv V):
 Ca E O 130 [.agg #[.int .i64 w,vv,vb],.agg #[.int .i64 op,.int .i64 n,va,vt,ve]] H (fun x H'=>x= .int .i64 (nz V op n)∧Ext H H'):=by
 refine Ca.aW (F:=a130) rfl rfl rfl ?_;have u:=Ext.alloc H (.cells 3 [.int .i64 w,vv,vb]);have M:(H.alloc (.cells 3 [.int .i64 w,vv,vb])).ld ⟨H.nx,0,none⟩=some (.int .i64 w):=aj i rfl;have f:(H.alloc (.cells 3 [.int .i64 w,vv,vb])).ld ⟨H.nx,1,none⟩=some vv:=aj i rfl;have L:(H.alloc (.cells 3 [.int .i64 w,vv,vb])).ld ⟨H.nx,2,none⟩=some vb:=aj i rfl;have d:(H.alloc (.cells 3 [.int .i64 w,vv,vb])).ldn ⟨H.nx,0,none⟩ 3=some [.int .i64 w,vv,vb]:=bj i 3 rfl;generalize t:H.alloc (.cells 3 [.int .i64 w,vv,vb])=a at u M f L d;have g:=u.wf i;have l:=Ext.alloc a (.cells 5 [.int .i64 op,.int .i64 n,va,vt,ve]);have k:(a.alloc (.cells 5 [.int .i64 op,.int .i64 n,va,vt,ve])).ld ⟨a.nx,0,none⟩=some (.int .i64 op):=aj g rfl;have j:(a.alloc (.cells 5 [.int .i64 op,.int .i64 n,va,vt,ve])).ld ⟨a.nx,1,none⟩=some (.int .i64 n):=aj g rfl;have K:(a.alloc (.cells 5 [.int .i64 op,.int .i64 n,va,vt,ve])).ld ⟨a.nx,2,none⟩=some va:=aj g rfl;have J:(a.alloc (.cells 5 [.int .i64 op,.int .i64 n,va,vt,ve])).ld ⟨a.nx,3,none⟩=some vt:=aj g rfl;have I:(a.alloc (.cells 5 [.int .i64 op,.int .i64 n,va,vt,ve])).ld ⟨a.nx,4,none⟩=some ve:=aj g rfl;have e:(a.alloc (.cells 5 [.int .i64 op,.int .i64 n,va,vt,ve])).ldn ⟨a.nx,0,none⟩ 5=some [.int .i64 op,.int .i64 n,va,vt,ve]:=bj g 5 rfl;generalize s:a.alloc (.cells 5 [.int .i64 op,.int .i64 n,va,vt,ve])=S at l k j K J I e;have N:=l.wf g;replace f:=l.ld f;have X:=u.trans l;have p:IntKind.i64.wrap 1=1:=by rfl
 have m:IntKind.i64.wrap 2=2:=by rfl
 by_cases h:0≤n∧n<V.length
 ·obtain ⟨y,v⟩:∃y,V[n.toNat]?=some y:=⟨_,aqG (by omega)⟩
  obtain ⟨b,o,Q,B,_,_,_,C⟩:=(z.ext X).at v;have D:al V n=y.cells:=by simp [al,v]
  have r:(if 0≤n∧n<V.length then al V n else 0)=y.cells:=by rw [if_pos h,D]
  obtain ⟨F,c⟩:∃F,nz V op n=F:=⟨_,rfl⟩
  rw [c];unfold nz at c;rw [r]at c;rw [B]at f;obtain ⟨h,h2⟩:=h;simp (maxSteps:=9^7)-implicitDefEqProofs+contextual [-X.ev,a130,t,s,f,k,j,h,h2,C,X,p,m,←c]
 ·have r:(if 0≤n∧n<V.length then al V n else 0)=0:=if_neg h
  obtain ⟨F,c⟩:∃F,nz V op n=F:=⟨_,rfl⟩
  rw [c];unfold nz at c;rw [r]at c;obtain ⟨R,P,A⟩:=z.len;rw [A]at f;by_cases h2:0≤n
  ·have G:¬ n<V.length:=fun q=>h ⟨h2,q⟩
   simp (maxSteps:=9^7)-implicitDefEqProofs+contextual [-X.ev,a130,t,s,f,k,j,h2,G,X,p,m,←c]
  ·simp (maxSteps:=9^7)-implicitDefEqProofs+contextual [-X.ev,a130,t,s,f,k,j,h2,X,p,m,←c]
open Go
mutual
def bu:bh→Int
 | .mk _ _ _ aB aE=>1+aC aB+aC aE
def aC:List bh→Int
 |[]=>0
 |s::ss=>bu s+aC ss
end
theorem dX {l:List bh} {i:Nat} {y:bh} (h:l[i]?=some y):au (l.take (i+1))=au (l.take i)+bc y:=by
 induction l generalizing i with
 |nil=>simp at h
 |cons x l ih=>
  cases i with
  |zero=>simp at h;subst h;simp [au]
  |succ i=>simp only [List.take_succ_cons,au];rw [ih (by simpa using h)];omega
theorem jG {l:List bh} {i:Nat} {y:bh} (h:l[i]?=some y):aC (l.take (i+1))=aC (l.take i)+bu y:=by
 induction l generalizing i with
 |nil=>simp at h
 |cons x l ih=>
  cases i with
  |zero=>simp at h;subst h;simp [aC]
  |succ i=>simp only [List.take_succ_cons,aC];rw [ih (by simpa using h)];omega
theorem cz (l:List bh):0≤au l:=(dm l).1
theorem lV:∀s:bh,1≤bc s
 | .mk op n args a b=>by
  rw [bc];have:=a6 args;have:=cz a;have:=cz b;omega
theorem a8 (l:List bh) (i:Nat):0≤au (l.take i)∧au (l.take i)≤au l:=by
 induction l generalizing i with
 |nil=>simp [au]
 |cons x l ih=>
  have a:=lV x;have h2:=cz l
  cases i with
  |zero=>simp only [List.take_zero,au];omega
  |succ i=>simp only [List.take_succ_cons,au];have:=ih i;omega
theorem bf:∀l:List bh,0≤aC l∧aC l≤au l:=vH fun l ih=>by
 induction l with
 |nil=>simp [aC,au]
 |cons s d c=>
  obtain ⟨op,n,args,a,b⟩:=s;have e:=ih op n args a b (by simp);have h2:=c fun op n args a b h=>ih op n args a b (by simp [h])
  have:=a6 args;rw [aC,bu,au,bc];omega
theorem dq (l:List bh) (i:Nat):0≤aC (l.take i)∧aC (l.take i)≤au (l.take i):=bf _
theorem kM {op n:Int} {args:List bQ} {a b:List bh}:∀{l:List bh} {k:Int},bh.mk op n args a b∈l→1+bk a 0≤bk l k∧1+bk b 0≤bk l k
 |x::l,k,h=>by
  rw [bk]
  have mono:∀(l:List bh) (k:Int),k≤bk l k:=by
   intro l
   induction l with
   |nil=>intro k;rw [bk];omega
   |cons z l ih=>
    obtain ⟨op,n,args,a,b⟩:=z;intro k;rw [bk,jF];have:=ih (max (max k (1+bk a 0)) (1+bk b 0));omega
  rcases aqY.1 h with rfl|h
  ·have:=mono l (jF (.mk op n args a b) k)
   rw [jF]at this⊢;omega
  ·exact kM h
theorem DE {l:List bh} {k m:Int} (d:k≤m) (h:∀op n args a b,bh.mk op n args a b∈l→1+bk a 0≤m∧1+bk b 0≤m):bk l k≤m:=by
 induction l generalizing k with
 |nil=>rw [bk];exact d
 |cons x l ih=>
  obtain ⟨op,n,args,a,b⟩:=x;rw [bk,jF];have:=h op n args a b (by simp);exact ih (by omega) fun op n args a b c=>h op n args a b (by simp [c])
def sN (op:Int) (nt ne:Nat):Bool:=!(decide (0<nt)&&(!decide (op=1)&& !decide (op=2)))&& !(decide (0<ne)&& !decide (op=1))
theorem uz {w:Int} {V:List Vr} (r:aA w V=true) (op n:Int) (c l ne:Nat):b9 V op n c l ne=(decide (nz V op n=c)&&sN op l ne):=by
 have m:∀more:Int,0≤more→lS V n c more=decide ((if(if 0≤n∧n<V.length then al V n else 0)=0 then-1 else if 1<(if 0≤n∧n<V.length then al V n else 0)then more+1 else more)=(c:Int)):=by
  intro more s;unfold lS;by_cases h:0≤n∧n<V.length
  ·obtain ⟨y,o⟩:∃y,V[n.toNat]?=some y:=⟨_,aqG (by omega)⟩
   have q:al V n=y.cells:=by simp [al,o]
   have:=ll r o;have p:¬ y.cells=0:=by omega
   rw [if_pos h,q,if_neg p];simp only [h.1,h.2,decide_true,Bool.true_and];by_cases h2:1<y.cells
   ·rw [if_pos h2,if_pos h2];rw [arc];simp;omega
   ·rw [if_neg h2,if_neg h2];rw [arc];simp;omega
  ·rw [if_neg h,if_pos rfl]
   rw [arc];simp;omega
 unfold b9 nz sN;by_cases k:op=0
 ·subst k
  rw [m 1 (by omega)];simp only [if_true];rw [show(1:Int)+1=2 by rfl];generalize decide ((if(if 0≤n∧n<V.length then al V n else 0)=0 then(-1:Int)else if 1<(if 0≤n∧n<V.length then al V n else 0)then 2 else 1)=c)=A;rw [arc];cases A<;>simp
 by_cases f:op=4
 ·subst f
  rw [m 0 (by omega)];simp only [if_true,if_neg (show¬ (4:Int)=0 by omega),if_neg (show¬ (4:Int)=1 by omega),if_neg (show¬ (4:Int)=2 by omega),if_neg (show¬ (4:Int)=3 by omega)];rw [show(0:Int)+1=1 by rfl];generalize decide ((if(if 0≤n∧n<V.length then al V n else 0)=0 then(-1:Int)else if 1<(if 0≤n∧n<V.length then al V n else 0)then 1 else 0)=c)=A;rw [arc];cases A<;>simp
 simp only [if_neg k,if_neg f];rw [arc];by_cases g:op=3
 ·subst g
  rw [if_neg (by omega),if_neg (by omega),if_pos rfl,if_pos rfl];by_cases a:n<0
  ·rw [if_pos a];simp;omega
  ·by_cases b:47<n
   ·rw [if_neg a,if_pos b];simp;omega
   ·rw [if_neg a,if_neg b];simp;omega
 by_cases j:op=1
 ·subst j
  by_cases a:n=0
  ·simp [a]<;>omega
  ·simp [a]
 by_cases i:op=2
 ·subst i
  by_cases a:n=0
  ·simp [a]<;>omega
  ·simp [a]
 by_cases e:op=5
 ·subst e
  by_cases a:n=0
  ·simp [a]<;>omega
  ·simp [a]
 by_cases d:op=6
 ·subst d
  by_cases a:n=0
  ·simp [a]<;>omega
  ·simp [a]
 simp [g,j,i,e,d]
theorem GA (V:List Vr) (op n:Int):nz V op n≤2:=by
 unfold nz;dsimp only
 repeat' split
 all_goals omega
end
end Go.Proofs.YtppcmpmnglaleaaGreatDoor.A
