/- Texts that stand one behind the other: S6, S7, S8, S9, S10, S11, S12, S13, S14, AbsO, AbsP, S15, S16, S17, S18, S19, S20. -/
import Derived.Test.YtppcmpmnglaleaaGreatDoorG14
set_option linter.unusedVariables false
set_option linter.unusedSimpArgs false
namespace Go.Proofs.YtppcmpmnglaleaaGreatDoor.A
section
open Go
def al (l:List Vr) (n:Int):Int:=match l[n.toNat]? with|some v=>v.cells|none=>0
def eX (w:Int) (l:List Vr) (k:Int) (op n cp:Int) (na:Nat):Bool:=
 if op=1 then(!(decide (n<0)||(decide ((l.length:Int)≤n)||(decide (cp<0)||decide (k≤cp))))&&decide ((na:Int)=if 1<al l n then 1 else 0))
 else(!(!decide (cp=0)|| !decide ((na:Int)=iN op))&&(if op=0 then isWord w n else decide (n=0)))
theorem KO {w k op n cp:Int} {v va:Value} {l:List Vr} {rows:List (List Value)} {H:AH} (h:H.n0≤H.nx) (B:de H v l) (N:l.length<2^60) (I:Rows H 4 va rows) (M:rows.length<2^60):
 Ca E O 156 [.int .i64 w,v,.int .i64 k,.agg #[.int .i64 op,.int .i64 n,.int .i64 cp,va]] H (fun x H'=>x= .bool (eX w l k op n cp rows.length)∧Ext H H'):=by
 refine Ca.dK (F:=a156) rfl rfl rfl ?_;obtain ⟨T,Q,A⟩:=I.len;obtain ⟨S,P,r⟩:=B.len;by_cases m:op=1
 ·subst m
  have d:=Ext.alloc H (.cells 4 [.int .i64 1,.int .i64 n,.int .i64 cp,va]);have a:(H.alloc (.cells 4 [.int .i64 1,.int .i64 n,.int .i64 cp,va])).ld ⟨H.nx,0,none⟩=some (.int .i64 1):=aj h rfl;have c:(H.alloc (.cells 4 [.int .i64 1,.int .i64 n,.int .i64 cp,va])).ld ⟨H.nx,1,none⟩=some (.int .i64 n):=aj h rfl;have e:(H.alloc (.cells 4 [.int .i64 1,.int .i64 n,.int .i64 cp,va])).ld ⟨H.nx,2,none⟩=some (.int .i64 cp):=aj h rfl;have f:(H.alloc (.cells 4 [.int .i64 1,.int .i64 n,.int .i64 cp,va])).ld ⟨H.nx,3,none⟩=some va:=aj h rfl;generalize j:H.alloc (.cells 4 [.int .i64 1,.int .i64 n,.int .i64 cp,va])=u at d a c e f;by_cases h2:n<0
  ·simp-implicitDefEqProofs [a156,ar,j,a,c,e,h2,eX]
   exact d
  by_cases g:(l.length:Int)≤n
  ·simp-implicitDefEqProofs [a156,ar,j,a,c,e,h2,g,r,eX]
   exact d
  by_cases i:cp<0
  ·simp-implicitDefEqProofs [a156,ar,j,a,c,e,h2,g,i,r,eX]
   exact d
  by_cases C:k≤cp
  ·simp-implicitDefEqProofs [a156,ar,j,a,c,e,h2,g,i,C,r,eX]
   exact d
  obtain ⟨y,z⟩:∃y,l[n.toNat]?=some y:=⟨_,aqU (by omega)⟩
  obtain ⟨b,o,R,G,_,_,_,K⟩:=(B.ext d).at z;simp-implicitDefEqProofs [a156,ar,j,a,c,e,h2,g,i,C,r,eX];refine nX _ _ ?_;have t:0≤n:=by omega
  have s:n<l.length:=by omega
  rw [←r,G,A]at*;simp-implicitDefEqProofs [ar,c,f,t,s,K];refine lV ?_;simp-implicitDefEqProofs;have q:=bf.1 f;have J:=F8 (decide (1<y.cells)) u;refine J.mono ?_;rintro x D ⟨rfl,rfl⟩;simp-implicitDefEqProofs [ar,ts,chain,jI,nth,AO.wanted,ei,sameAt,eu,cU,q];have L:al l n=y.cells:=by simp [al,z]
  exact ⟨by rw [L],d⟩
 ·have d:=Ext.alloc H (.cells 4 [.int .i64 op,.int .i64 n,.int .i64 cp,va])
  have a:(H.alloc (.cells 4 [.int .i64 op,.int .i64 n,.int .i64 cp,va])).ld ⟨H.nx,0,none⟩=some (.int .i64 op):=aj h rfl;have c:(H.alloc (.cells 4 [.int .i64 op,.int .i64 n,.int .i64 cp,va])).ld ⟨H.nx,1,none⟩=some (.int .i64 n):=aj h rfl;have e:(H.alloc (.cells 4 [.int .i64 op,.int .i64 n,.int .i64 cp,va])).ld ⟨H.nx,2,none⟩=some (.int .i64 cp):=aj h rfl;have f:(H.alloc (.cells 4 [.int .i64 op,.int .i64 n,.int .i64 cp,va])).ld ⟨H.nx,3,none⟩=some va:=aj h rfl;generalize j:H.alloc (.cells 4 [.int .i64 op,.int .i64 n,.int .i64 cp,va])=u at d a c e f;have q:=bf.1 f;have p:=bf.1 a;simp-implicitDefEqProofs [a156,ar,j,a,m];refine nX _ _ ?_;by_cases h2:cp=0
  case neg=>
   simp-implicitDefEqProofs [ar,ts,chain,jI,nth,AO.wanted,ei,sameAt,eu,cU,a,c,e,f,q,p,m,h2,eX];exact d
  rw [A]at f q;simp-implicitDefEqProofs [ar,a,c,e,f,m,h2];refine lV ?_;simp-implicitDefEqProofs;refine (KN op u).mono ?_;rintro x D ⟨rfl,rfl⟩;by_cases g:(rows.length:Int)=iN op
  case neg=>
   simp-implicitDefEqProofs [ar,ts,chain,jI,nth,AO.wanted,ei,sameAt,eu,cU,a,c,e,f,q,p,m,h2,g,eX];exact d
  simp-implicitDefEqProofs [ar,ts,chain,jI,nth,AO.wanted,ei,sameAt,eu,cU,a,c,e,f,q,p,m,h2,g];by_cases i:op=0
  case neg=>
   simp-implicitDefEqProofs [ar,a,c,m,h2,g,i,eX];exact d
  simp-implicitDefEqProofs [ar,a,c,i];refine bk ?_;simp-implicitDefEqProofs;refine (KE w n D).mono ?_;rintro x U ⟨rfl,rfl⟩;rw [i]at g;simp-implicitDefEqProofs [ar,eX,h2,g,i];exact d
mutual
def cY (w:Int) (l:List Vr) (k:Int):bV→Bool
 | .mk op n cp args=>eX w l k op n cp args.length&&tU w l k args
def tU (w:Int) (l:List Vr) (k:Int):List bV→Bool
 |[]=>true
 |e::es=>cY w l k e&&tU w l k es
end
theorem iE {w:Int} {l:List Vr} {k:Int}:∀{es:List bV},tU w l k es=true↔∀e∈es,cY w l k e=true
 |[]=>by simp [tU]
 |e::es=>by simp [tU,iE (es:=es)]
theorem KP {w k:Int} {v:Value} {l:List Vr} (Y:l.length<2^60):∀(N:Nat) (e:bV) (c:List Value) (H:AH),SizeOf.sizeOf e<N→H.n0≤H.nx→de H v l→oh H c e→
 Ca E O 139 [.int .i64 w,v,.int .i64 k,.agg c.toArray] H (fun x H'=>x= .bool (cY w l k e)∧Ext H H'):=by
 intro N
 induction N with
 |zero=>intro e c H h;omega
 |succ N ih=>
  intro e c H hN p P he
  cases he with| @mk op n cp va rows args i1 i2 i3 R D Q=>
  refine Ca.dK (F:=a139) rfl rfl rfl ?_;have g:=Ext.alloc H (.cells 4 [.int .i64 op,.int .i64 n,.int .i64 cp,va]);have S:(H.alloc (.cells 4 [.int .i64 op,.int .i64 n,.int .i64 cp,va])).ld ⟨H.nx,3,none⟩=some va:=aj p rfl;have d:=a7 p (z:=4) (c:=[.int .i64 op,.int .i64 n,.int .i64 cp,va]) 4 rfl;generalize cz:H.alloc (.cells 4 [.int .i64 op,.int .i64 n,.int .i64 cp,va])=H1 at g S d;simp-implicitDefEqProofs [a139,ar,cz,d];refine bk ?_;simp-implicitDefEqProofs;have C:=Q.length;refine (KO (w:=w) (k:=k) (op:=op) (n:=n) (cp:=cp) (g.wf p) (P.ext g) Y (D.ext g) (by omega)).mono ?_;rintro x H2 ⟨rfl,K⟩;rw [C]
  cases I:eX w l k op n cp args.length with
  |false=>
   simp-implicitDefEqProofs [ar,I,cY];exact g.trans K
  |true=>
   simp-implicitDefEqProofs [ar,I];obtain ⟨a0,c0,L⟩:=D.len;rw [C]at L;refine eO (fun j f H'=>Ext H2 H'∧∃i:Nat,i+j=args.length∧f.get 0= .int .i64 w∧f.get 1=v∧f.get 2= .int .i64 k∧f.get 7= .pointer (some ⟨H.nx,0,none⟩)∧f.get 9= .int .i64 i∧∀e∈args.take i,cY w l k e=true) ?_ args.length ⟨Ext.refl _,0,by simp,by simp,by simp,by simp,by simp,by simp,by simp⟩;rintro j f H3 ⟨J,i,hi,A,u,t,s,q,G⟩;have X:=g.trans (K.trans J);have B:=(K.trans J).ld S;have U:=X.wf p;by_cases h:i<args.length
   ·obtain ⟨y,m⟩:∃y,args[i]?=some y:=⟨_,aqU h⟩
    obtain ⟨r,V,Z⟩:=Q.at m;obtain ⟨b,o,c',M,W⟩:=(D.ext X).at V;rw [C]at M;rw [M]at B;simp-implicitDefEqProofs [ar,A,u,t,s,q,B,h,W];refine bk ?_;simp-implicitDefEqProofs [A,u,t];have hs:=jP (op:=op) (n:=n) (cp:=cp) m;refine (ih y r H3 (by omega) U (P.ext X) (Z.ext X)).mono ?_;rintro x H4 ⟨rfl,T⟩
    cases h2:cY w l k y with
    |true=>
     simp-implicitDefEqProofs [ar,A,u,t,s,q,h2];rw [ai (n:=(i:Int)+1) ⟨by omega,by omega⟩];refine ⟨j- 1,by omega,J.trans T,i+1,by omega,by simp,fun z a=>?_⟩;rw [arf,m]at a;rcases are.1 a with a|a
     ·exact G z a
     ·simp at a;subst a;exact h2
    |false=>
     simp-implicitDefEqProofs [ar,A,u,t,s,q,h2];refine ⟨?_,X.trans T⟩
     have:tU w l k args=false:=by
      rw [arA];intro e;have:=iE.1 e y (aqZ m);rw [h2]at this;cases this
     rw [cY,this,Bool.and_false]
   ·rw [L]at B
    simp-implicitDefEqProofs [ar,s,q,B,h];rw [aq1 (by omega)]at G;refine ⟨?_,X⟩;rw [cY,I,iE.2 G];rfl
def fX (w:Int) (l:List Vr) (k:Int) (e:bV):Bool:=decide (av e≤400)&&(decide (cB e≤16)&&cY w l k e)
theorem Vd {w k:Int} {v:Value} {l:List Vr} (p:l.length<2^60) {e:bV} {c:List Value} {H:AH} (h:H.n0≤H.nx) (o:de H v l) (i:oh H c e):
 Ca E O 102 [.int .i64 w,v,.int .i64 k,.agg c.toArray] H (fun x H'=>x= .bool (fX w l k e)∧Ext H H'):=by
 refine Ca.dK (F:=Ke) rfl rfl rfl ?_;have q:c.length=4:=by cases i;rfl
 have a:=Ext.alloc H (.cells c.length c);have d:=a7 h (z:=c.length) (c:=c) 4 q;generalize r:H.alloc (.cells c.length c)=A at a d;simp-implicitDefEqProofs [Ke,ar,r,d];refine bk ?_;simp-implicitDefEqProofs;refine (KM (a.wf h) (i.ext a) (by omega)).mono ?_;rintro x u ⟨rfl,f⟩;by_cases b:av e≤400
 case neg=>
  simp-implicitDefEqProofs [ar,b,fX];exact a.trans f
 have m:=f.ldn d;simp-implicitDefEqProofs [ar,b,m];refine bk ?_;simp-implicitDefEqProofs;refine (Ge _ e c u (aq9 _) ((a.trans f).wf h) (i.ext (a.trans f)) (by omega)).mono ?_;rintro x t ⟨rfl,n⟩;have g:=a.trans (f.trans n);by_cases h2:cB e≤16
 case neg=>
  simp-implicitDefEqProofs [ar,b,h2,fX];exact g
 have j:=n.ldn m;simp-implicitDefEqProofs [ar,b,h2,j];refine bk ?_;simp-implicitDefEqProofs;refine (KP p _ e c t (aq9 _) (g.wf h) (o.ext g) (i.ext g)).mono ?_;rintro x y ⟨rfl,s⟩;simp-implicitDefEqProofs [ar,b,h2,fX];exact g.trans s
open Go
inductive bE where
 |mk (op n:Int) (args:List bV) (aB aE:List bE)
mutual
inductive nk (H:AH):List Value→bE→Prop where
 |mk {op n:Int} {va vt ve:Value} {ra rt re:List (List Value)} {args:List bV} {aB aE:List bE}:jG op→jG n→args.length<2^60→aB.length<2^60→aE.length<2^60→
  Rows H 4 va ra→fU H ra args→Rows H 5 vt rt→gE H rt aB→Rows H 5 ve re→gE H re aE→nk H [.int .i64 op,.int .i64 n,va,vt,ve] (.mk op n args aB aE)
inductive gE (H:AH):List (List Value)→List bE→Prop where
 |nil:gE H [] []
 |cons {r:List Value} {e:bE} {rs:List (List Value)} {es:List bE}:nk H r e→gE H rs es→gE H (r::rs) (e::es)
end
mutual
theorem nk.ext {H H':AH} (E:Ext H H') {c:List Value} {e:bE}:nk H c e→nk H' c e
 | .mk a b c d e g h rt lt f le=>.mk a b c d e (g.ext E) (fU.ext E h) (rt.ext E) (gE.ext E lt) (f.ext E) (gE.ext E le)
theorem gE.ext {H H':AH} (E:Ext H H') {c:List (List Value)} {e:List bE}:gE H c e→gE H' c e
 | .nil=>.nil
 | .cons a b=>.cons (nk.ext E a) (gE.ext E b)
end
theorem gE.length {H:AH}:∀{c:List (List Value)} {e:List bE},gE H c e→c.length=e.length
 |_,_,.nil=>rfl
 |_,_,.cons _ b=>by simp [gE.length b]
theorem gE.at {H:AH}:∀{c:List (List Value)} {e:List bE} {i:Nat} {x:bE},gE H c e→e[i]?=some x→∃r,c[i]?=some r∧nk H r x
 |_,_,i,x,.nil,h=>by simp at h
 |_,_,0,x,.cons a b,h=>by simp at h;subst h;exact ⟨_,rfl,a⟩
 |_,_,i+1,x,.cons a b,h=>by obtain ⟨r,d,h2⟩:=gE.at b (by simpa using h);exact ⟨r,by simpa using d,h2⟩
theorem ot {l:List bE} {i:Nat} {op n:Int} {args:List bV} {a b:List bE} (h:l[i]?=some (.mk op n args a b)):SizeOf.sizeOf a<SizeOf.sizeOf l∧SizeOf.sizeOf b<SizeOf.sizeOf l:=by
 have:=ars (aqZ h);simp at this;omega
mutual
def uX:bE→Int→Int
 | .mk _ _ args aB aE,m=>cN aE (cN aB (dm args (m- 1)))
def cN:List bE→Int→Int
 |[],m=>m
 |s::ss,m=>if 0<m then cN ss (uX s m)else m
end
theorem gE.row {H:AH} {v:Value} {rows:List (List Value)} {l:List bE} (w:Rows H 5 v rows) (h:gE H rows l) {i:Nat} {op n:Int} {args:List bV} {f aE:List bE} (t:l[i]?=some (.mk op n args f aE)):
 ∃b o c va vt ve e rt d,v= .slice (some ⟨b,o,none⟩) l.length c∧H.ldn ⟨b,o+i*5,none⟩ 5=some [.int .i64 op,.int .i64 n,va,vt,ve]∧
  H.ld ⟨b,o+i*5,none⟩=some (.int .i64 op)∧H.ld ⟨b,o+i*5+1,none⟩=some (.int .i64 n)∧H.ld ⟨b,o+i*5+2,none⟩=some va∧H.ld ⟨b,o+i*5+3,none⟩=some vt∧H.ld ⟨b,o+i*5+4,none⟩=some ve∧
  jG op∧jG n∧args.length<2^60∧f.length<2^60∧aE.length<2^60∧Rows H 4 va e∧fU H e args∧Rows H 5 vt rt∧gE H rt f∧Rows H 5 ve d∧gE H d aE:=by
 obtain ⟨r,u,x⟩:=h.at t;obtain ⟨b,o,c,g,a⟩:=w.at u;rw [h.length]at g
 cases x with| @mk _ _ va vt ve e rt d _ _ _ s q p m k C h2 B A z y=>
 exact ⟨b,o,c,va,vt,ve,e,rt,d,g,a,by simpa using aJ a (j:=0) rfl,aJ a (j:=1) rfl,aJ a (j:=2) rfl,aJ a (j:=3) rfl,aJ a (j:=4) rfl,s,q,p,m,k,C,h2,B,A,z,y⟩
end
section
open Go
theorem uY {l:List bE} {i:Nat} {s:bE} (h:l[i]?=some s) (m:Int) (a:0<m):cN (l.drop i) m=cN (l.drop (i+1)) (uX s m):=by
 obtain ⟨b,e⟩:=aq0.1 h;rw [List.drop_eq_getElem_cons b,cN,if_pos a,e]
theorem zH {l:List bV} {i:Nat} {s:bV} (h:l[i]?=some s) (m:Int):dm (l.drop i) m=dm (l.drop (i+1)) (jl s m):=by
 obtain ⟨a,e⟩:=aq0.1 h;rw [List.drop_eq_getElem_cons a,dm,e]
theorem KQ:∀(N:Nat) (l:List bE) (v:Value) (rows:List (List Value)) (H:AH) (m:Int),SizeOf.sizeOf l<N→H.n0≤H.nx→l.length<2^60→Rows H 5 v rows→gE H rows l→0≤m→m≤1000001→
 Ca E O 35 [v,.int .i64 m] H (fun x H'=>(x= .int .i64 (cN l m)∧Ext H H')∧0≤cN l m∧cN l m≤m):=by
 intro N
 induction N with
 |zero=>intro l v rows H m h;omega
 |succ N ih=>
  intro l v rows H m hN hw Z Y hl yV hm1;refine Ca.dK (F:=YW) rfl rfl rfl ?_;obtain ⟨a0,c0,D⟩:=Y.len;rw [hl.length]at D;simp-implicitDefEqProofs [YW,ar];refine eO (fun k I H'=>Ext H H'∧∃(i:Nat) (cur:Int),i+k=l.length∧I.get 0=v∧I.get 5= .int .i64 i∧I.get 1= .int .i64 cur∧0≤cur∧cur≤m∧cN l m=cN (l.drop i) cur) ?_ l.length ⟨Ext.refl _,0,m,by simp,by simp,by simp,by simp,yV,Int.le_refl _,by simp⟩;rintro k I H1 ⟨u,i,cur,hi,e,J,T,b0,b1,d⟩;have fin:∀q:Prop,(cN l m=cur→q)→(cN (l.drop i) cur=cur)→q:=fun q h1 h2=>h1 (d.trans h2)
  by_cases h:i<l.length
  ·by_cases G:0<cur
   ·obtain ⟨⟨op,n,args,aB,aE⟩,P⟩:∃y,l[i]?=some y:=⟨_,aqU h⟩
    have hs:=ot P;obtain ⟨b,o,c,va,vt,ve,ra,rt,re,X,_,_,_,e2,e3,e4,i1,i2,i3,i4,i5,g1,S,g3,g4,g5,g6⟩:=gE.row (Y.ext u) (hl.ext u) P;obtain ⟨a3,c3,W⟩:=g1.len;rw [S.length]at W;have f0v:=e;rw [X]at e;simp-implicitDefEqProofs [ar,e,J,T,h,G];rw [ai (n:=cur- 1) ⟨by omega,by omega⟩];refine eO (fun M B L=>Ext H1 L∧∃(j:Nat) (f:Int),j+M=args.length∧B.get 0= .slice (some ⟨b,o,none⟩) l.length c∧B.get 5= .int .i64 i∧B.get 1= .int .i64 f∧B.get 6= .int .i64 j∧0≤f∧f≤cur- 1∧dm args (cur- 1)=dm (args.drop j) f) ?_ args.length ⟨Ext.refl _,0,cur- 1,by simp,by simp [e],by simp [J],by simp,by simp,by omega,by omega,by simp⟩;rintro M B L ⟨a,j,f,hj,A,z,g,w,q0,q1,p⟩;have K:=a.ld e2;have SU:=a.ld e3;have C:=a.ld e4;have Q:=(u.trans a).wf hw;by_cases h2:j<args.length
    ·obtain ⟨y,V⟩:∃y,args[j]?=some y:=⟨_,aqU h2⟩
     obtain ⟨r,Dp,lW⟩:=S.at V;obtain ⟨b2,o2,c2,R,bC⟩:=(g1.ext a).at Dp;rw [S.length]at R;rw [R]at K;simp-implicitDefEqProofs [ar,A,z,g,w,h,h2,K,bC];refine bk ?_;simp-implicitDefEqProofs [g];refine (Bp _ y r L f (aq9 _) Q (lW.ext a) ⟨by omega,by omega⟩).mono ?_;rintro x H3 ⟨rfl,t⟩;have hle:=xd _ y f (aq9 _);simp-implicitDefEqProofs [ar,A,z,g,w];rw [ai (n:=(j:Int)+1) ⟨by omega,by omega⟩];refine ⟨M- 1,by omega,a.trans t,j+1,by omega,by simp,by omega,by omega,?_⟩;rw [p,zH V]
    ·rw [W]at K
     have Ez:j=args.length:=by omega
     rw [Ez,List.drop_length,dm]at p;simp-implicitDefEqProofs [ar,A,z,g,w,h,h2,K,SU,C];refine bk ?_;simp-implicitDefEqProofs [g];refine (ih aB vt rt L f (by omega) Q i4 (g3.ext a) (g4.ext a) q0 (by omega)).mono ?_;rintro x H3 ⟨⟨rfl,t⟩,r0,r1⟩;have U:=t.ld C;simp-implicitDefEqProofs [ar,A,z,g,w,h,U];refine bk ?_;simp-implicitDefEqProofs;refine (ih aE ve re H3 _ (by omega) (t.wf Q) i5 (g5.ext (a.trans t)) (g6.ext (a.trans t)) r0 (by omega)).mono ?_;rintro x H4 ⟨⟨rfl,X4⟩,s0,s1⟩;simp-implicitDefEqProofs [ar,A,z,g,w];rw [ai (n:=(i:Int)+1) ⟨by omega,by omega⟩];refine ⟨k- 1,by omega,u.trans (a.trans (t.trans X4)),i+1,by omega,X.symm,by simp,s0,by omega,?_⟩;rw [d,uY P cur G,uX,p]
   ·have R:=D
    rw [D]at e;simp-implicitDefEqProofs [ar,e,J,T,h,G]
    have s:cN (l.drop i) cur=cur:=by
     rw [List.drop_eq_getElem_cons h,cN,if_neg G]
    exact ⟨⟨(d.trans s).symm,u⟩,by rw [d,s];exact b0,by rw [d,s];exact b1⟩
  ·rw [D]at e
   simp-implicitDefEqProofs [ar,e,J,T,h]
   have s:cN (l.drop i) cur=cur:=by
    rw [List.drop_of_length_le (by omega),cN]
   exact ⟨⟨(d.trans s).symm,u⟩,by rw [d,s];exact b0,by rw [d,s];exact b1⟩
open Go
mutual
def bg:bE→Int
 | .mk _ _ args aB aE=>1+aq args+au aB+au aE
def au:List bE→Int
 |[]=>0
 |s::ss=>bg s+au ss
end
theorem uZ {M:List bE→Prop} (h:∀l,(∀op n args a b,.mk op n args a b∈l→M a∧M b)→M l):∀l,M l:=by
 have key:∀(N:Nat) (l:List bE),SizeOf.sizeOf l<N→M l:=by
  intro N
  induction N with
  |zero=>intro l h;omega
  |succ N ih=>
   intro l d;refine h l fun op n args a b c=>?_
   have:=ars c;simp at this;exact ⟨ih a (by omega),ih b (by omega)⟩
 exact fun l=>key _ l (aq9 _)
theorem Gf (l:List bV) (k:Int) (b:0≤k):dm l k=max (k- aq l) 0:=by
 induction l generalizing k with
 |nil=>rw [dm,aq];omega
 |cons x l a=>
  rw [dm,aq,xe,a _ (by omega)];have:=a6 l;omega
theorem dh:∀l,0≤au l∧∀m,0≤m→cN l m=max (m- au l) 0:=uZ fun l ih=>by
 induction l with
 |nil=>exact ⟨by rw [au];omega,fun m f=>by rw [cN,au];omega⟩
 |cons s k e=>
  obtain ⟨op,n,args,a,b⟩:=s;obtain ⟨⟨j,d⟩,⟨i,c⟩⟩:=ih op n args a b (by simp);obtain ⟨g,v1⟩:=e fun op n args a b h=>ih op n args a b (by simp [h])
  have o:=a6 args;refine ⟨by rw [au,bg];omega,fun m f=>?_⟩;rw [cN,au,bg];split
  ·rw [uX,Gf _ _ (by omega),d _ (by omega),c _ (by omega),v1 _ (by omega)]
   omega
  ·omega
theorem xg {l:List bE} {v:Value} {rows:List (List Value)} {H:AH} {m:Int} (b:H.n0≤H.nx) (a:l.length<2^60) (c:Rows H 5 v rows) (d:gE H rows l) (f:0≤m∧m≤1000000):
 Ca E O 10 [v,.int .i64 m] H (fun x H'=>x= .bool (decide (au l≤m))∧Ext H H'):=by
 refine Ca.dK (F:=YO) rfl rfl rfl ?_;simp-implicitDefEqProofs [YO,ar];refine bk ?_;rw [ai ⟨by omega,by omega⟩];simp-implicitDefEqProofs;refine (KQ _ l v rows H (m+1) (aq9 _) b a c d (by omega) (by omega)).mono ?_;rintro x g ⟨⟨rfl,e⟩,_⟩;simp-implicitDefEqProofs [ar];refine ⟨?_,e⟩;rw [(dh l).2 _ (by omega)];have:=(dh l).1;omega
def ll (l:List Vr) (n:Int) (na:Nat) (more:Int):Bool:=decide (0≤n)&&(decide (n<l.length)&&decide ((na:Int)=more+if 1<al l n then 1 else 0))
theorem xh {n more:Int} {v d va vt ve:Value} {l:List Vr} {rows:List (List Value)} {H:AH} (j:H.n0≤H.nx) (k:de H v l) (B:l.length<2^60) (s:Rows H 4 va rows) (A:rows.length<2^60) (t:0≤more∧more≤1):
 Ca E O 136 [v,.agg #[d,.int .i64 n,va,vt,ve],.int .i64 more] H (fun x H'=>x= .bool (ll l n rows.length more)∧Ext H H'):=by
 refine Ca.dK (F:=Kk) rfl rfl rfl ?_;have f:=Ext.alloc H (.cells 5 [d,.int .i64 n,va,vt,ve]);have c:(H.alloc (.cells 5 [d,.int .i64 n,va,vt,ve])).ld ⟨H.nx,1,none⟩=some (.int .i64 n):=aj j rfl;have e:(H.alloc (.cells 5 [d,.int .i64 n,va,vt,ve])).ld ⟨H.nx,2,none⟩=some va:=aj j rfl;generalize w:H.alloc (.cells 5 [d,.int .i64 n,va,vt,ve])=z at f c e;obtain ⟨J,D,q⟩:=s.len;obtain ⟨I,C,p⟩:=k.len;have a:=bf.1 c;have g:=bf.1 e;simp-implicitDefEqProofs [Kk,ar,w];refine nX _ _ ?_;by_cases h2:0≤n
 case neg=>
  simp-implicitDefEqProofs [ar,ts,chain,jI,nth,AO.wanted,ei,sameAt,eu,cU,c,a,g,h2,ll];exact f
 by_cases h:n<l.length
 case neg=>
  simp-implicitDefEqProofs [ar,ts,chain,jI,nth,AO.wanted,ei,sameAt,eu,cU,c,a,g,h2,h,p,ll];exact f
 obtain ⟨y,i⟩:∃y,l[n.toNat]?=some y:=⟨_,aqU (by omega)⟩
 obtain ⟨b,o,G,r,_,_,_,m⟩:=(k.ext f).at i;have u:al l n=y.cells:=by simp [al,i]
 rw [q]at e g;rw [r];simp-implicitDefEqProofs [ar,c,e,m,h2,h];refine lV ?_;simp-implicitDefEqProofs;refine (F8 (decide (1<y.cells)) z).mono ?_;rintro x K ⟨rfl,rfl⟩;simp-implicitDefEqProofs [ar,ts,chain,jI,nth,AO.wanted,ei,sameAt,eu,cU,c,e,a,g,m,h2,h,ll,u];refine ⟨?_,f⟩;rw [ai (by unfold jG;split<;>omega)]
end
section
open Go
mutual
def jm:bE→Int→Int
 | .mk _ _ _ aB aE,n=>max (max n (1+a8 aB 0)) (1+a8 aE 0)
def a8:List bE→Int→Int
 |[],n=>n
 |s::ss,n=>a8 ss (jm s n)
end
theorem ox:∀(l:List bE) (n:Int),a8 l n=l.foldl (fun n e=>jm e n) n
 |[],n=>rfl
 |e::es,n=>by simp [a8,ox es]
theorem kf:∀l,∀k,0≤k→k≤a8 l k∧a8 l k≤max k (au l):=uZ fun l ih=>by
 induction l with
 |nil=>intro k e;rw [a8,au];omega
 |cons s c d=>
  obtain ⟨op,n,args,a,b⟩:=s;intro k e;obtain ⟨t,u⟩:=ih op n args a b (by simp);have t:=t 0 (by omega);have u:=u 0 (by omega);have i:=(dh a).1;have g:=(dh b).1;have f:=(dh c).1;have j:=a6 args;rw [a8,au,bg,jm];have w:=d (fun op n args a b h=>ih op n args a b (by simp [h])) (max (max k (1+a8 a 0)) (1+a8 b 0)) (by omega);omega
theorem zI {l:List bE} {op n:Int} {args:List bV} {a b:List bE} (h:bE.mk op n args a b∈l):1+au a≤au l∧1+au b≤au l∧1+aq args≤au l:=by
 induction l with
 |nil=>cases h
 |cons s f ih=>
  rw [au];have m:=(dh f).1;rcases arc.1 h with h|h
  ·rw [←h,bg]
   have e:=(dh a).1;have c:=(dh b).1;have k:=a6 args;omega
  ·have:=ih h
   obtain ⟨g,o,j,d,i⟩:=s;rw [bg];have e:=(dh d).1;have c:=(dh i).1;have k:=a6 j;omega
theorem Dq:∀(N:Nat) (l:List bE) (v:Value) (rows:List (List Value)) (H:AH),SizeOf.sizeOf l<N→H.n0≤H.nx→l.length<2^60→Rows H 5 v rows→gE H rows l→au l<2^60→
 Ca E O 72 [v] H (fun x H'=>x= .int .i64 (a8 l 0)∧Ext H H'):=by
 intro N
 induction N with
 |zero=>intro l v rows H h;omega
 |succ N ih=>
  intro l v rows H hN P A z B hm;refine Ca.dK (F:=a72) rfl rfl rfl ?_;obtain ⟨a0,c0,w⟩:=z.len;rw [B.length]at w;simp-implicitDefEqProofs [a72,ar];refine eO (fun k j H'=>Ext H H'∧∃i:Nat,i+k=l.length∧j.get 0=v∧j.get 4= .int .i64 i∧j.get 3= .int .i64 (a8 (l.take i) 0)) ?_ l.length ⟨Ext.refl _,0,by simp,by simp,by simp,by simp [a8]⟩;rintro k j X ⟨e,i,hi,d,m,q⟩;by_cases h:i<l.length
  ·obtain ⟨⟨op,n,args,f,p⟩,g⟩:∃y,l[i]?=some y:=⟨_,aqU h⟩
   have hs:=ot g;have hn:=zI (aqZ g);obtain ⟨b,o,c,Y,I,J,Z,rt,K,u,_,_,_,e2,V,G,i1,i2,i3,M,L,g1,g2,T,S,C,R⟩:=gE.row (z.ext e) (B.ext e) g;obtain ⟨a4,c4,Q⟩:=C.len;have t:=e.wf P;rw [u]at d;simp-implicitDefEqProofs [ar,d,m,q,h];refine nX _ _ ?_;simp-implicitDefEqProofs [ar,d,m,q,h,V,G];refine lV ?_;simp-implicitDefEqProofs;refine (ih f I rt X (by omega) t M T S (by omega)).mono ?_;rintro x W ⟨rfl,a⟩;have bt:=kf f 0 (by omega);have be:=kf p 0 (by omega);simp-implicitDefEqProofs [ar];rw [ai (n:=1+a8 f 0) ⟨by omega,by omega⟩];refine lV ?_;simp-implicitDefEqProofs;refine (ih p J K W (by omega) (a.wf t) L (C.ext a) (R.ext a) (by omega)).mono ?_;rintro x H3 ⟨rfl,s⟩;have r:=bf.1 G;have D:=a.ldn r;rw [Q]at r D;simp-implicitDefEqProofs [ar,Eu,ts,chain,jI,nth,AO.wanted,ei,sameAt,eu,cU,r,D,a.n0,s.n0,a.nx,s.nx,d,m];rw [ai (n:=1+a8 p 0) ⟨by omega,by omega⟩,ai (n:=(i:Int)+1) ⟨by omega,by omega⟩]
   have U:a8 (l.take (i+1)) 0=max (max (a8 (l.take i) 0) (1+a8 f 0)) (1+a8 p 0):=by
    rw [arf,g];simp [ox,List.foldl_append,jm]
   refine ⟨k- 1,by omega,e.trans (a.trans s),i+1,by omega,u.symm,by simp,?_⟩;rw [U];split<;>split<;>omega
  ·rw [w]at d
   simp-implicitDefEqProofs [ar,d,m,q,h];rw [aq1 (by omega)];exact ⟨rfl,e⟩
open Go
def bW (l:List Vr) (op n:Int) (na nt ne:Nat):Bool:=
 if op=0 then(decide (nt=0)&&decide (ne=0))&&ll l n na 1
 else if op=1 then decide (n=0)&&decide (na=1)
 else if op=2 then decide (n=0)&&(decide (na=1)&&decide (ne=0))
 else if op=3 then(decide (nt=0)&&decide (ne=0))&&(decide (0≤n)&&(decide (n≤47)&&decide (na=1)))
 else if op=4 then(decide (nt=0)&&decide (ne=0))&&ll l n na 0
 else if op=5∨op=6 then(decide (nt=0)&&decide (ne=0))&&(decide (n=0)&&decide (na=1))
 else false
def pC:AC:=match Dg.body with| .seq _ (.seq _ r)=>r|c=>c
theorem zJ:Dg.body= .seq (.bG [o 3 (.box (.t 1)),o 4 (.mv (.k (.bool false)))]) (.seq (.bG [o 6 (.fa 3 (.t 3)),o 7 (.ld (.t 6)),o 8 (.ey (.t 7)),o 9 (.bin .eql (.t 8) (i 0)),o 10 (.mv (.t 9)),og 10 true 11 (.fa 4 (.t 3)),og 10 true 12 (.ld (.t 11)),og 10 true 13 (.ey (.t 12)),og 10 true 14 (.bin .eql (.t 13) (i 0)),o 15 (.pick (.t 10) (.t 14) (.k (.bool false))),o 5 (.mv (.t 15))]) pC):=rfl
theorem dt (n:Nat):((n:Int)=0)=(n=0):=by apply propext;omega
theorem cO (n:Nat):((n:Int)=1)=(n=1):=by apply propext;omega
theorem KS {op n:Int} {v va vt ve:Value} {l:List Vr} {t rt y:List (List Value)} {H:AH} (q:H.n0≤H.nx) (hv:de H v l) (hl:l.length<2^60) (B:Rows H 4 va t) (S:Rows H 5 vt rt) (V:Rows H 5 ve y) (U:t.length<2^60):
 Ca E O 101 [v,.agg #[.int .i64 op,.int .i64 n,va,vt,ve]] H (fun x H'=>x= .bool (bW l op n t.length rt.length y.length)∧Ext H H'):=by
 refine Ca.dK (F:=Dg) rfl rfl rfl ?_;have f:=Ext.alloc H (.cells 5 [.int .i64 op,.int .i64 n,va,vt,ve]);have d0:(H.alloc (.cells 5 [.int .i64 op,.int .i64 n,va,vt,ve])).ld ⟨H.nx,0,none⟩=some (.int .i64 op):=aj q rfl;have k:(H.alloc (.cells 5 [.int .i64 op,.int .i64 n,va,vt,ve])).ld ⟨H.nx,1,none⟩=some (.int .i64 n):=aj q rfl;have Z:(H.alloc (.cells 5 [.int .i64 op,.int .i64 n,va,vt,ve])).ld ⟨H.nx,2,none⟩=some va:=aj q rfl;have Y:(H.alloc (.cells 5 [.int .i64 op,.int .i64 n,va,vt,ve])).ld ⟨H.nx,3,none⟩=some vt:=aj q rfl;have X:(H.alloc (.cells 5 [.int .i64 op,.int .i64 n,va,vt,ve])).ld ⟨H.nx,4,none⟩=some ve:=aj q rfl;have d:=a7 q (z:=5) (c:=[.int .i64 op,.int .i64 n,va,vt,ve]) 5 rfl;generalize W:H.alloc (.cells 5 [.int .i64 op,.int .i64 n,va,vt,ve])=P at f d0 k Z Y X d;obtain ⟨a2,c2,fW⟩:=B.len;obtain ⟨a3,c3,wB⟩:=S.len;obtain ⟨a4,c4,tz⟩:=V.len;have m:=Z;have Q:=Y;have i:=X;rw [fW]at m;rw [wB]at Q;rw [tz]at i;have R:∀more:Int,0≤more∧more≤1→Ca E O 136 [v,.agg #[.int .i64 op,.int .i64 n,va,vt,ve],.int .i64 more] P (fun x H'=>x= .bool (ll l n t.length more)∧Ext P H'):=fun more hm=>xh (f.wf q) (hv.ext f) hl (B.ext f) U hm
 clear B S V U;generalize t.length=r at*;generalize rt.length=A at*;generalize y.length=ne at*
 obtain ⟨s,o⟩:∃b,b=(decide (A=0)&&decide (ne=0)):=⟨_,rfl⟩
 suffices T:∀w:Fr,w.get 0=v→w.get 3= .pointer (some ⟨H.nx,0,none⟩)→w.get 5= .bool s→Wk E O pC [] w P (wV [.tmp 4] fun x H'=>x= .bool (bW l op n r A ne)∧Ext H H') by
  rw [zJ];by_cases C:A=0
  ·subst C
   simp-implicitDefEqProofs [ar,W,Q,i,dt];refine T _ ?_ ?_ ?_<;>simp [o]
  ·simp-implicitDefEqProofs [ar,W,Q,i,C,dt]
   refine T _ ?_ ?_ ?_<;>simp [o,C]
 intro w g h a;simp-implicitDefEqProofs [pC,Dg,ar,h,d0];by_cases M:op=0
 ·subst M
  cases e:s with
  |false=>
   rw [e]at a;simp-implicitDefEqProofs [ar,g,h,a,d,bW,←o,e];exact f
  |true=>
   rw [e]at a;simp-implicitDefEqProofs [ar,g,h,a,d];refine bk ?_;simp-implicitDefEqProofs [g];refine (R 1 (by omega)).mono ?_;rintro x H2 ⟨rfl,N⟩;simp-implicitDefEqProofs [ar,bW,←o,e];exact f.trans N
 simp-implicitDefEqProofs [ar,M];by_cases L:op=1
 ·subst L
  by_cases j:n=0
  case neg=>
   simp-implicitDefEqProofs [ar,g,h,a,k,m,i,dt,cO,bW,j];exact f
  by_cases p:r=1
  case neg=>
   simp-implicitDefEqProofs [ar,g,h,a,k,m,i,dt,cO,bW,j,p];exact f
  simp-implicitDefEqProofs [ar,g,h,a,k,m,i,dt,cO,bW,j,p];exact f
 simp-implicitDefEqProofs [ar,L];by_cases K:op=2
 ·subst K
  by_cases j:n=0
  case neg=>
   simp-implicitDefEqProofs [ar,g,h,a,k,m,i,dt,cO,bW,j];exact f
  by_cases p:r=1
  case neg=>
   simp-implicitDefEqProofs [ar,g,h,a,k,m,i,dt,cO,bW,j,p];exact f
  by_cases u:ne=0
  case neg=>
   simp-implicitDefEqProofs [ar,g,h,a,k,m,i,dt,cO,bW,j,p,u];exact f
  simp-implicitDefEqProofs [ar,g,h,a,k,m,i,dt,cO,bW,j,p,u];exact f
 simp-implicitDefEqProofs [ar,K];by_cases J:op=3
 ·subst J
  cases e:s with
  |false=>
   rw [e]at a;simp-implicitDefEqProofs [ar,g,h,a,k,m,i,dt,cO,bW,←o,e];exact f
  |true=>
  rw [e]at a;by_cases j:0≤n
  case neg=>
   simp-implicitDefEqProofs [ar,g,h,a,k,m,i,dt,cO,bW,←o,e,j];exact f
  by_cases p:n≤47
  case neg=>
   simp-implicitDefEqProofs [ar,g,h,a,k,m,i,dt,cO,bW,←o,e,j,p];exact f
  by_cases u:r=1
  case neg=>
   simp-implicitDefEqProofs [ar,g,h,a,k,m,i,dt,cO,bW,←o,e,j,p,u];exact f
  simp-implicitDefEqProofs [ar,g,h,a,k,m,i,dt,cO,bW,←o,e,j,p,u];exact f
 simp-implicitDefEqProofs [ar,J];by_cases I:op=4
 ·subst I
  cases e:s with
  |false=>
   rw [e]at a;simp-implicitDefEqProofs [ar,g,h,a,d,bW,←o,e];exact f
  |true=>
   rw [e]at a;simp-implicitDefEqProofs [ar,g,h,a,d];refine bk ?_;simp-implicitDefEqProofs [g];refine (R 0 (by omega)).mono ?_;rintro x H2 ⟨rfl,N⟩;simp-implicitDefEqProofs [ar,bW,←o,e];exact f.trans N
 simp-implicitDefEqProofs [ar,I];by_cases G:op=5
 ·subst G
  cases e:s with
  |false=>
   rw [e]at a;simp-implicitDefEqProofs [ar,g,h,a,k,m,i,dt,cO,bW,←o,e];exact f
  |true=>
  rw [e]at a;by_cases j:n=0
  case neg=>
   simp-implicitDefEqProofs [ar,g,h,a,k,m,i,dt,cO,bW,←o,e,j];exact f
  by_cases p:r=1
  case neg=>
   simp-implicitDefEqProofs [ar,g,h,a,k,m,i,dt,cO,bW,←o,e,j,p];exact f
  simp-implicitDefEqProofs [ar,g,h,a,k,m,i,dt,cO,bW,←o,e,j,p];exact f
 simp-implicitDefEqProofs [ar,G];by_cases D:op=6
 ·subst D
  cases e:s with
  |false=>
   rw [e]at a;simp-implicitDefEqProofs [ar,g,h,a,k,m,i,dt,cO,bW,←o,e];exact f
  |true=>
  rw [e]at a;by_cases j:n=0
  case neg=>
   simp-implicitDefEqProofs [ar,g,h,a,k,m,i,dt,cO,bW,←o,e,j];exact f
  by_cases p:r=1
  case neg=>
   simp-implicitDefEqProofs [ar,g,h,a,k,m,i,dt,cO,bW,←o,e,j,p];exact f
  simp-implicitDefEqProofs [ar,g,h,a,k,m,i,dt,cO,bW,←o,e,j,p];exact f
 simp-implicitDefEqProofs [ar,D];simp-implicitDefEqProofs [bW,M,L,K,J,I,G,D];exact f
end
section
open Go
mutual
def dY (w:Int) (V:List Vr):bE→Bool
 | .mk op n args aB aE=>bW V op n args.length aB.length aE.length&&(fA w V aB&&(fA w V aE&&args.all (fX w V 1)))
def fA (w:Int) (V:List Vr):List bE→Bool
 |[]=>true
 |s::ss=>dY w V s&&fA w V ss
end
theorem jQ {w:Int} {V:List Vr}:∀{es:List bE},fA w V es=true↔∀e∈es,dY w V e=true
 |[]=>by simp [fA]
 |e::es=>by simp [fA,jQ (es:=es)]
theorem oy {w:Int} {V:List Vr} {es:List bE} {e:bE} (h:e∈es) (k:dY w V e=false):fA w V es=false:=by
 rw [arA];intro q;rw [jQ.1 q e h]at k;cases k
theorem KT {w:Int} {v:Value} {V:List Vr} (hV:V.length<2^60):∀(N:Nat) (l:List bE) (t:Value) (rows:List (List Value)) (H:AH),SizeOf.sizeOf l<N→H.n0≤H.nx→de H v V→l.length<2^60→Rows H 5 t rows→gE H rows l→
 Ca E O 73 [.int .i64 w,v,t] H (fun x H'=>x= .bool (fA w V l)∧Ext H H'):=by
 intro N
 induction N with
 |zero=>intro l t rows H h;omega
 |succ N ih=>
  intro l t rows H hN hw hv hlen hr hl;refine Ca.dK (F:=Za) rfl rfl rfl ?_;obtain ⟨a0,c0,lY⟩:=hr.len;rw [hl.length]at lY;simp-implicitDefEqProofs [Za,ar];refine eO (fun k D H'=>Ext H H'∧∃i:Nat,i+k=l.length∧D.get 0= .int .i64 w∧D.get 1=v∧D.get 2=t∧D.get 7= .int .i64 i∧∀e∈l.take i,dY w V e=true) ?_ l.length ⟨Ext.refl _,0,by simp,by simp,by simp,by simp,by simp,by simp⟩;rintro k D H1 ⟨d,i,hi,U,I,f,G,aH⟩;by_cases h:i<l.length
  case neg=>
   rw [lY]at f;simp-implicitDefEqProofs [ar,f,G,h];rw [aq1 (by omega)]at aH;exact ⟨jQ.2 aH,d⟩
  obtain ⟨⟨op,n,args,X,aE⟩,Q⟩:∃y,l[i]?=some y:=⟨_,aqU h⟩
  have hs:=ot Q;have T:=aqZ Q;obtain ⟨b,o,c,va,vt,ve,ra,rt,re,cD,bC,_,_,e2,e3,e4,i1,i2,i3,i4,i5,g1,C,g3,g4,g5,g6⟩:=gE.row (hr.ext d) (hl.ext d) Q;have R:=d.wf hw;have S:=hv.ext d;rw [cD]at f;simp-implicitDefEqProofs [ar,U,I,f,G,h,bC];refine bk ?_;simp-implicitDefEqProofs [I];refine (KS R S hV g1 g3 g5 (by rw [C.length];exact i3)).mono ?_;rintro x H2 ⟨rfl,g⟩;rw [C.length,g4.length,g6.length]
  cases q:bW V op n args.length X.length aE.length with
  |false=>
   simp-implicitDefEqProofs [ar,q];exact ⟨oy T (by simp [dY,q]),d.trans g⟩
  |true=>
   simp-implicitDefEqProofs [ar,U,I,f,G,h,q,g.ld e3];refine bk ?_;simp-implicitDefEqProofs;refine (ih X vt rt H2 (by omega) (g.wf R) (S.ext g) i4 (g3.ext g) (g4.ext g)).mono ?_;rintro x H3 ⟨rfl,X3⟩;have p:=g.trans X3
   cases u:fA w V X with
   |false=>
    simp-implicitDefEqProofs [ar,u];exact ⟨oy T (by simp [dY,q,u]),d.trans p⟩
   |true=>
    simp-implicitDefEqProofs [ar,U,I,f,G,h,u,p.ld e4];refine bk ?_;simp-implicitDefEqProofs;refine (ih aE ve re H3 (by omega) (p.wf R) (S.ext p) i5 (g5.ext p) (g6.ext p)).mono ?_;rintro x H4 ⟨rfl,X4⟩;have KU:=p.trans X4
    cases K:fA w V aE with
    |false=>
     simp-implicitDefEqProofs [ar,K];exact ⟨oy T (by simp [dY,q,u,K]),d.trans KU⟩
    |true=>
     simp-implicitDefEqProofs [ar,K];obtain ⟨a3,c3,fW⟩:=g1.len;rw [C.length]at fW;refine eO (fun Y s H5=>Ext H4 H5∧∃j:Nat,j+Y=args.length∧s.get 0= .int .i64 w∧s.get 1=v∧s.get 2= .slice (some ⟨b,o,none⟩) l.length c∧s.get 7= .int .i64 i∧s.get 8= .int .i64 j∧∀e∈args.take j,fX w V 1 e=true) ?_ args.length ⟨Ext.refl _,0,by simp,by simp [U],by simp [I],by simp [f],by simp [G],by simp,by simp⟩;rintro Y s H5 ⟨X5,j,hj,B,A,P,M,L,r6⟩;have m:=KU.trans X5;have W:=m.ld e2;by_cases h2:j<args.length
     ·obtain ⟨y,Z⟩:∃y,args[j]?=some y:=⟨_,aqU h2⟩
      obtain ⟨r,Dp,lW⟩:=C.at Z;obtain ⟨b2,o2,c2,zj,xi⟩:=(g1.ext m).at Dp;rw [C.length]at zj;rw [zj]at W;simp-implicitDefEqProofs [ar,B,A,P,M,L,h,h2,W,xi];refine bk ?_;simp-implicitDefEqProofs [B,A];refine (Vd (k:=1) hV (m.wf R) (S.ext m) (lW.ext m)).mono ?_;rintro x H6 ⟨rfl,X6⟩
      cases J:fX w V 1 y with
      |true=>
       simp-implicitDefEqProofs [ar,B,A,P,M,L,J];rw [ai (n:=(j:Int)+1) ⟨by omega,by omega⟩];refine ⟨Y- 1,by omega,X5.trans X6,j+1,by omega,by simp,fun z a=>?_⟩;rw [arf,Z]at a;rcases are.1 a with a|a
       ·exact r6 z a
       ·simp at a;subst a;exact J
      |false=>
       simp-implicitDefEqProofs [ar,B,A,P,M,L,J];refine ⟨oy T ?_,d.trans (m.trans X6)⟩
       have:args.all (fX w V 1)=false:=by
        rw [List.all_eq_false];exact ⟨y,aqZ Z,by simp [J]⟩
       simp only [dY,this,Bool.and_false]
     ·rw [fW]at W
      simp-implicitDefEqProofs [ar,B,A,P,M,L,h,h2,W];rw [ai (n:=(i:Int)+1) ⟨by omega,by omega⟩];rw [aq1 (by omega)]at r6;refine ⟨k- 1,by omega,d.trans m,i+1,by omega,cD.symm,by simp,fun z a=>?_⟩;rw [arf,Q]at a;rcases are.1 a with a|a
      ·exact aH z a
      ·simp at a
       subst a;have:args.all (fX w V 1)=true:=ara.2 r6;simp only [dY,q,u,K,this,Bool.and_self]
open Go
structure bw where
 w:Int
 vars:List Vr
 body:List bE
structure pD (H:AH) (c:List Value) (p:bw):Prop where
 is:∃vv vb rb,c=[.int .i64 p.w,vv,vb]∧jG p.w∧de H vv p.vars∧nj p.vars∧Rows H 5 vb rb∧gE H rb p.body∧p.body.length<2^60
theorem pD.ext {H H':AH} (E:Ext H H') {c:List Value} {p:bw} (h:pD H c p):pD H' c p:=by
 obtain ⟨i,j,k,e,a,b,l,d,f,g⟩:=h.is;exact ⟨i,j,k,e,a,b.ext E,l,d.ext E,gE.ext E f,g⟩
theorem pD.len {H:AH} {c:List Value} {p:bw} (h:pD H c p):c.length=3:=by
 obtain ⟨a,b,d,e,_⟩:=h.is;rw [e];rfl
def bj (p:bw):Bool:=aA p.w p.vars&&(decide (au p.body≤400)&&(decide (a8 p.body 0≤16)&&fA p.w p.vars p.body))
theorem Qf {p:bw} {c:List Value} {H:AH} (a:H.n0≤H.nx) (A:pD H c p):Ca E O 40 [.agg c.toArray] H (fun x H'=>x= .bool (bj p)∧Ext H H'):=by
 obtain ⟨vv,vb,s,rfl,hi,u,t,l,m,n⟩:=A.is;refine Ca.dK (F:=a40) rfl rfl rfl ?_;have f:=Ext.alloc H (.cells 3 [.int .i64 p.w,vv,vb]);have q:(H.alloc (.cells 3 [.int .i64 p.w,vv,vb])).ld ⟨H.nx,0,none⟩=some (.int .i64 p.w):=aj a rfl;have o:(H.alloc (.cells 3 [.int .i64 p.w,vv,vb])).ld ⟨H.nx,1,none⟩=some vv:=aj a rfl;have h:(H.alloc (.cells 3 [.int .i64 p.w,vv,vb])).ld ⟨H.nx,2,none⟩=some vb:=aj a rfl;generalize B:H.alloc (.cells 3 [.int .i64 p.w,vv,vb])=K at f q o h;simp-implicitDefEqProofs [a40,ar,B,q,o];refine bk ?_;simp-implicitDefEqProofs;refine (zG (f.wf a) (u.ext f) t p.w).mono ?_;rintro x J ⟨rfl,i⟩
 cases d:aA p.w p.vars with
 |false=>
  simp-implicitDefEqProofs [ar,d,bj];exact f.trans i
 |true=>
  have j:=f.trans i;simp-implicitDefEqProofs [ar,d,i.ld h];refine bk ?_;simp-implicitDefEqProofs;refine (xg (j.wf a) n (l.ext j) (m.ext j) (by omega)).mono ?_;rintro x G ⟨rfl,y⟩;have e:=j.trans y;have z:=i.trans y;by_cases g:au p.body≤400
  case neg=>
   simp-implicitDefEqProofs [ar,d,g,bj];exact e
  simp-implicitDefEqProofs [ar,g,z.ld h];refine bk ?_;simp-implicitDefEqProofs;refine (Dq _ p.body vb s G (aq9 _) (e.wf a) n (l.ext e) (m.ext e) (by omega)).mono ?_;rintro x D ⟨rfl,v⟩;have b:=e.trans v;have r:=z.trans v;by_cases k:a8 p.body 0≤16
  case neg=>
   simp-implicitDefEqProofs [ar,d,g,k,bj];exact b
  simp-implicitDefEqProofs [ar,k,r.ld q,r.ld o,r.ld h];refine bk ?_;simp-implicitDefEqProofs;refine (KT t.1 _ p.body vb s D (aq9 _) (b.wf a) (u.ext b) n (l.ext b) (m.ext b)).mono ?_;rintro x I ⟨rfl,C⟩;simp-implicitDefEqProofs [ar,d,g,k,bj];exact b.trans C
end
section
open Go
theorem fT.ext {H H':AH} (E:Ext H H') {v:Value} {l:List Int} (h:fT H v l):fT H' v l:=Rows.ext E h
def bK (w:Int) (V:List Vr) (l:List Int):Bool:=decide ((l.length:Int)=df (V.map (·.cells)))&&l.all (isWord w)
structure eY where
 store:List Int
 bM:List Int
structure xj (H:AH) (c:List Value) (s:eY):Prop where
 is:∃vs vp,c=[vs,vp]∧fT H vs s.store∧fT H vp s.bM∧s.store.length<2^60∧s.bM.length<2^60∧(∀n∈s.store,jG n)∧∀n∈s.bM,jG n
theorem xj.ext {H H':AH} (E:Ext H H') {c:List Value} {s:eY} (h:xj H c s):xj H' c s:=by
 obtain ⟨d,i,e,a,b,f,g⟩:=h.is;exact ⟨d,i,e,a.ext E,b.ext E,f,g⟩
def iO (p:bw) (s:eY):Bool:=bK p.w p.vars s.store&&(decide (s.bM.length≤16)&&s.bM.all (isWord p.w))
def fV (p:bw) (fuel:Int) (t:eY):Int:=if bj p=false then 30 else if fuel<0∨4096<fuel then 1 else if iO p t=false then 50 else 0
open Go
section
variable{E:Env} {O:jk} {ks:List Ko} {fr:Fr} {H:AH} {Q:Ex→Fr→AH→Prop}
def dZ (b:Bool):Value→Bool
 | .bool c=>c==b
 |_=>false
@[simp]theorem Zi (c:Bool):dZ true (.bool c)=c:=by cases c<;>rfl
@[simp]theorem Zj (c:Bool):dZ false (.bool c)= !c:=by cases c<;>rfl
@[simp]theorem Zk (b:Bool):dZ b undef=false:=rfl
def br (c a b:Prop):Prop:=(c→a)∧(¬ c→b)
@[congr]theorem Vi {c d a a' b b':Prop} (f:c=d) (h2:d→a=a') (e:¬ d→b=b'):br c a b=br d a' b':=by
 subst f;unfold br;exact propext ⟨fun k=>⟨fun h=>h2 h▸k.1 h,fun h=>e h▸k.2 h⟩,fun k=>⟨fun h=>(h2 h).symm▸k.1 h,fun h=>(e h).symm▸k.2 h⟩⟩
@[simp]theorem Qg (a b:Prop):br True a b=a:=propext ⟨fun h=>h.1 trivial,fun h=>⟨fun _=>h,fun k=>(k trivial).elim⟩⟩
@[simp]theorem Qh (a b:Prop):br False a b=b:=propext ⟨fun h=>h.2 id,fun h=>⟨fun k=>k.elim,fun _=>h⟩⟩
@[simp]theorem aic (c:Prop):br c True True=True:=propext ⟨fun _=>trivial,fun _=>⟨fun _=>trivial,fun _=>trivial⟩⟩
theorem zL {c a b:Prop} (h:c→a) (k:¬ c→b):br c a b:=⟨h,k⟩
theorem lZ (t:Nat) (b:Bool) (d:Option Nat) (p:cl):(AO.mk (some (t,b)) d p).wanted fr=dZ b (fr.get t):=by
 unfold AO.wanted dZ;simp only;split<;>rename_i h<;>simp_all
theorem adL (t:Nat) (b:Bool) (d:Option Nat) (p:cl) (l:List AO):Wr E O (⟨some (t,b),d,p⟩::l) ks fr H Q↔
 br (dZ b (fr.get t)=true) (Wr E O (⟨none,d,p⟩::l) ks fr H Q) (Wr E O l ks (fr.aN d undef) H Q):=by
 by_cases a:dZ b (fr.get t)=true
 ·simp only [a,Qg]
  exact UE _ _ _ (by unfold dZ at a;split at a<;>simp_all)
 ·simp only [a]
  rw [show(false=true)=False by simp,Qh];exact zB _ _ _ (by intro h;rw [h]at a;simp [dZ]at a)
theorem adM {c:List AO} {ck:List (Nat×Nat×Nat)} {acc:List (Fr×AH)} (t:Nat) (b:Bool) (d:Option Nat) (p:cl) (l:List AO):Wd E O c ck acc (⟨some (t,b),d,p⟩::l) ks fr H Q↔
 br (dZ b (fr.get t)=true) (Wd E O c ck acc (⟨none,d,p⟩::l) ks fr H Q) (Wd E O c ck ((fr.aN d undef,H)::acc) l ks (fr.aN d undef) H Q):=by
 by_cases a:dZ b (fr.get t)=true
 ·simp only [a,Qg]
  exact UF _ _ _ (by unfold dZ at a;split at a<;>simp_all)
 ·simp only [a]
  rw [show(false=true)=False by simp,Qh];exact zC _ _ _ (by intro h;rw [h]at a;simp [dZ]at a)
@[simp]theorem Th (f:Fr) (d:Nat) (v:Value):f.aN (some d) v=f.put d v:=rfl
@[simp]theorem Ti (f:Fr) (v:Value):f.aN none v=f:=rfl
def Gg:Value→Bool
 | .bool _=>true
 |_=>false
@[simp]theorem adN (c:Bool):Gg (.bool c)=true:=rfl
theorem adO {x:X} {a b:AC}:Wk E O (.cond x a b) ks fr H Q↔Gg (x.ev fr)=true∧br (dZ true (x.ev fr)=true) (Wk E O a ks fr H Q) (Wk E O b ks fr H Q):=by
 cases d:x.ev fr with
 |bool c=>
  cases c
  ·simp [FR d]
  ·simp [FQ d]
 |_=>
  refine ⟨?_,fun h=>by simp [Gg]at h⟩;rintro ⟨n,ex,f,g,e,q⟩
  cases n with
  |zero=>simp [aD]at e
  |succ n=>
   rw [aD,d]at e;cases e
end
structure Mod (S:Nat→Prop) (H H':AH):Prop where
 n0:H'.n0=H.n0
 nx:H.nx≤H'.nx
 old:∀b,b<H.nx→¬ S b→H'.get b=H.get b
theorem Mod.refl (S:Nat→Prop) (H:AH):Mod S H H:=⟨rfl,aqY _,fun _ _ _=>rfl⟩
theorem Mod.trans {S:Nat→Prop} {a b c:AH} (h:Mod S a b) (k:Mod S b c):Mod S a c:=⟨k.n0.trans h.n0,arh h.nx k.nx,fun x d e=>(k.old x (ari d h.nx) e).trans (h.old x d e)⟩
theorem Mod.bN {S:Nat→Prop} {a b:AH} (h:Ext a b):Mod S a b:=⟨h.n0,h.nx,fun x c _=>h.old x c⟩
theorem Mod.mono {S T:Nat→Prop} {a b:AH} (h:Mod S a b) (k:∀x,x<a.nx→S x→T x):Mod T a b:=⟨h.n0,h.nx,fun x c d=>h.old x c fun e=>d (k x c e)⟩
theorem Ext.mod {S:Nat→Prop} {a b c:AH} (h:Ext a b) (k:Mod S b c) (e:∀x,S x→a.nx≤x):Ext a c:=⟨k.n0.trans h.n0,arh h.nx k.nx,fun x d=>(k.old x (ari d h.nx) (fun q=>absurd (e x q) (Nat.not_le.2 d))).trans (h.old x d)⟩
theorem Mod.get {S:Nat→Prop} {a b:AH} (h:Mod S a b) {x:Nat} (c:¬ S x) {y:po} (k:a.get x=some y):b.get x=some y:=by rw [h.old x (AH.aQ k) c];exact k
theorem Mod.ldn {S:Nat→Prop} {H H':AH} (h:Mod S H H') {a:Addr} {n:Nat} {vs:List Value} (c:¬ S a.block) (k:H.ldn a n=some vs):H'.ldn a n=some vs:=by
 obtain ⟨x,b⟩:=arz.1 (cW k).1;rw [←k];exact eC (h.old _ (AH.aQ b) c) h.n0
theorem Mod.ld {S:Nat→Prop} {H H':AH} (h:Mod S H H') {a:Addr} {v:Value} (b:¬ S a.block) (k:H.ld a=some v):H'.ld a=some v:=bf.2 (h.ldn b (bf.1 k))
theorem Mod.wf {S:Nat→Prop} {H H':AH} (h:Mod S H H') (w:H.n0≤H.nx):H'.n0≤H'.nx:=by rw [h.n0];exact arh w h.nx
theorem bH {H:AH} {b z k:Nat} {c vs:List Value} (d:H.get b=some (.cells z c)) (h:H.n0≤b) (g:k+vs.length≤c.length):
 ∃a,H.st ⟨b,k,none⟩ vs=some a∧Mod (fun x=>x=b) H a∧a.nx=H.nx∧a.n0=H.n0∧a.get b=some (.cells z (aI c k vs)):=by
 have e:=AH.aQ d;refine ⟨H.put b (some (.cells z (aI c k vs))),?_,⟨rfl,aqY _,fun x i f=>?_⟩,rfl,rfl,?_⟩
 ·unfold AH.st
  simp [d,h,g]
 ·rw [AH.bA _ _ _ _ e,if_neg f]
 ·rw [AH.bA _ _ _ _ e,if_pos rfl]
theorem iq {H:AH} (w:H.n0≤H.nx) {z:Nat} {c vs:List Value} (i:vs.length=c.length):
 ∃a,(H.alloc (.cells z c)).st ⟨H.nx,0,none⟩ vs=some a∧Ext H a∧a.nx=H.nx+1∧a.n0=H.n0∧a.get H.nx=some (.cells z vs):=by
 have d:(H.alloc (.cells z c)).get H.nx=some (.cells z c):=by rw [AH.dx,if_pos rfl]
 obtain ⟨a,h,h2,g,f,b⟩:=bH d w (k:=0) (vs:=vs) (by omega)
 have e:aI c 0 vs=vs:=by
  have:aI c 0 vs=vs++c.drop vs.length:=by cases c<;>rfl
  rw [this,List.drop_eq_nil_of_le (by omega)];simp
 rw [e]at b;exact ⟨a,h,(Ext.alloc H _).mod h2 (by rintro x rfl;exact aqY _),g,f,b⟩
theorem bB {H:AH} {b z k n:Nat} {c:List Value} (d:H.get b=some (.cells z c)) (e:H.n0≤b) (a:k+n≤c.length):H.ldn ⟨b,k,none⟩ n=some ((c.drop k).take n):=by
 unfold AH.ldn;have:¬ b<H.n0:=Nat.not_lt.2 e;simp [d,a,this]
theorem aG {H:AH} {b z k:Nat} {c:List Value} {v:Value} (d:H.get b=some (.cells z c)) (e:H.n0≤b) (a:c[k]?=some v):H.ld ⟨b,k,none⟩=some v:=by
 unfold AH.ld;have:¬ b<H.n0:=Nat.not_lt.2 e;simp [d,a,this]
theorem cg (H:AH) (x:po):(H.alloc x).get H.nx=some x:=by rw [AH.dx,if_pos rfl]
end
section
open Go
section
variable{E:Env} {O:jk} {ks:List Ko} {fr:Fr} {H:AH} {Q:Ex→Fr→AH→Prop}
inductive Md where
 |pl
 |dr (l0:List AO) (ck:List (Nat×Nat×Nat)) (acc:List (Fr×AH))
def Md.up:Md→Fr→AH→Md
 | .pl,_,_=>.pl
 | .dr l0 ck acc,fr,H=>.dr l0 ck ((fr,H)::acc)
@[simp]theorem aid:Md.up .pl fr H= .pl:=rfl
@[simp]theorem aie (a:List AO) (ck:List (Nat×Nat×Nat)) (acc:List (Fr×AH)):Md.up (.dr a ck acc) fr H= .dr a ck ((fr,H)::acc):=rfl
def Vx (E:Env) (O:jk) (m:Md) (l:List AO) (ks:List Ko) (fr:Fr) (H:AH) (Q:Ex→Fr→AH→Prop):Prop:=match m with
 | .pl=>Wr E O l ks fr H Q
 | .dr l0 ck acc=>Wd E O l0 ck acc l ks fr H Q
def Vk (E:Env) (O:jk) (c:AC) (ks:List Ko) (fr:Fr) (H:AH) (Q:Ex→Fr→AH→Prop):Prop:=Wk E O c ks fr H Q
def Vn (E:Env) (O:jk) (ex:Ex) (ks:List Ko) (fr:Fr) (H:AH) (Q:Ex→Fr→AH→Prop):Prop:=Un E O ex ks fr H Q
@[simp]theorem adP (ex:Ex):Vn E O ex [] fr H Q=Q ex fr H:=FO _
@[simp]theorem aif (b:AC):Vn E O .normal (.seq b::ks) fr H Q=Vk E O b ks fr H Q:=rfl
@[simp]theorem aih (i:Nat):Vn E O .normal (.aS i::ks) fr H Q=Vn E O .normal ks fr H Q:=rfl
@[simp]theorem aii (j:Nat) (b:AC):Vn E O (.exit j) (.seq b::ks) fr H Q=Vn E O (.exit j) ks fr H Q:=rfl
@[simp]theorem adQ (i:Nat):Vn E O (.exit i) (.aS i::ks) fr H Q=Vn E O .normal ks fr H Q:=Pv _
@[simp]theorem al3 (k:Ko):Vn E O .ret (k::ks) fr H Q=Vn E O .ret ks fr H Q:=ab3 _
@[simp]theorem Zl:Vk E O .skip ks fr H Q↔Vn E O .normal ks fr H Q:=J4
@[simp]theorem adR:Vk E O .ret ks fr H Q↔Vn E O .ret ks fr H Q:=Pw
@[simp]theorem Zm (i:Nat):Vk E O (.exit i) ks fr H Q↔Vn E O (.exit i) ks fr H Q:=J5 _
@[simp]theorem adS (l:List AO):Vk E O (.bG l) ks fr H Q↔Vx E O .pl l ks fr H Q:=Px _
@[simp]theorem adT (a b:AC):Vk E O (.seq a b) ks fr H Q↔Vk E O a (.seq b::ks) fr H Q:=Py _ _
@[simp]theorem Vj (i:Nat) (a:AC):Vk E O (.block i a) ks fr H Q↔Vk E O a (.aS i::ks) fr H Q:=FP _ _
theorem adU {x:X} {a b:AC}:Vk E O (.cond x a b) ks fr H Q↔Gg (x.ev fr)=true∧br (dZ true (x.ev fr)=true) (Vk E O a ks fr H Q) (Vk E O b ks fr H Q):=adO
@[simp]theorem Zn (l:List AO) (ck:List (Nat×Nat×Nat)):Vk E O (.bQ l ck) ks fr H Q↔Vx E O (.dr l ck [(fr,H)]) l ks fr H Q:=by
 refine ⟨?_,fun h=>nX _ _ h⟩;rintro ⟨n,ex,c,d,e,q⟩
 cases n with
 |zero=>simp [aD]at e
 |succ n=>
  simp only [aD,wG]at e
  cases b:jx (fu E O (n+1)) l fr H with
  |none=>simp [b]at e
  |some a=>
   simp only [b]at e
   cases h2:chain ((fr,H)::a)&&ck.all (jI l ((fr,H)::a))with
   |false=>simp [h2]at e
   |true=>
    simp only [h2,cond_true,aqV,aq2]at e;obtain ⟨rfl,rfl,rfl⟩:=e;refine ⟨n+1,a,b,?_,q⟩;unfold ts
    simpa using h2
@[simp]theorem adV:Vx E O .pl [] ks fr H Q↔Vn E O .normal ks fr H Q:=Pz
@[simp]theorem Zo {a:List AO} {ck:List (Nat×Nat×Nat)} {acc:List (Fr×AH)}:Vx E O (.dr a ck acc) [] ks fr H Q↔ts a ck acc=true∧Vn E O .normal ks fr H Q:=PA
theorem adW {m:Md} (t:Nat) (b:Bool) (d:Option Nat) (p:cl) (l:List AO):Vx E O m (⟨some (t,b),d,p⟩::l) ks fr H Q↔
 br (dZ b (fr.get t)=true) (Vx E O m (⟨none,d,p⟩::l) ks fr H Q) (Vx E O (m.up (fr.aN d undef) H) l ks (fr.aN d undef) H Q):=by
 cases m
 ·exact adL _ _ _ _ _
 ·exact adM _ _ _ _ _
def CV (E:Env) (O:jk) (v:Value) (a b:AC) (ks:List Ko) (fr:Fr) (H:AH) (Q:Ex→Fr→AH→Prop):Prop:=
 Gg v=true∧br (dZ true v=true) (Vk E O a ks fr H Q) (Vk E O b ks fr H Q)
@[simp]theorem aij {x:X} {a b:AC}:Vk E O (.cond x a b) ks fr H Q↔CV E O (x.ev fr) a b ks fr H Q:=adU
variable{a b:AC}
@[simp]theorem al4:CV E O (.bool true) a b ks fr H Q↔Vk E O a ks fr H Q:=by simp [CV]
@[simp]theorem al5:CV E O (.bool false) a b ks fr H Q↔Vk E O b ks fr H Q:=by simp [CV]
@[simp]theorem al6 (c:Prop) [Decidable c]:CV E O (.bool (decide c)) a b ks fr H Q↔br c (Vk E O a ks fr H Q) (Vk E O b ks fr H Q):=by simp [CV]
@[simp]theorem al7 (c:Bool):CV E O (.bool (!c)) a b ks fr H Q↔CV E O (.bool c) b a ks fr H Q:=by cases c<;>simp
def GV (E:Env) (O:jk) (v:Value) (b:Bool) (m:Md) (d:Option Nat) (p:cl) (l:List AO) (ks:List Ko) (fr:Fr) (H:AH) (Q:Ex→Fr→AH→Prop):Prop:=
 br (dZ b v=true) (Vx E O m (⟨none,d,p⟩::l) ks fr H Q) (Vx E O (m.up (fr.aN d undef) H) l ks (fr.aN d undef) H Q)
@[simp]theorem aik {m:Md} (t:Nat) (b:Bool) (d:Option Nat) (p:cl) (l:List AO):Vx E O m (⟨some (t,b),d,p⟩::l) ks fr H Q↔GV E O (fr.get t) b m d p l ks fr H Q:=adW _ _ _ _ _
section
variable{m:Md} {d:Option Nat} {p:cl} {l:List AO}
@[simp]theorem ail:GV E O (.bool true) true m d p l ks fr H Q↔Vx E O m (⟨none,d,p⟩::l) ks fr H Q:=by simp [GV]
@[simp]theorem aim:GV E O (.bool false) false m d p l ks fr H Q↔Vx E O m (⟨none,d,p⟩::l) ks fr H Q:=by simp [GV]
@[simp]theorem ain:GV E O (.bool true) false m d p l ks fr H Q↔Vx E O (m.up (fr.aN d undef) H) l ks (fr.aN d undef) H Q:=by simp [GV]
@[simp]theorem aio:GV E O (.bool false) true m d p l ks fr H Q↔Vx E O (m.up (fr.aN d undef) H) l ks (fr.aN d undef) H Q:=by simp [GV]
@[simp]theorem al8 (b:Bool):GV E O undef b m d p l ks fr H Q↔Vx E O (m.up (fr.aN d undef) H) l ks (fr.aN d undef) H Q:=by simp [GV]
@[simp]theorem aip (c:Prop) [Decidable c]:GV E O (.bool (decide c)) true m d p l ks fr H Q↔br c (Vx E O m (⟨none,d,p⟩::l) ks fr H Q) (Vx E O (m.up (fr.aN d undef) H) l ks (fr.aN d undef) H Q):=by simp [GV]
@[simp]theorem aiq (c:Prop) [Decidable c]:GV E O (.bool (decide c)) false m d p l ks fr H Q↔br c (Vx E O (m.up (fr.aN d undef) H) l ks (fr.aN d undef) H Q) (Vx E O m (⟨none,d,p⟩::l) ks fr H Q):=by
 by_cases h:c<;>simp [h]
@[simp]theorem air (c:Bool):GV E O (.bool (!c)) true m d p l ks fr H Q↔GV E O (.bool c) false m d p l ks fr H Q:=by cases c<;>simp
@[simp]theorem ais (c:Bool):GV E O (.bool (!c)) false m d p l ks fr H Q↔GV E O (.bool c) true m d p l ks fr H Q:=by cases c<;>simp
end
theorem adX (c:Bool):CV E O (.bool c) a b ks fr H Q↔br (c=true) (Vk E O a ks fr H Q) (Vk E O b ks fr H Q):=by simp [CV]
@[simp]theorem Vl (x y:ByteArray):CV E O (.bool (aX x y)) a b ks fr H Q↔br (aX x y=true) (Vk E O a ks fr H Q) (Vk E O b ks fr H Q):=adX _
theorem Gi {m:Md} (d:Nat) (p:cl) (l:List AO) (h:p.aT=false):Vx E O m (⟨none,some d,p⟩::l) ks fr H Q↔
 Bo (ar p (X.ev fr) H)=true∧Vx E O (m.up (fr.put d (valOf (ar p (X.ev fr) H))) (fL H (ar p (X.ev fr) H))) l ks (fr.put d (valOf (ar p (X.ev fr) H))) (fL H (ar p (X.ev fr) H)) Q:=by
 cases m
 ·exact ab4 _ _ _ h
 ·exact ab6 _ _ _ h
theorem Vm {m:Md} (p:cl) (l:List AO) (h:p.aT=false):Vx E O m (⟨none,none,p⟩::l) ks fr H Q↔
 Bo (ar p (X.ev fr) H)=true∧Vx E O (m.up fr (fL H (ar p (X.ev fr) H))) l ks fr (fL H (ar p (X.ev fr) H)) Q:=by
 cases m
 ·exact ab5 _ _ h
 ·exact ab7 _ _ h
theorem dL {m:Md} {d:Nat} {p:cl} {l:List AO} (h:p.aT=false) {r:Option Value} (e:ar p (X.ev fr) H=r.map fun v=>(.v v,H)):Vx E O m (⟨none,some d,p⟩::l) ks fr H Q↔
 r.isSome=true∧Vx E O (m.up (fr.put d (r.getD undef)) H) l ks (fr.put d (r.getD undef)) H Q:=by
 rw [Gi _ _ _ h,e];cases r<;>simp [Bo]
def xl:Value→Value→Value→Option Value
 | .bool t,a,b=>some (bif t then a else b)
 |_,_,_=>none
@[simp]theorem Zp (t:Bool) (a b:Value):xl (.bool t) a b=some (bif t then a else b):=rfl
def Tj (H:AH):Value→Option Value
 | .pointer (some a)=>H.ld a
 |_=>none
@[simp]theorem ait (a:Addr):Tj H (.pointer (some a))=H.ld a:=rfl
def tA (n:Nat) (H:AH):Value→Option Value
 | .pointer (some a)=>(H.ldn a n).map fun l=>.agg l.toArray
 |_=>none
@[simp]theorem Qi (n:Nat) (a:Addr):tA n H (.pointer (some a))=(H.ldn a n).map fun l=>.agg l.toArray:=rfl
def Gj (n:Nat) (H:AH):Value→Value→Option AH
 | .pointer (some a),v=>bif Nat.beq (aR v).length n&& !cw v then H.st a (aR v)else none
 |_,_=>none
@[simp]theorem Vo (n:Nat) (a:Addr) (v:Value):Gj n H (.pointer (some a)) v=if(aR v).length=n∧cw v=false then H.st a (aR v)else none:=by
 unfold Gj;simp only [nb,Bool.cond_eq_ite,aqX,aq6,Bool.not_eq_true']
@[simp]theorem zM (k:IntKind) (n:Int):aR (.int k n)=[.int k n]:=rfl
@[simp]theorem NO (b:Bool):aR (.bool b)=[.bool b]:=rfl
@[simp]theorem Jt (b:ByteArray):aR (.string b)=[.string b]:=rfl
@[simp]theorem KV (a:Option Addr) (n c:Nat):aR (.slice a n c)=[.slice a n c]:=rfl
@[simp]theorem Gk (a:Option Addr):aR (.pointer a)=[.pointer a]:=rfl
@[simp]theorem Qj (a:Option Nat):aR (.map a)=[.map a]:=rfl
@[simp]theorem NP (f:Fn) (a b:Array Value):aR (.func f a b)=[.func f a b]:=rfl
@[simp]theorem Gl:aR .nilFunc=[.nilFunc]:=rfl
@[simp]theorem Tk (k:IntKind) (n:Int):cw (.int k n)=false:=rfl
@[simp]theorem Qk (b:Bool):cw (.bool b)=false:=rfl
@[simp]theorem KW (b:ByteArray):cw (.string b)=false:=rfl
@[simp]theorem NQ (a:Option Addr) (n c:Nat):cw (.slice a n c)=false:=rfl
@[simp]theorem Ju (a:Option Addr):cw (.pointer a)=false:=rfl
@[simp]theorem Tl (a:Option Nat):cw (.map a)=false:=rfl
@[simp]theorem Ql (f:Fn) (a b:Array Value):cw (.func f a b)=false:=rfl
@[simp]theorem Jv:cw .nilFunc=false:=rfl
def tV:Value→Option Value
 | .pointer (some a)=>some (.pointer (some a))
 |_=>none
@[simp]theorem Zq (a:Addr):tV (.pointer (some a))=some (.pointer (some a)):=rfl
def Gm (k:IntKind):Value→Option Value
 | .int _ n=>some (.int k (k.wrap n))
 |_=>none
@[simp]theorem adY (k c:IntKind) (n:Int):Gm k (.int c n)=some (.int k (k.wrap n)):=rfl
def Vp:Value→Option Value
 | .int _ n=>some (.string (Utf8.encode n))
 |_=>none
@[simp]theorem adZ (c:IntKind) (n:Int):Vp (.int c n)=some (.string (Utf8.encode n)):=rfl
def NS (off:Nat):Value→Option Value
 | .pointer (some a)=>bif a.spot.isNone then some (.pointer (some ⟨a.block,a.off+off,none⟩))else none
 |_=>none
@[simp]theorem aiu (off b o:Nat):NS off (.pointer (some ⟨b,o,none⟩))=some (.pointer (some ⟨b,o+off,none⟩)):=rfl
def NT (sz:Nat):Value→Value→Option Value
 | .slice (some a) len _,.int _ n=>if 0≤n∧n<len then(bif a.spot.isNone then some (.pointer (some ⟨a.block,a.off+n.toNat*sz,none⟩))else none)else none
 |_,_=>none
@[simp]theorem NU (sz b o len c:Nat) (k:IntKind) (n:Int):NT sz (.slice (some ⟨b,o,none⟩) len c) (.int k n)=if 0≤n∧n<len then some (.pointer (some ⟨b,o+n.toNat*sz,none⟩))else none:=rfl
def xm (len sz:Nat):Value→Value→Option Value
 | .pointer (some a),.int _ n=>if 0≤n∧n<len then(bif a.spot.isNone then some (.pointer (some ⟨a.block,a.off+n.toNat*sz,none⟩))else none)else none
 |_,_=>none
@[simp]theorem Gn (sz b o len:Nat) (k:IntKind) (n:Int):xm len sz (.pointer (some ⟨b,o,none⟩)) (.int k n)=if 0≤n∧n<len then some (.pointer (some ⟨b,o+n.toNat*sz,none⟩))else none:=rfl
def EF:Value→Value→Option Value
 | .string s,.int _ n=>if 0≤n then(match s[n.toNat]? with|some b=>some (.int .u8 b.toNat)|none=>none)else none
 |_,_=>none
theorem NV {s:ByteArray} {k:IntKind} {n:Nat} (h:n<s.size):EF (.string s) (.int k n)=some (.int .u8 (cA s n)):=by
 have:s[n]?=some s[n]:=getElem?_pos s n h;simp only [EF,Int.toNat_natCast];rw [if_pos (by omega),this];unfold cA;rw [this];rfl
def xn:Value→Nat→Option Value
 | .tuple vs,i=>vs.toList[i]?
 |_,_=>none
@[simp]theorem ad0 (vs:Array Value) (i:Nat):xn (.tuple vs) i=vs.toList[i]?:=rfl
def r9:Value→Option Value
 | .string s=>some (.int .i64 s.size)
 |_=>none
@[simp]theorem Zr (s:ByteArray):r9 (.string s)=some (.int .i64 s.size):=rfl
def sb:Value→Option Value
 | .slice _ n _=>some (.int .i64 n)
 |_=>none
@[simp]theorem Zs (a:Option Addr) (n c:Nat):sb (.slice a n c)=some (.int .i64 n):=rfl
def Gp (k:Nat) (neg:Bool) (x y:Value):Option Value:=(gD k x y).map fun b=>.bool (bif neg then !b else b)
@[simp]theorem aiv (neg a b:Bool):Gp 0 neg (.bool a) (.bool b)=some (.bool (bif neg then !(a==b)else(a==b))):=rfl
@[simp]theorem ad1 (neg:Bool) (b:Option Addr):Gp 1 neg (.pointer none) (.pointer b)=some (.bool (bif neg then !b.isNone else b.isNone)):=rfl
@[simp]theorem ad2 (neg:Bool) (b:Addr):Gp 1 neg (.pointer (some b)) (.pointer none)=some (.bool neg):=by cases neg<;>rfl
@[simp]theorem ad3 (neg:Bool) (n c d e:Nat) (b:Option Addr):Gp 2 neg (.slice none n c) (.slice b d e)=some (.bool (bif neg then !b.isNone else b.isNone)):=rfl
@[simp]theorem ad4 (neg:Bool) (n c d e:Nat) (b:Addr):Gp 2 neg (.slice (some b) n c) (.slice none d e)=some (.bool neg):=by cases neg<;>rfl
@[simp]theorem ad5 (neg:Bool) (f:Fn) (a b:Array Value):Gp 3 neg (.func f a b) .nilFunc=some (.bool neg):=by cases neg<;>rfl
@[simp]theorem ad6 (neg:Bool) (b:Option Nat):Gp 4 neg (.map none) (.map b)=some (.bool (bif neg then !b.isNone else b.isNone)):=rfl
def KX (neg:Bool) (offs:List (Nat×Nat)):Value→Value→Option Value
 | .agg cs,.agg ds=>(dF cs.toList ds.toList offs).map fun b=>.bool (bif neg then !b else b)
 |_,_=>none
@[simp]theorem ad7 (neg:Bool) (offs:List (Nat×Nat)) (cs ds:Array Value):KX neg offs (.agg cs) (.agg ds)=(dF cs.toList ds.toList offs).map fun b=>.bool (bif neg then !b else b):=rfl
def ic (kk:Nat) (z:Value) (H:AH) (x k:Value) (ok:Bool):Option Value:=
 match x with
 | .map none=>bif cj kk k then some (bif ok then .tuple #[z, .bool false]else z)else none
 | .map (some r)=>match H.get r with
   |some (.map es)=>bif cj kk k&&decide (H.n0≤r)then(match fG k es with
    |some (some v)=>some (bif ok then .tuple #[v, .bool true]else v)
    |some none=>some (bif ok then .tuple #[z, .bool false]else z)
    |none=>none)else none
   |_=>none
 |_=>none
section
variable{m:Md} {l:List AO} (d:Nat)
@[simp]theorem aiw (x:X):Vx E O m (⟨none,some d,.mv x⟩::l) ks fr H Q↔Vx E O (m.up (fr.put d (x.ev fr)) H) l ks (fr.put d (x.ev fr)) H Q:=by
 rw [dL (r:=some (x.ev fr)) rfl rfl];simp
@[simp]theorem Zt (c a b:X):Vx E O m (⟨none,some d,.pick c a b⟩::l) ks fr H Q↔(xl (c.ev fr) (a.ev fr) (b.ev fr)).isSome=true∧Vx E O (m.up (fr.put d ((xl (c.ev fr) (a.ev fr) (b.ev fr)).getD undef)) H) l ks (fr.put d ((xl (c.ev fr) (a.ev fr) (b.ev fr)).getD undef)) H Q:=
 dL rfl (by simp only [ar];cases c.ev fr<;>rfl)
@[simp]theorem aix (x:X):Vx E O m (⟨none,some d,.ld x⟩::l) ks fr H Q↔(Tj H (x.ev fr)).isSome=true∧Vx E O (m.up (fr.put d ((Tj H (x.ev fr)).getD undef)) H) l ks (fr.put d ((Tj H (x.ev fr)).getD undef)) H Q:=
 dL rfl (by
  simp only [ar]
  cases x.ev fr with
  |pointer a=>cases a<;>rfl
  |_=>rfl)
@[simp]theorem ad8 (n:Nat) (x:X):Vx E O m (⟨none,some d,.ldn n x⟩::l) ks fr H Q↔(tA n H (x.ev fr)).isSome=true∧Vx E O (m.up (fr.put d ((tA n H (x.ev fr)).getD undef)) H) l ks (fr.put d ((tA n H (x.ev fr)).getD undef)) H Q:=
 dL rfl (by
  simp only [ar]
  cases x.ev fr with
  |pointer a=>
   cases a with
   |none=>rfl
   |some a=>simp only [tA];cases H.ldn a n<;>rfl
  |_=>rfl)
@[simp]theorem Zu (x:X):Vx E O m (⟨none,some d,.aW x⟩::l) ks fr H Q↔(tV (x.ev fr)).isSome=true∧Vx E O (m.up (fr.put d ((tV (x.ev fr)).getD undef)) H) l ks (fr.put d ((tV (x.ev fr)).getD undef)) H Q:=
 dL rfl (by
  simp only [ar]
  cases x.ev fr with
  |pointer a=>cases a<;>rfl
  |_=>rfl)
@[simp]theorem ad9 (op:BinOp) (x y:X):Vx E O m (⟨none,some d,.bin op x y⟩::l) ks fr H Q↔(bX op (x.ev fr) (y.ev fr)).isSome=true∧Vx E O (m.up (fr.put d ((bX op (x.ev fr) (y.ev fr)).getD undef)) H) l ks (fr.put d ((bX op (x.ev fr) (y.ev fr)).getD undef)) H Q:=
 dL rfl rfl
@[simp]theorem aea (k:Nat) (neg:Bool) (x y:X):Vx E O m (⟨none,some d,.eqk k neg x y⟩::l) ks fr H Q↔(Gp k neg (x.ev fr) (y.ev fr)).isSome=true∧Vx E O (m.up (fr.put d ((Gp k neg (x.ev fr) (y.ev fr)).getD undef)) H) l ks (fr.put d ((Gp k neg (x.ev fr) (y.ev fr)).getD undef)) H Q:=
 dL rfl (by simp only [ar,Gp];cases gD k (x.ev fr) (y.ev fr)<;>rfl)
@[simp]theorem aiy (op:UnOp) (x:X):Vx E O m (⟨none,some d,.un op x⟩::l) ks fr H Q↔(ES op (x.ev fr)).isSome=true∧Vx E O (m.up (fr.put d ((ES op (x.ev fr)).getD undef)) H) l ks (fr.put d ((ES op (x.ev fr)).getD undef)) H Q:=
 dL rfl rfl
@[simp]theorem aeb (k:IntKind) (x:X):Vx E O m (⟨none,some d,.mF k x⟩::l) ks fr H Q↔(Gm k (x.ev fr)).isSome=true∧Vx E O (m.up (fr.put d ((Gm k (x.ev fr)).getD undef)) H) l ks (fr.put d ((Gm k (x.ev fr)).getD undef)) H Q:=
 dL rfl (by simp only [ar];cases x.ev fr<;>rfl)
@[simp]theorem aiz (off:Nat) (x:X):Vx E O m (⟨none,some d,.fa off x⟩::l) ks fr H Q↔(NS off (x.ev fr)).isSome=true∧Vx E O (m.up (fr.put d ((NS off (x.ev fr)).getD undef)) H) l ks (fr.put d ((NS off (x.ev fr)).getD undef)) H Q:=
 dL rfl (by
  simp only [ar]
  cases x.ev fr with
  |pointer a=>
   cases a with
   |none=>rfl
   |some a=>simp only [NS];cases a.spot.isNone<;>rfl
  |_=>rfl)
@[simp]theorem aiA (sz:Nat) (x i:X):Vx E O m (⟨none,some d,.ia sz x i⟩::l) ks fr H Q↔(NT sz (x.ev fr) (i.ev fr)).isSome=true∧Vx E O (m.up (fr.put d ((NT sz (x.ev fr) (i.ev fr)).getD undef)) H) l ks (fr.put d ((NT sz (x.ev fr) (i.ev fr)).getD undef)) H Q:=
 dL rfl (by
  simp only [ar]
  cases x.ev fr with
  |slice a len c=>
   cases a with
   |none=>rfl
   |some a=>
    cases i.ev fr<;>first
     |rfl
     |(simp only [NT];split<;>first|rfl|(cases a.spot.isNone<;>rfl))
  |_=>rfl)
@[simp]theorem aec (len sz:Nat) (x i:X):Vx E O m (⟨none,some d,.pY len sz x i⟩::l) ks fr H Q↔(xm len sz (x.ev fr) (i.ev fr)).isSome=true∧Vx E O (m.up (fr.put d ((xm len sz (x.ev fr) (i.ev fr)).getD undef)) H) l ks (fr.put d ((xm len sz (x.ev fr) (i.ev fr)).getD undef)) H Q:=
 dL rfl (by
  simp only [ar]
  cases x.ev fr with
  |pointer a=>
   cases a with
   |none=>rfl
   |some a=>
    cases i.ev fr<;>first
     |rfl
     |(simp only [xm];split<;>first|rfl|(cases a.spot.isNone<;>rfl))
  |_=>rfl)
@[simp]theorem aiB (x i:X):Vx E O m (⟨none,some d,.ix x i⟩::l) ks fr H Q↔(EF (x.ev fr) (i.ev fr)).isSome=true∧Vx E O (m.up (fr.put d ((EF (x.ev fr) (i.ev fr)).getD undef)) H) l ks (fr.put d ((EF (x.ev fr) (i.ev fr)).getD undef)) H Q:=
 dL rfl (by
  simp only [ar]
  cases x.ev fr with
  |string s=>
   cases i.ev fr<;>first
    |rfl
    |(simp only [EF];rename_i n;cases s[n.toNat]?<;>(split<;>rfl))
  |_=>rfl)
@[simp]theorem aed (x:X) (i:Nat):Vx E O m (⟨none,some d,.ext x i⟩::l) ks fr H Q↔(xn (x.ev fr) i).isSome=true∧Vx E O (m.up (fr.put d ((xn (x.ev fr) i).getD undef)) H) l ks (fr.put d ((xn (x.ev fr) i).getD undef)) H Q:=
 dL rfl (by
  simp only [ar]
  cases x.ev fr with
  |tuple c=>simp only [xn];cases c.toList[i]?<;>rfl
  |_=>rfl)
@[simp]theorem Zv (x:X):Vx E O m (⟨none,some d,.lens x⟩::l) ks fr H Q↔(r9 (x.ev fr)).isSome=true∧Vx E O (m.up (fr.put d ((r9 (x.ev fr)).getD undef)) H) l ks (fr.put d ((r9 (x.ev fr)).getD undef)) H Q:=
 dL rfl (by simp only [ar];cases x.ev fr<;>rfl)
@[simp]theorem Zw (x:X):Vx E O m (⟨none,some d,.ey x⟩::l) ks fr H Q↔(sb (x.ev fr)).isSome=true∧Vx E O (m.up (fr.put d ((sb (x.ev fr)).getD undef)) H) l ks (fr.put d ((sb (x.ev fr)).getD undef)) H Q:=
 dL rfl (by simp only [ar];cases x.ev fr<;>rfl)
@[simp]theorem Zx (kk:Nat) (z:Value) (x k:X) (ok:Bool):Vx E O m (⟨none,some d,.look kk z x k ok⟩::l) ks fr H Q↔(ic kk z H (x.ev fr) (k.ev fr) ok).isSome=true∧Vx E O (m.up (fr.put d ((ic kk z H (x.ev fr) (k.ev fr) ok).getD undef)) H) l ks (fr.put d ((ic kk z H (x.ev fr) (k.ev fr) ok).getD undef)) H Q:=
 dL rfl (by
  simp only [ar,ic]
  cases x.ev fr with
  |map r=>
   cases r with
   |none=>dsimp only;cases cj kk (k.ev fr)<;>rfl
   |some r=>
    dsimp only
    cases H.get r with
    |none=>rfl
    |some b=>
     cases b with
     |cells=>rfl
     |map es=>
      dsimp only;cases cj kk (k.ev fr)&&decide (H.n0≤r)
      ·rfl
      ·cases fG (k.ev fr) es with
       |none=>rfl
       |some q=>cases q<;>rfl
  |_=>rfl)
@[simp]theorem aee (f:Nat) (a b:List X):Vx E O m (⟨none,some d,.mkf f a b⟩::l) ks fr H Q↔Vx E O (m.up (fr.put d (.func (.func f) (a.map (X.ev fr)).toArray (b.map (X.ev fr)).toArray)) H) l ks (fr.put d (.func (.func f) (a.map (X.ev fr)).toArray (b.map (X.ev fr)).toArray)) H Q:=by
 rw [dL (r:=some (.func (.func f) (a.map (X.ev fr)).toArray (b.map (X.ev fr)).toArray)) rfl rfl];simp
@[simp]theorem aiC (sz:Nat) (x:X) (lo hi mx:Option X):Vx E O m (⟨none,some d,.sl sz x lo hi mx⟩::l) ks fr H Q↔(bL sz H (x.ev fr) (lo.map (X.ev fr)) (hi.map (X.ev fr)) (mx.map (X.ev fr))).isSome=true∧Vx E O (m.up (fr.put d ((bL sz H (x.ev fr) (lo.map (X.ev fr)) (hi.map (X.ev fr)) (mx.map (X.ev fr))).getD undef)) H) l ks (fr.put d ((bL sz H (x.ev fr) (lo.map (X.ev fr)) (hi.map (X.ev fr)) (mx.map (X.ev fr))).getD undef)) H Q:=
 dL rfl rfl
def eD (z:List Value) (ps:List (Nat×Nat×Value)):Option Value:=(iG z ps).map fun c=>.agg c.toArray
@[simp]theorem Vq (z:List Value) (ps:List (Nat×Nat×X)):Vx E O m (⟨none,some d,.build z ps⟩::l) ks fr H Q↔(eD z (ps.map fun p=>(p.1,p.2.1,p.2.2.ev fr))).isSome=true∧Vx E O (m.up (fr.put d ((eD z (ps.map fun p=>(p.1,p.2.1,p.2.2.ev fr))).getD undef)) H) l ks (fr.put d ((eD z (ps.map fun p=>(p.1,p.2.1,p.2.2.ev fr))).getD undef)) H Q:=
 dL rfl (by simp only [ar,eD];cases iG z (ps.map fun p=>(p.1,p.2.1,p.2.2.ev fr))<;>rfl)
@[simp]theorem Vs (z:List Value):Vx E O m (⟨none,some d,.alloc z⟩::l) ks fr H Q↔Vx E O (m.up (fr.put d (.pointer (some ⟨H.nx,0,none⟩))) (H.alloc (.cells z.length z))) l ks (fr.put d (.pointer (some ⟨H.nx,0,none⟩))) (H.alloc (.cells z.length z)) Q:=by
 rw [Gi _ _ _ rfl];simp [ar]
@[simp]theorem aef (x:X):Vx E O m (⟨none,some d,.box x⟩::l) ks fr H Q↔cw (x.ev fr)=false∧Vx E O (m.up (fr.put d (.pointer (some ⟨H.nx,0,none⟩))) (H.alloc (.cells (aR (x.ev fr)).length (aR (x.ev fr))))) l ks (fr.put d (.pointer (some ⟨H.nx,0,none⟩))) (H.alloc (.cells (aR (x.ev fr)).length (aR (x.ev fr)))) Q:=by
 rw [Gi _ _ _ rfl];simp only [ar];cases cw (x.ev fr)<;>simp [Bo]
@[simp]theorem Vt:Vx E O m (⟨none,some d,.mkmap⟩::l) ks fr H Q↔Vx E O (m.up (fr.put d (.map (some H.nx))) (H.alloc (.map []))) l ks (fr.put d (.map (some H.nx))) (H.alloc (.map [])) Q:=by
 rw [Gi _ _ _ rfl];simp [ar]
@[simp]theorem aiD (n:Nat) (x v:X):Vx E O m (⟨none,none,.st n x v⟩::l) ks fr H Q↔(Gj n H (x.ev fr) (v.ev fr)).isSome=true∧Vx E O (m.up fr ((Gj n H (x.ev fr) (v.ev fr)).getD H)) l ks fr ((Gj n H (x.ev fr) (v.ev fr)).getD H) Q:=by
 rw [Vm _ _ rfl]
 have e:ar (.st n x v) (X.ev fr) H=(Gj n H (x.ev fr) (v.ev fr)).map fun c=>(.v undef,c):=by
  simp only [ar]
  cases x.ev fr with
  |pointer a=>
   cases a with
   |none=>rfl
   |some a=>
    simp only [Gj];cases (Nat.beq (aR (v.ev fr)).length n&& !cw (v.ev fr))<;>simp
  |_=>rfl
 rw [e];cases Gj n H (x.ev fr) (v.ev fr)<;>simp [Bo,fL]
def Dr:Option (Value×AH)→Bool
 |some _=>true
 |none=>false
def v1:Option (Value×AH)→Value
 |some (v,_)=>v
 |none=>undef
def h2 (H:AH):Option (Value×AH)→AH
 |some (_,H')=>H'
 |none=>H
@[simp]theorem aeg (r:Value×AH):Dr (some r)=true:=rfl
@[simp]theorem al9 (v:Value) (H':AH):v1 (some (v,H'))=v:=rfl
@[simp]theorem ama (v:Value) (H':AH):h2 H (some (v,H'))=H':=rfl
theorem Gq {p:cl} (h:p.aT=false) {r:Option (Value×AH)} (e:ar p (X.ev fr) H=r.map fun q=>(.v q.1,q.2)):Vx E O m (⟨none,some d,p⟩::l) ks fr H Q↔
 Dr r=true∧Vx E O (m.up (fr.put d (v1 r)) (h2 H r)) l ks (fr.put d (v1 r)) (h2 H r) Q:=by
 rw [Gi _ _ _ h,e]
 cases r with
 |none=>simp [Dr,Bo]
 |some q=>obtain ⟨v,c⟩:=q;simp
@[simp]theorem aeh (sz bytes:Nat) (s x:X):Vx E O m (⟨none,some d,.app sz bytes s x⟩::l) ks fr H Q↔Dr (bc sz bytes H (s.ev fr) (x.ev fr))=true∧Vx E O (m.up (fr.put d (v1 (bc sz bytes H (s.ev fr) (x.ev fr)))) (h2 H (bc sz bytes H (s.ev fr) (x.ev fr)))) l ks (fr.put d (v1 (bc sz bytes H (s.ev fr) (x.ev fr)))) (h2 H (bc sz bytes H (s.ev fr) (x.ev fr))) Q:=
 Gq _ rfl rfl
def mB (len sz:Nat) (z:List Value) (H:AH) (ps:List (Nat×Nat×Value)):Option (Value×AH):=(iG z ps).map fun c=>(.slice (some ⟨H.nx,0,none⟩) len len,H.alloc (.cells sz c))
@[simp]theorem aei (len sz:Nat) (z:List Value) (ps:List (Nat×Nat×X)):Vx E O m (⟨none,some d,.bsl len sz z ps⟩::l) ks fr H Q↔Dr (mB len sz z H (ps.map fun p=>(p.1,p.2.1,p.2.2.ev fr)))=true∧Vx E O (m.up (fr.put d (v1 (mB len sz z H (ps.map fun p=>(p.1,p.2.1,p.2.2.ev fr))))) (h2 H (mB len sz z H (ps.map fun p=>(p.1,p.2.1,p.2.2.ev fr))))) l ks (fr.put d (v1 (mB len sz z H (ps.map fun p=>(p.1,p.2.1,p.2.2.ev fr))))) (h2 H (mB len sz z H (ps.map fun p=>(p.1,p.2.1,p.2.2.ev fr)))) Q:=
 Gq _ rfl (by simp only [ar,mB];cases iG z (ps.map fun p=>(p.1,p.2.1,p.2.2.ev fr))<;>rfl)
def qH (kk:Nat) (H:AH) (x k v:Value):Option AH:=
 match x with
 | .map (some r)=>match H.get r with
   |some (.map es)=>bif cj kk k&&decide (H.n0≤r)&& !cw v then(kW k v es).map fun es'=>H.put r (some (.map es'))else none
   |_=>none
 |_=>none
@[simp]theorem aej (kk:Nat) (x k v:X):Vx E O m (⟨none,none,.mU kk x k v⟩::l) ks fr H Q↔(qH kk H (x.ev fr) (k.ev fr) (v.ev fr)).isSome=true∧Vx E O (m.up fr ((qH kk H (x.ev fr) (k.ev fr) (v.ev fr)).getD H)) l ks fr ((qH kk H (x.ev fr) (k.ev fr) (v.ev fr)).getD H) Q:=by
 rw [Vm _ _ rfl]
 have e:ar (.mU kk x k v) (X.ev fr) H=(qH kk H (x.ev fr) (k.ev fr) (v.ev fr)).map fun c=>(.v undef,c):=by
  simp only [ar,qH]
  cases x.ev fr with
  |map r=>
   cases r with
   |none=>rfl
   |some r=>
    dsimp only
    cases H.get r with
    |none=>rfl
    |some b=>
     cases b with
     |cells=>rfl
     |map es=>
      dsimp only;cases (cj kk (k.ev fr)&&decide (H.n0≤r)&& !cw (v.ev fr))
      ·rfl
      ·simp only [cond_true]
       cases kW (k.ev fr) (v.ev fr) es<;>rfl
  |_=>rfl
 rw [e];cases qH kk H (x.ev fr) (k.ev fr) (v.ev fr)<;>simp [Bo,fL]
theorem KY {d f:Nat} {«as»:List X} {vs:List Value} {R:Value→AH→Prop} (c:«as».map (X.ev fr)=vs) (h:Ca E O f vs H R) (k:∀x H',R x H'→Vx E O (m.up (fr.put d x) H') l ks (fr.put d x) H' Q):Vx E O m (⟨none,some d,.call f «as»⟩::l) ks fr H Q:=by
 subst c;cases m
 ·exact bk (h.mono k)
 ·exact lV (h.mono k)
theorem ah {d f:Nat} {«as»:List X} {vs:List Value} (c:«as».map (X.ev fr)=vs) (h:Ca E O f vs H fun x H'=>Vx E O (m.up (fr.put d x) H') l ks (fr.put d x) H' Q):Vx E O m (⟨none,some d,.call f «as»⟩::l) ks fr H Q:=KY c h fun _ _ k=>k
theorem Gr {d f:Nat} {x:X} {«as»:List X} {first cap:Array Value} {vs:List Value} {R:Value→AH→Prop} (c:x.ev fr= .func (.func f) first cap) (g:first.toList++«as».map (X.ev fr)++cap.toList=vs) (h:Ca E O f vs H R) (k:∀x H',R x H'→Vx E O (m.up (fr.put d x) H') l ks (fr.put d x) H' Q):Vx E O m (⟨none,some d,.callv x «as»⟩::l) ks fr H Q:=by
 subst g;have e:ar (.callv x «as») (X.ev fr) H=some (.enter f (first.toList++«as».map (X.ev fr)++cap.toList),H):=by simp only [ar,c]
 cases m
 ·show Wo E O _ _ _ _
  rw [gJ,fK _ _ _ _ rfl,e];exact h.mono k
 ·show Wd E O _ _ _ _ _ _ _ _
  rw [iM,fK _ _ _ _ rfl,e];exact h.mono k
theorem jR {d f:Nat} {x:X} {«as»:List X} {first cap:Array Value} {vs:List Value} (c:x.ev fr= .func (.func f) first cap) (e:first.toList++«as».map (X.ev fr)++cap.toList=vs) (h:Ca E O f vs H fun x H'=>Vx E O (m.up (fr.put d x) H') l ks (fr.put d x) H' Q):Vx E O m (⟨none,some d,.callv x «as»⟩::l) ks fr H Q:=Gr c e h fun _ _ k=>k
end
def Gs:AO→Fr→Bool
 |⟨none,_,_⟩,_=>true
 |⟨some (t,b),_,_⟩,fr=>dZ b (fr.get t)
@[simp]theorem aiE (d:Option Nat) (p:cl) (fr:Fr):Gs ⟨none,d,p⟩ fr=true:=rfl
@[simp]theorem aiF (t:Nat) (b:Bool) (d:Option Nat) (p:cl) (fr:Fr):Gs ⟨some (t,b),d,p⟩ fr=dZ b (fr.get t):=rfl
theorem Qm (o:AO) (fr:Fr):o.wanted fr=Gs o fr:=by
 obtain ⟨g,d,p⟩:=o
 cases g with
 |none=>rfl
 |some q=>obtain ⟨t,b⟩:=q;exact lZ _ _ _ _
def Tm (H:AH) (n:Nat):Value→Option (Addr×List Value)
 | .pointer (some a)=>(H.ldn a n).map fun l=>(a,l)
 |_=>none
@[simp]theorem aiG (n:Nat) (a:Addr):Tm H n (.pointer (some a))=(H.ldn a n).map fun l=>(a,l):=rfl
def Vu:cl→Fr→AH→Option (Addr×List Value)
 | .ld x,fr,H=>Tm H 1 (x.ev fr)
 | .ldn n x,fr,H=>Tm H n (x.ev fr)
 |_,_,_=>none
@[simp]theorem aek (x:X):Vu (.ld x) fr H=Tm H 1 (x.ev fr):=rfl
@[simp]theorem Zy (n:Nat) (x:X):Vu (.ldn n x) fr H=Tm H n (x.ev fr):=rfl
def Qn (H':AH):Option (Addr×List Value)→Bool
 |some x=>sameAt H' x
 |none=>false
@[simp]theorem ael (x:Addr×List Value):Qn H (some x)=sameAt H x:=rfl
def Qo:Option (List Value)→List Value→Bool
 |some m,l=>eu m l
 |none,_=>false
@[simp]theorem aem (m l:List Value):Qo (some m) l=eu m l:=rfl
@[simp]theorem xp (a:Addr) (l:List Value):sameAt H (a,l)=Qo (H.ldn a l.length) l:=by
 unfold sameAt Qo;dsimp only;cases H.ldn a l.length<;>rfl
@[simp]theorem Zz:eu [] []=true:=rfl
@[simp]theorem ZA (x y:Value) (l m:List Value):eu (x::l) (y::m)=(cU x y&&eu l m):=rfl
@[simp]theorem ZB (k:IntKind) (n:Int):cU (.int k n) (.int k n)=true:=by simp [cU]
@[simp]theorem ZC (b:Bool):cU (.bool b) (.bool b)=true:=by simp [cU]
@[simp]theorem ZD (a:Option Addr):cU (.pointer a) (.pointer a)=true:=by simp [cU]
@[simp]theorem ZE (a:Option Addr) (n c:Nat):cU (.slice a n c) (.slice a n c)=true:=by simp [cU]
def Qp (l:List AO):Nat→Option AO→Option (Fr×AH)→Option (Fr×AH)→Option AO→Option (Fr×AH)→Option (Fr×AH)→Bool
 |k,some op,some (fp,Hp),some (_,Jn),some oq,some (fq,_),some (_,CX)=>
  !Gs op fp|| !Gs oq fq||(match k with
   |0=>Qn CX (Vu op.o fp Hp)
   |1=>mG (Jn.get Hp.nx) (CX.get Hp.nx)
   |_=>match cC op fp,cC oq fq with|some b,some b'=>!Nat.beq b b'|_,_=>true)
 |_,_,_,_,_,_,_=>false
@[simp]theorem aiH (l:List AO) (op d:AO) (c e i h:Fr) (g j H1 f:AH):Qp l 0 (some op) (some (c,g)) (some (i,j)) (some d) (some (e,H1)) (some (h,f))=(!Gs op c|| !Gs d e||Qn f (Vu op.o c g)):=rfl
@[simp]theorem aiI (l:List AO) (op d:AO) (f e j i:Fr) (c h H1 g:AH):Qp l 1 (some op) (some (f,c)) (some (j,h)) (some d) (some (e,H1)) (some (i,g))=(!Gs op f|| !Gs d e||mG (h.get c.nx) (g.get c.nx)):=rfl
theorem Bq (l:List AO) (op c:AO) (e d g f:Fr) (j i H1 h:AH):Qp l 2 (some op) (some (e,j)) (some (g,i)) (some c) (some (d,H1)) (some (f,h))=(!Gs op e|| !Gs c d||(match cC op e,cC c d with|some b,some b'=>!Nat.beq b b'|_,_=>true)):=rfl
theorem KZ (l:List AO) (e:List (Fr×AH)) (k p q:Nat):jI l e (k,p,q)=Qp l k (nth l p) (nth e p) (nth e (p+1)) (nth l q) (nth e q) (nth e (q+1)):=by
 unfold jI;dsimp only
 cases nth l p with
 |none=>rfl
 |some op=>
  cases nth e p with
  |none=>rfl
  |some a=>
   cases nth e (p+1)with
   |none=>rfl
   |some b=>
    cases nth l q with
    |none=>rfl
    |some i=>
     cases nth e q with
     |none=>rfl
     |some c=>
      cases nth e (q+1)with
      |none=>rfl
      |some d=>
       obtain ⟨h,f⟩:=a;obtain ⟨t,s⟩:=b;obtain ⟨r,o⟩:=c;obtain ⟨n,m⟩:=d;simp only [Qp,Qm];congr 1
       match k with
       |0=>
        obtain ⟨g,j,p⟩:=op
        cases p<;>first
         |rfl
         |(simp only [ei,Vu]
           rename_i x
           cases x.ev h with
           |pointer z=>
            cases z with
            |none=>rfl
            |some z=>simp only [Tm];cases AH.ldn f z _<;>rfl
           |_=>rfl)
       |1=>rfl
       |k+2=>rfl
theorem Qq (l:List AO) (ck:List (Nat×Nat×Nat)) (acc:List (Fr×AH)):ts l ck acc=(chain acc.reverse&&ck.all fun c=>Qp l c.1 (nth l c.2.1) (nth acc.reverse c.2.1) (nth acc.reverse (c.2.1+1)) (nth l c.2.2) (nth acc.reverse c.2.2) (nth acc.reverse (c.2.2+1))):=by
 unfold ts;congr 1;congr 1;funext c;obtain ⟨k,p,q⟩:=c;exact KZ _ _ _ _ _
theorem bh (l:List AO) (ck:List (Nat×Nat×Nat)) (acc:List (Fr×AH)):ts l ck acc=true↔chain acc.reverse=true∧ck.all (fun c=>Qp l c.1 (nth l c.2.1) (nth acc.reverse c.2.1) (nth acc.reverse (c.2.1+1)) (nth l c.2.2) (nth acc.reverse c.2.2) (nth acc.reverse (c.2.2+1)))=true:=by
 rw [Qq,aqX]
theorem aL (a b:Fr×AH) (l:List (Fr×AH)):chain (a::b::l)=true↔(a.2.n0=b.2.n0∧a.2.nx≤b.2.nx)∧chain (b::l)=true:=by
 simp only [chain,aqX,Nat.beq_eq,Nat.ble_eq]
theorem aM (a:Fr×AH):chain [a]=true:=rfl
@[simp]theorem Vv {α:Type} (x:α) (l:List α):nth (x::l) 0=some x:=rfl
@[simp]theorem aiJ {α:Type} (x:α) (l:List α) (n:Nat):nth (x::l) (n+1)=nth l n:=rfl
theorem tW {α:Type}:∀(l:List α) (n:Nat),nth l n=l[n]?
 |[],n=>by cases n<;>rfl
 |x::l,0=>rfl
 |x::l,n+1=>by simp [tW l n]
def spine:Nat→AC→AC→AC
 |0,_,r=>r
 |k+1,.seq a b,r=>.seq a (spine k b r)
 |_,c,_=>c
def se:Nat→AC→AC
 |0,c=>c
 |k+1,.seq _ b=>se k b
 |_,c=>c
theorem K0 (a b r:AC):spine 1 (.seq a b) r= .seq a r:=by cases b<;>rfl
theorem K1 (a b r:AC):spine 2 (.seq a b) r= .seq a (spine 1 b r):=rfl
theorem K2 (a b r:AC):spine 3 (.seq a b) r= .seq a (spine 2 b r):=rfl
theorem K3 (a b r:AC):spine 4 (.seq a b) r= .seq a (spine 3 b r):=rfl
theorem K4 (a b r:AC):spine 5 (.seq a b) r= .seq a (spine 4 b r):=rfl
theorem K5 (a b r:AC):spine 6 (.seq a b) r= .seq a (spine 5 b r):=rfl
theorem K6 (a b r:AC):spine 7 (.seq a b) r= .seq a (spine 6 b r):=rfl
theorem K7 (a b r:AC):spine 8 (.seq a b) r= .seq a (spine 7 b r):=rfl
attribute [simp] K0 K1 K2 K3 K4 K5 K6 K7
inductive dq where
 |l
 |r
def fM:List dq→AC→AC
 |[],c=>c
 | .l::p,.seq a _=>fM p a
 | .r::p,.seq _ b=>fM p b
 | .l::p,.block _ a=>fM p a
 | .l::p,.cond _ a _=>fM p a
 | .r::p,.cond _ _ b=>fM p b
 |_,c=>c
def kg:List dq→AC→AC→AC
 |[],_,r=>r
 | .l::p,.seq a b,r=>.seq (kg p a r) b
 | .r::p,.seq a b,r=>.seq a (kg p b r)
 | .l::p,.block i a,r=>.block i (kg p a r)
 | .l::p,.cond x a b,r=>.cond x (kg p a r) b
 | .r::p,.cond x a b,r=>.cond x a (kg p b r)
 |_,c,_=>c
def kh:List dq→AC→List Ko→List Ko
 |[],_,ks=>ks
 | .l::p,.seq a b,ks=>kh p a (.seq b::ks)
 | .r::p,.seq _ b,ks=>kh p b ks
 | .l::p,.block i a,ks=>kh p a (.aS i::ks)
 | .l::p,.cond _ a _,ks=>kh p a ks
 | .r::p,.cond _ _ b,ks=>kh p b ks
 |_,_,ks=>ks
@[simp]theorem K8 (c:AC):fM [] c=c:=by cases c<;>rfl
@[simp]theorem ZF (p:List dq) (a b:AC):fM (.l::p) (.seq a b)=fM p a:=rfl
@[simp]theorem K9 (p:List dq) (a b:AC):fM (.r::p) (.seq a b)=fM p b:=rfl
@[simp]theorem ZG (p:List dq) (i:Nat) (a:AC):fM (.l::p) (.block i a)=fM p a:=rfl
@[simp]theorem Vw (p:List dq) (x:X) (a b:AC):fM (.l::p) (.cond x a b)=fM p a:=rfl
@[simp]theorem Vy (p:List dq) (x:X) (a b:AC):fM (.r::p) (.cond x a b)=fM p b:=rfl
@[simp]theorem ZH (p:List dq) (x:X) (a b r:AC):kg (.l::p) (.cond x a b) r= .cond x (kg p a r) b:=rfl
@[simp]theorem ZI (p:List dq) (x:X) (a b r:AC):kg (.r::p) (.cond x a b) r= .cond x a (kg p b r):=rfl
@[simp]theorem ZJ (p:List dq) (x:X) (a b:AC) (ks:List Ko):kh (.l::p) (.cond x a b) ks=kh p a ks:=rfl
@[simp]theorem ZK (p:List dq) (x:X) (a b:AC) (ks:List Ko):kh (.r::p) (.cond x a b) ks=kh p b ks:=rfl
@[simp]theorem aen (c r:AC):kg [] c r=r:=by cases c<;>rfl
@[simp]theorem aeo (p:List dq) (a b r:AC):kg (.l::p) (.seq a b) r= .seq (kg p a r) b:=rfl
@[simp]theorem aep (p:List dq) (a b r:AC):kg (.r::p) (.seq a b) r= .seq a (kg p b r):=rfl
@[simp]theorem aer (p:List dq) (i:Nat) (a r:AC):kg (.l::p) (.block i a) r= .block i (kg p a r):=rfl
@[simp]theorem zN (c:AC) (ks:List Ko):kh [] c ks=ks:=by cases c<;>rfl
@[simp]theorem aes (p:List dq) (a b:AC) (ks:List Ko):kh (.l::p) (.seq a b) ks=kh p a (.seq b::ks):=rfl
@[simp]theorem zO (p:List dq) (a b:AC) (ks:List Ko):kh (.r::p) (.seq a b) ks=kh p b ks:=rfl
@[simp]theorem aet (p:List dq) (i:Nat) (a:AC) (ks:List Ko):kh (.l::p) (.block i a) ks=kh p a (.aS i::ks):=rfl
def Br:Nat→List dq→List Ko→AC
 |0,p,.seq c::_=>fM p c
 |j+1,p,_::ks=>Br j p ks
 |_,_,_=>.skip
def u6:Nat→List dq→List Ko→AC→List Ko
 |0,p,.seq c::ks,r=>.seq (kg p c r)::ks
 |j+1,p,k::ks,r=>k::u6 j p ks r
 |_,_,ks,_=>ks
def xq:Nat→List dq→List Ko→List Ko
 |0,p,.seq c::ks=>kh p c ks
 |j+1,p,_::ks=>xq j p ks
 |_,_,ks=>ks
theorem sg {c:AC} (p:List dq) (P:Fr→AH→Prop) (d:kg p c (fM p c)=c) (h2:∀fr H,P fr H→Vk E O (fM p c) (kh p c ks) fr H Q) (e:∀rest,(∀fr H,P fr H→Vk E O rest (kh p c ks) fr H Q)→Vk E O (kg p c rest) ks fr H Q):Vk E O c ks fr H Q:=by
 have:=e _ h2;rwa [d]at this
theorem VA {m:Md} {l:List AO} (j:Nat) (p:List dq) (P:Fr→AH→Prop) (c:u6 j p ks (Br j p ks)=ks) (h2:∀fr H,P fr H→Vk E O (Br j p ks) (xq j p ks) fr H Q) (d:∀rest,(∀fr H,P fr H→Vk E O rest (xq j p ks) fr H Q)→Vx E O m l (u6 j p ks rest) fr H Q):Vx E O m l ks fr H Q:=by
 have:=d _ h2;rwa [c]at this
theorem Ca.VB {f:Nat} {F:AF} {«as»:List Value} {H:AH} {Q:Value→AH→Prop} (k:Nat) (c:O f=none) (g:E f=some F) (d:«as».length=F.np) (e:spine k F.body (se k F.body)=F.body) (h:Vk E O (spine k F.body (se k F.body)) [] (Fr.of «as») H (wV F.res Q)):Ca E O f «as» H Q:=Ca.dK c g d (e▸h)
theorem Ca.aV {f:Nat} {F:AF} {«as»:List Value} {H:AH} {Q:Value→AH→Prop} (c:O f=none) (e:E f=some F) (d:«as».length=F.np) (h:Vk E O F.body [] (Fr.of «as») H (wV F.res Q)):Ca E O f «as» H Q:=Ca.dK c e d h
def xu (E:Env) (O:jk) (I:Nat→Fr→AH→Prop) (k:Nat) (ks:List Ko) (Q:Ex→Fr→AH→Prop):Ex→Fr→AH→Prop
 | .normal,fr,H=>∃j,j<k∧I j fr H
 | .exit i,fr,H=>Vn E O (.exit i) ks fr H Q
 | .ret,fr,H=>Vn E O .ret ks fr H Q
@[simp]theorem ZL (I:Nat→Fr→AH→Prop) (k:Nat):xu E O I k ks Q .normal fr H=∃j,j<k∧I j fr H:=rfl
@[simp]theorem ZM (I:Nat→Fr→AH→Prop) (k i:Nat):xu E O I k ks Q (.exit i) fr H=Vn E O (.exit i) ks fr H Q:=rfl
@[simp]theorem ZN (I:Nat→Fr→AH→Prop) (k:Nat):xu E O I k ks Q .ret fr H=Vn E O .ret ks fr H Q:=rfl
theorem ch {a:AC} (I:Nat→Fr→AH→Prop) (step:∀k fr H,I k fr H→Vk E O a [] fr H (xu E O I k ks Q)) (k:Nat) (h:I k fr H):Vk E O (.loop a) ks fr H Q:=by
 refine eO I (fun k fr H c=>?_) k h;have:=step k fr H c;unfold Vk at this
 have e:xu E O I k ks Q=wY E O I k ks Q:=by
  funext ex fr H;cases ex<;>rfl
 rw [e]at this;exact this
@[simp]theorem X_t (n:Nat):X.ev fr (.t n)=fr.get n:=rfl
@[simp]theorem X_k (v:Value):X.ev fr (.k v)=v:=rfl
@[simp]theorem X_f (n:Nat):X.ev fr (.f n)= .func (.func n) #[] #[]:=rfl
end
end
set_option maxRecDepth 10000
section
open Go
theorem Ds (c:Int) (H:AH):Ca E O 154 [.int .u8 c] H (fun x H'=>x= .bool (dW c)∧H'=H):=by
 refine Ca.aV (F:=a154) rfl rfl rfl ?_;simp (maxSteps:=9^7)-implicitDefEqProofs+contextual [-X.ev,a154];simp [br,dW,fi,isDigit];by_cases d:97≤c<;>by_cases h2:c≤122<;>by_cases b:48≤c<;>by_cases a:c≤57<;>simp [*]<;>omega
theorem tX {s:ByteArray}:aX s ⟨#[]⟩=decide (s.size=0):=by
 rw [art,eh];constructor
 ·rintro rfl;rfl
 ·intro h;simp at h;exact h
theorem Dt (s:ByteArray) (G:s.size<2^60) (H:AH):Ca E O 129 [.string s] H (fun x H'=>x= .bool (isName s)∧H'=H):=by
 refine Ca.aV (F:=F3) rfl rfl rfl ?_;by_cases u:s.size=0
 ·simp (maxSteps:=9^7)-implicitDefEqProofs+contextual [-X.ev,F3,tX,u,isName]
 have D:0<s.size:=by omega
 have o:EF (.string s) (.int .i64 0)=some (.int .u8 (cA s 0)):=NV (n:=0) D;have c:fi (cA s 0)=(decide (97≤cA s 0)&&decide (cA s 0≤122)):=rfl
 obtain ⟨b0,a⟩:∃b,cA s 0=b:=⟨_,rfl⟩
 rw [a]at o c;simp (maxSteps:=9^7)-implicitDefEqProofs+contextual [-X.ev,F3,tX,u,o];refine zL (fun q=>?_) (fun q=>zL (fun A=>?_) (fun A=>zL (fun z=>?_) (fun z=>?_)))
 ·have:¬ s.size≤12:=by omega
  simp [isName,this]
 ·have f:¬ 97≤b0:=by omega
  simp [isName,a,c,f]
 ·have d:¬ b0≤122:=by omega
  simp [isName,a,c,d]
 refine ch (fun k g H'=>H'=H∧∃i:Nat,i+k=s.size∧g.get 0= .string s∧g.get 3= .int .i64 i∧∀j,j<i→dW (cA s j)=true) ?_ s.size ⟨rfl,0,by simp,by simp,by simp,fun j p=>by omega⟩;rintro k g H' ⟨rfl,i,hi,m,l,r⟩;by_cases h:i<s.size
 ·have B:EF (.string s) (.int .i64 i)=some (.int .u8 (cA s i)):=NV h
  simp (maxSteps:=9^7)-implicitDefEqProofs+contextual [-X.ev,m,l,h,B];apply ah
  ·(simp-implicitDefEqProofs [-X.ev];rfl)
  refine (Ds (cA s i) H').mono ?_;rintro x I ⟨rfl,rfl⟩
  cases t:dW (cA s i)with
  |true=>
   simp (maxSteps:=9^7)-implicitDefEqProofs+contextual [-X.ev,m,l];rw [ai ⟨by omega,by omega⟩];refine ⟨k- 1,by omega,i+1,by omega,by simp,fun j p=>?_⟩;by_cases e:j=i
   ·subst e;exact t
   ·exact r j (by omega)
  |false=>
   simp (maxSteps:=9^7)-implicitDefEqProofs+contextual [-X.ev];simp [isName];intro _ _ _ _;exact ⟨i,h,t⟩
 ·have C:((List.range s.size).all fun i=>dW (cA s i))=true:=by simpa using fun j p=>r j (by omega)
  have y:1≤s.size:=by omega
  have w:s.size≤12:=by omega
  have v:fi (cA s 0)=true:=by rw [a,c];simp;omega
  have e:isName s= !dA s:=by simp [isName,C,y,w,v]
  simp (maxSteps:=9^7)-implicitDefEqProofs+contextual [-X.ev,m,l,h,e,dA]
open Go
def smap (l:List (ByteArray×Value)):List (Value×Value):=l.map fun p=>(.string p.1,p.2)
theorem Bs (s:ByteArray):∀l:List (ByteArray×Value),fG (.string s) (smap l)=some ((l.find? fun p=>aX s p.1).map (·.2))
 |[]=>rfl
 |p::l=>by
  have ih:=Bs s l;unfold smap at ih⊢;simp only [List.map_cons,fG,gX,List.find?_cons];change (match some (aX s p.1)with|some true=>_|some false=>_|none=>_)=_;cases aX s p.1
  ·exact ih
  ·rfl
theorem Gt (s:ByteArray) (v:Value):∀l:List (ByteArray×Value),(∀p∈l,aX s p.1=false)→kW (.string s) v (smap l)=some (smap (l++[(s,v)]))
 |[],_=>rfl
 |p::l,h=>by
  have ih:=Gt s v l fun q a=>h q (by simp [a])
  unfold smap at ih⊢;simp only [List.map_cons,kW,gX,List.cons_append];change (match some (aX s p.1)with|some true=>_|some false=>_|none=>_)=_;rw [h p (by simp)];simp [ih]
theorem eQ {kk m:Nat} {z k v:Value} {H:AH} {es:List (Value×Value)} (b:H.get m=some (.map es)) (d:H.n0≤m) (a:cj kk k=true) (c:fG k es=some (some v)):ic kk z H (.map (some m)) k false=some v:=by
 simp [ic,b,d,a,c]
theorem Bt {kk m:Nat} {z k:Value} {H:AH} {es:List (Value×Value)} (b:H.get m=some (.map es)) (d:H.n0≤m) (a:cj kk k=true) (c:fG k es=some none):ic kk z H (.map (some m)) k false=some z:=by
 simp [ic,b,d,a,c]
theorem gj {kk m:Nat} {k v:Value} {H:AH} {es es':List (Value×Value)} (b:H.get m=some (.map es)) (h:H.n0≤m) (g:cj kk k=true) (e:cw v=false) (d:kW k v es=some es'):
 ∃a,qH kk H (.map (some m)) k v=some a∧Mod (fun x=>x=m) H a∧a.nx=H.nx∧a.n0=H.n0∧a.get m=some (.map es'):=by
 have c:=AH.aQ b;refine ⟨H.put m (some (.map es')),by simp [qH,b,h,g,e,d],⟨rfl,aqY _,fun x i f=>?_⟩,rfl,rfl,?_⟩
 ·rw [AH.bA _ _ _ _ c,if_neg f]
 ·rw [AH.bA _ _ _ _ c,if_pos rfl]
def kj (l:List Vr):List (ByteArray×Value):=l.map fun v=>(v.name,.bool true)
theorem xv (l:List Vr) (s:ByteArray):((kj l).find? fun p=>aX s p.1).map (·.2)=if l.any (fun v=>aX v.name s)=true then some (.bool true)else none:=by
 induction l with
 |nil=>rfl
 |cons v l ih=>
  simp only [kj,List.map_cons,List.find?_cons,List.any_cons]
  have e:aX s v.name=aX v.name s:=by
   rw [art,eh,eh];exact eq_comm
  rcases Bool.eq_false_or_eq_true (aX v.name s)with q|q
  ·rw [q]at e
   simp [e,q]
  ·rw [q]at e
   simp only [e,q,Bool.false_or]
   simpa [kj]using ih
theorem xw {l:List Vr} {i:Nat} {y:Vr} (d:l[i]?=some y):((l.take i).any fun v=>aX v.name y.name)= !decide (hZ l y.name=i):=by
 have hi:=(aq0.1 d).1
 cases q:(l.take i).any fun v=>aX v.name y.name with
 |false=>
  have:hZ l y.name=i:=rY d (by rw [eh]) fun j z c b=>by
   rw [List.any_eq_false]at q;have:=q z (aqZ (i:=j) (by rw [arw,if_pos c];exact b))
   simpa using this
  simp [this]
 |true=>
  rw [List.any_eq_true]at q;obtain ⟨z,b,g⟩:=q;obtain ⟨j,c,e⟩:=List.mem_iff_getElem.1 b
  have:¬ hZ l y.name=i:=by
   intro f;unfold hZ at f;split at f
   ·rename_i k a
    rw [List.findIdx?_eq_some_iff_getElem]at a;obtain ⟨_,_,a⟩:=a;have h:j<i:=by simp at c;omega
    have:=a j (by omega);rw [List.getElem_take]at e;rw [e,g]at this;simp at this
   ·omega
  simp [this]
def Du (l:List Vr) (i:Nat):Bool:=match l[i]? with|some v=>dX l i v|none=>true
theorem fN (w:Int) (l:List Vr):aA w l=(bl w&&(decide (1≤l.length)&&(decide (l.length≤18)&&((List.range l.length).all (Du l)&&decide (df (l.map (·.cells))≤48))))):=rfl
theorem pE {l:List Vr} {i:Nat} {y:Vr} (h:l[i]?=some y):Du l i=dX l i y:=by unfold Du;rw [h]
set_option maxHeartbeats 1000000 in
theorem Bu {v:Value} {l:List Vr} {H:AH} (hw:H.n0≤H.nx) (hv:de H v l) (qg:nj l) (w:Int):Ca E O 96 [.int .i64 w,v] H (fun x H'=>x= .int .i64 (if aA w l=true then 0 else 1)∧Ext H H'):=by
 refine Ca.aV (F:=Zf) rfl rfl rfl ?_;obtain ⟨a,c,fW⟩:=hv.len;have jF:=qg.1;have X0:=Ext.alloc H (.map []);have g0:=cg H (.map []);generalize Bk:H.alloc (.map [])=H0 at X0 g0;simp (maxSteps:=9^7)-implicitDefEqProofs+contextual [-X.ev,Zf,fW,Bk]
 have z1:aA w l=true→1≤w∧w≤8∧1≤l.length∧l.length≤18:=by
  intro h;simp [aA,bl]at h;omega
 have N:¬ (1≤w∧w≤8∧1≤l.length∧l.length≤18)→aA w l=false:=fun q=>by
  rw [arA];exact fun h=>q (z1 h)
 refine zL (fun q=>?_) (fun q1=>zL (fun q=>?_) (fun q2=>zL (fun q=>?_) (fun q3=>zL (fun q=>?_) (fun q4=>?_))))
 ·exact ⟨N (by omega),Ext.refl _⟩
 ·exact ⟨N (by omega),Ext.refl _⟩
 ·exact ⟨N (by omega),Ext.refl _⟩
 ·exact ⟨N (by omega),Ext.refl _⟩
 refine ch (fun k D g=>Ext H g∧g.get H.nx=some (.map (smap (kj (l.take (l.length- k)))))∧k≤l.length∧∃i:Nat,i+k=l.length∧D.get 26=v∧D.get 27= .int .i64 l.length∧D.get 28= .int .i64 i∧D.get 5= .map (some H.nx)∧D.get 6= .int .i64 (df ((l.take i).map (·.cells)))∧∀j y,j<i→l[j]?=some y→dX l j y=true) ?_ l.length ⟨X0,by simpa [kj,smap]using g0,aqY _,0,by simp,by simp [fW],by simp,by simp,by simp,by simp [df],fun j y Z=>by omega⟩;rintro k D g ⟨L,gm,hk,i,hi,f26,f27,f28,r,m,aH⟩;rw [show l.length- k=i by omega]at gm;have lj:=L.wf hw;have kT:g.n0≤H.nx:=by rw [L.n0];exact hw
 have S:∀y,l[i]?=some y→dX l i y=false→aA w l=false:=by
  intro y f hn
  have:((List.range l.length).all (Du l))=false:=by
   rw [List.all_eq_false];refine ⟨i,?_,?_⟩
   ·have:=(aq0.1 f).1;simpa using this
   ·rw [pE f];simp [hn]
  simp only [fN,this,Bool.false_and,Bool.and_false]
 by_cases h:i<l.length
 ·obtain ⟨y,f⟩:∃y,l[i]?=some y:=⟨_,aqU h⟩
  obtain ⟨b,o,c',cD,bC,_⟩:=(hv.ext L).at f;have qf:=qg.2 y (aqZ f);have amd:=f26;rw [cD]at f26;obtain ⟨A,ZP,X2,aeu,VC,d,P⟩:=dQ (H:=g) lj (z:=3) (c:=[.string ⟨#[]⟩,.int .i64 0,.int .i64 0]) (vs:=[.string y.name,.int .i64 y.level,.int .i64 y.cells]) rfl;have t:A.ld ⟨g.nx,0,none⟩=some (.string y.name):=P 0 _ rfl;have G:A.ld ⟨g.nx,1,none⟩=some (.int .i64 y.level):=P 1 _ rfl;have s:A.ld ⟨g.nx,2,none⟩=some (.int .i64 y.cells):=P 2 _ rfl;clear P;replace d:A.ldn ⟨g.nx,0,none⟩ 3=some [.string y.name,.int .i64 y.level,.int .i64 y.cells]:=d;have iP:=X2.wf lj;have VD:=X2.get gm;have h0:A.n0≤H.nx:=by rw [VC];exact kT
  have key:aA w l=true→dX l i y=true:=fun hh=>by
   cases e:dX l i y with
   |true=>rfl
   |false=>rw [S y f e]at hh;cases hh
  have C:ic 1 (.bool false) A (.map (some H.nx)) (.string y.name) false=some (.bool (!decide (hZ l y.name=i))):=by
   have hf:=Bs y.name (kj (l.take i));rw [xv,xw f]at hf;by_cases e:hZ l y.name=i
   ·rw [Bt VD h0 rfl (by simpa [e]using hf)];simp [e]
   ·rw [eQ VD h0 rfl (by simpa [e]using hf)];simp [e]
  simp (maxSteps:=9^7)-implicitDefEqProofs+contextual [-X.ev,f26,f27,f28,r,m,h,bC,Vr.row,ZP,t];apply ah
  ·(simp-implicitDefEqProofs [-X.ev];rfl)
  refine (Dt y.name qf A).mono ?_;rintro x H3 ⟨rfl,rfl⟩;have u:=L.trans X2
  cases n1:isName y.name with
  |false=>
   simp (maxSteps:=9^7)-implicitDefEqProofs+contextual [-X.ev,f26,f27,f28,r,m];rw [S y f (by simp [dX,n1])];exact ⟨rfl,u⟩
  |true=>
   by_cases Q:dX l i y=true
   ·obtain ⟨_,m1,m2,m3,m4,m5⟩:isName y.name=true∧0≤y.level∧y.level≤47∧1≤y.cells∧y.cells≤8∧hZ l y.name=i:=by simpa [dX]using Q
    have W:¬ y.level<0:=by omega
    have V:¬ 47<y.level:=by omega
    have U:¬ y.cells<1:=by omega
    have T:¬ 8<y.cells:=by omega
    obtain ⟨H4,sm,X4,yW,nm,gm4⟩:=gj (v:=.bool true) VD h0 (kk:=1) (k:=.string y.name) rfl rfl (Gt y.name (.bool true) (kj (l.take i)) (by
     have:=xw f;simp only [m5,decide_true,Bool.not_true]at this;rw [List.any_eq_false]at this;intro p hp;unfold kj at hp;obtain ⟨z,J,rfl⟩:=aru.1 hp;have:=this z J
     have e:aX y.name z.name=aX z.name y.name:=by
      rw [art,eh,eh];exact eq_comm
     simpa [e]using this))
    have fm:¬ g.nx=H.nx:=by have:=AH.aQ gm;omega
    have Dv:=X4.ld (a:=⟨g.nx,2,none⟩) fm s;simp (maxSteps:=9^7)-implicitDefEqProofs+contextual [-X.ev,f26,f27,f28,r,m,t,G,s,C,m5,W,V,U,T,sm,Dv];have EG:-9223372036854775808≤(i:Int)+1∧(i:Int)+1≤9223372036854775807:=by omega
    rw [ai (n:=(i:Int)+1) EG];refine ⟨k- 1,by omega,u.mod X4 (by rintro x rfl;exact aqY _),?_,by omega,i+1,by omega,cD.symm,by simp,?_,?_⟩
    ·rw [gm4,show l.length- (k- 1)=i+1 by omega,arf,f]
     simp [kj]
    ·rw [arf]
     simp [df,arq,f,List.foldl_append]
    ·intro j z Z J
     by_cases e:j=i
     ·subst e;rw [f]at J;cases J;exact Q
     ·exact aH j z (by omega) J
   ·have Qr:dX l i y=false:=by simpa using Q
    have K:=S y f Qr
    have Y:¬ (hZ l y.name=i∧¬ y.level<0∧¬ 47<y.level∧¬ y.cells<1∧¬ 8<y.cells):=by
     rintro ⟨a1,a2,a3,a4,a5⟩;apply Q;simp [dX,n1,a1];omega
    by_cases B:hZ l y.name=i
    case neg=>
     simp (maxSteps:=9^7)-implicitDefEqProofs+contextual [-X.ev,f26,f27,f28,r,m,t,G,s,C,B,K,u]
    by_cases I:y.level<0
    case pos=>
     simp (maxSteps:=9^7)-implicitDefEqProofs+contextual [-X.ev,f26,f27,f28,r,m,t,G,s,C,B,I,K,u]
    by_cases M:47<y.level
    case pos=>
     simp (maxSteps:=9^7)-implicitDefEqProofs+contextual [-X.ev,f26,f27,f28,r,m,t,G,s,C,B,I,M,K,u]
    by_cases R:y.cells<1
    case pos=>
     simp (maxSteps:=9^7)-implicitDefEqProofs+contextual [-X.ev,f26,f27,f28,r,m,t,G,s,C,B,I,M,R,K,u]
    have p5:8<y.cells:=by
     rcases Int.lt_or_le 8 y.cells with e|e
     ·exact e
     ·exact absurd ⟨B,I,M,R,by omega⟩ Y
    simp (maxSteps:=9^7)-implicitDefEqProofs+contextual [-X.ev,f26,f27,f28,r,m,t,G,s,C,B,I,M,R,p5,K,u]
 ·have hl:i=l.length:=by omega
  have hc:aA w l=decide (df (l.map (·.cells))≤48):=by
   have a1:bl w=true:=by simp [bl];omega
   have a2:((List.range l.length).all (Du l))=true:=by
    rw [ara];intro j Z
    cases e:l[j]? with
    |none=>unfold Du;rw [e]
    |some y=>rw [pE e];exact aH j y (by simp at Z;omega) e
   have a3:1≤l.length:=by omega
   have a4:l.length≤18:=by omega
   simp only [fN,a1,a2,a3,a4,decide_true,Bool.true_and]
  rw [hl,List.take_length]at m;simp (maxSteps:=9^7)-implicitDefEqProofs+contextual [-X.ev,f26,f27,f28,r,m,h,L,hc]
end
section
open Go
theorem gK {l:List bV} {i:Nat} {y:bV} (h:l[i]?=some y):aq (l.take (i+1))=aq (l.take i)+av y:=by
 induction l generalizing i with
 |nil=>simp at h
 |cons x l ih=>
  cases i with
  |zero=>simp at h;subst h;simp [aq]
  |succ i=>simp only [List.take_succ_cons,aq];rw [ih (by simpa using h)];omega
theorem bY (l:List bV) (i:Nat):0≤aq (l.take i)∧aq (l.take i)≤aq l:=by
 induction l generalizing i with
 |nil=>simp [aq]
 |cons x l ih=>
  have a:=dR x;have h2:=a6 l
  cases i with
  |zero=>simp only [List.take_zero,aq];omega
  |succ i=>simp only [List.take_succ_cons,aq];have:=ih i;omega
theorem fU.row {H:AH} {v:Value} {rows:List (List Value)} {l:List bV} (d:Rows H 4 v rows) (f:fU H rows l) {i:Nat} {y:bV} (k:l[i]?=some y):
 ∃b o c va r,v= .slice (some ⟨b,o,none⟩) l.length c∧H.ldn ⟨b,o+i*4,none⟩ 4=some [.int .i64 y.op,.int .i64 y.n,.int .i64 y.cp,va]∧r=[.int .i64 y.op,.int .i64 y.n,.int .i64 y.cp,va]∧oh H r y:=by
 obtain ⟨r,m,s⟩:=f.at k;obtain ⟨b,o,t,e,q⟩:=d.at m;rw [f.length]at e
 cases s with| @mk op n u va rows args j h g a d p=>
 exact ⟨b,o,t,va,_,e,q,rfl,.mk j h g a d p⟩
theorem tY:∀(N:Nat) (e:bV) (c:List Value) (H:AH),SizeOf.sizeOf e<N→H.n0≤H.nx→oh H c e→av e<2^60→
 Ca E O 132 [.agg c.toArray] H (fun x H'=>x= .int .i64 (av e)∧Ext H H'):=by
 intro N
 induction N with
 |zero=>intro e c H h;omega
 |succ N ih=>
  intro e c H hN a V S
  cases V with| @mk op n cp v rows args i1 i2 i3 J I K=>
  refine Ca.aV (F:=Kj) rfl rfl rfl ?_;have C:=Ext.alloc H (.cells 4 [.int .i64 op,.int .i64 n,.int .i64 cp,v]);have d0:(H.alloc (.cells 4 [.int .i64 op,.int .i64 n,.int .i64 cp,v])).ld ⟨H.nx,0,none⟩=some (.int .i64 op):=aj a rfl;have d1:(H.alloc (.cells 4 [.int .i64 op,.int .i64 n,.int .i64 cp,v])).ld ⟨H.nx,1,none⟩=some (.int .i64 n):=aj a rfl;have Z:(H.alloc (.cells 4 [.int .i64 op,.int .i64 n,.int .i64 cp,v])).ld ⟨H.nx,2,none⟩=some (.int .i64 cp):=aj a rfl;have L:(H.alloc (.cells 4 [.int .i64 op,.int .i64 n,.int .i64 cp,v])).ld ⟨H.nx,3,none⟩=some v:=aj a rfl;have d:(H.alloc (.cells 4 [.int .i64 op,.int .i64 n,.int .i64 cp,v])).ldn ⟨H.nx,0,none⟩ 4=some [.int .i64 op,.int .i64 n,.int .i64 cp,v]:=a7 a 4 rfl;generalize W:H.alloc (.cells 4 [.int .i64 op,.int .i64 n,.int .i64 cp,v])=H1 at C d0 d1 Z L d;have bo:=C.wf a;rw [av]at S;obtain ⟨a0,c0,t⟩:=I.len;rw [K.length]at t;have P:=L;rw [t]at P;simp (maxSteps:=9^7)-implicitDefEqProofs+contextual [-X.ev,Kj,W,P];refine ch (fun k l H'=>Ext H1 H'∧∃i:Nat,i+k=args.length∧l.get 7=v∧l.get 8= .int .i64 args.length∧l.get 9= .int .i64 i∧l.get 3= .int .i64 (1+aq (args.take i))) ?_ args.length ⟨Ext.refl _,0,by simp,by simp [t],by simp,by simp,by simp [aq]⟩;rintro k l g ⟨M,i,hi,m,w,u,A⟩;have p:=C.trans M;have D:=p.wf a;by_cases h:i<args.length
  ·obtain ⟨y,s⟩:∃y,args[i]?=some y:=⟨_,aqU h⟩
   obtain ⟨b,o,c',va,r,G,T,rfl,U⟩:=fU.row (I.ext p) (K.ext p) s;have Y:=m;rw [G]at m;obtain ⟨f,Q,B,Gu,Gv,q,j⟩:=dQ (H:=g) D (z:=4) (c:=[.int .i64 0,.int .i64 0,.int .i64 0,.slice none 0 0]) (vs:=[.int .i64 y.op,.int .i64 y.n,.int .i64 y.cp,va]) rfl;have q0:f.ld ⟨g.nx,0,none⟩=some (.int .i64 y.op):=j 0 _ rfl;have q1:f.ld ⟨g.nx,1,none⟩=some (.int .i64 y.n):=j 1 _ rfl;have q2:f.ld ⟨g.nx,2,none⟩=some (.int .i64 y.cp):=j 2 _ rfl;have q3:f.ld ⟨g.nx,3,none⟩=some va:=j 3 _ rfl;clear j;replace q:f.ldn ⟨g.nx,0,none⟩ 4=some [.int .i64 y.op,.int .i64 y.n,.int .i64 y.cp,va]:=q;have R:=B.wf D;have t1:=gK s;have t2:=bY args (i+1);have t3:=bY args i;have t4:=dR y;have hs:=jP (op:=op) (n:=n) (cp:=cp) s;simp (maxSteps:=9^7)-implicitDefEqProofs+contextual [-X.ev,m,w,u,A,h,T,Q,q];apply ah
   ·(simp-implicitDefEqProofs [-X.ev];rfl)
   refine (ih y _ f (by omega) R (U.ext B) (by omega)).mono ?_;rintro x H4 ⟨rfl,X4⟩;simp (maxSteps:=9^7)-implicitDefEqProofs+contextual [-X.ev,m,w,u,A];rw [ai (n:=(i:Int)+1) ⟨by omega,by omega⟩,ai ⟨by omega,by omega⟩];exact ⟨k- 1,by omega,M.trans (B.trans X4),i+1,by omega,G.symm,by simp,by omega⟩
  ·simp (maxSteps:=9^7)-implicitDefEqProofs+contextual [-X.ev,m,w,u,A,h]
   rw [aq1 (by omega)];exact ⟨by rw [av],p⟩
def lr (V:List Vr) (op n:Int):Int:=
 if op=0 then 0 else if op=1∧0≤n∧n<V.length then(if 1<al V n then 1 else 0)else
 if(2≤op∧op≤11)∨op=13∨op=14 then 2 else if op=12 then 1 else if op=15 then 3 else-1
theorem Gw {w kk op n cp:Int} {vv va:Value} {V:List Vr} {H:AH} (g:H.n0≤H.nx) (t:de H vv V):
 Ca E O 174 [.agg #[.int .i64 w,vv,.int .i64 kk],.agg #[.int .i64 op,.int .i64 n,.int .i64 cp,va]] H (fun x H'=>x= .int .i64 (lr V op n)∧Ext H H'):=by
 refine Ca.aV (F:=Dk) rfl rfl rfl ?_;have r:=Ext.alloc H (.cells 3 [.int .i64 w,vv,.int .i64 kk]);have G:(H.alloc (.cells 3 [.int .i64 w,vv,.int .i64 kk])).ld ⟨H.nx,0,none⟩=some (.int .i64 w):=aj g rfl;have c:(H.alloc (.cells 3 [.int .i64 w,vv,.int .i64 kk])).ld ⟨H.nx,1,none⟩=some vv:=aj g rfl;have D:(H.alloc (.cells 3 [.int .i64 w,vv,.int .i64 kk])).ld ⟨H.nx,2,none⟩=some (.int .i64 kk):=aj g rfl;have d:(H.alloc (.cells 3 [.int .i64 w,vv,.int .i64 kk])).ldn ⟨H.nx,0,none⟩ 3=some [.int .i64 w,vv,.int .i64 kk]:=a7 g 3 rfl;generalize p:H.alloc (.cells 3 [.int .i64 w,vv,.int .i64 kk])=a at r G c D d;have f:=r.wf g;have l:=Ext.alloc a (.cells 4 [.int .i64 op,.int .i64 n,.int .i64 cp,va]);have k:(a.alloc (.cells 4 [.int .i64 op,.int .i64 n,.int .i64 cp,va])).ld ⟨a.nx,0,none⟩=some (.int .i64 op):=aj f rfl;have j:(a.alloc (.cells 4 [.int .i64 op,.int .i64 n,.int .i64 cp,va])).ld ⟨a.nx,1,none⟩=some (.int .i64 n):=aj f rfl;have C:(a.alloc (.cells 4 [.int .i64 op,.int .i64 n,.int .i64 cp,va])).ld ⟨a.nx,2,none⟩=some (.int .i64 cp):=aj f rfl;have B:(a.alloc (.cells 4 [.int .i64 op,.int .i64 n,.int .i64 cp,va])).ld ⟨a.nx,3,none⟩=some va:=aj f rfl;have e:(a.alloc (.cells 4 [.int .i64 op,.int .i64 n,.int .i64 cp,va])).ldn ⟨a.nx,0,none⟩ 4=some [.int .i64 op,.int .i64 n,.int .i64 cp,va]:=a7 f 4 rfl;generalize m:a.alloc (.cells 4 [.int .i64 op,.int .i64 n,.int .i64 cp,va])=M at l k j C B e;have I:=l.wf f;have X:=r.trans l;replace c:=l.ld c;by_cases h:0≤n∧n<V.length
 ·obtain ⟨h,h2⟩:=h
  obtain ⟨y,s⟩:∃y,V[n.toNat]?=some y:=⟨_,aqU (by omega)⟩
  obtain ⟨b,o,K,v,_,_,_,z⟩:=(t.ext X).at s;have i:al V n=y.cells:=by simp [al,s]
  rw [v]at c;simp (maxSteps:=9^7)-implicitDefEqProofs+contextual [-X.ev,Dk,p,m,c,k,j,h,h2,z,X,i,lr]
 ·have i:lr V op n=if op=0 then 0 else if(2≤op∧op≤11)∨op=13∨op=14 then 2 else if op=12 then 1 else if op=15 then 3 else-1:=by
   unfold lr;simp only [h,and_false,if_false]
  obtain ⟨L,J,u⟩:=t.len;rw [u]at c;by_cases h2:0≤n
  ·have A:¬ n<V.length:=fun q=>h ⟨h2,q⟩
   simp (maxSteps:=9^7)-implicitDefEqProofs+contextual [-X.ev,Dk,p,m,c,k,j,h2,A,X,i]
  ·simp (maxSteps:=9^7)-implicitDefEqProofs+contextual [-X.ev,Dk,p,m,c,k,j,h2,X,i]
open Go
def tZ (w k:Int) (op n cp:Int):Bool:=
 if op=0 then !decide (n<0)&&(!decide (2^w.toNat≤n)&&decide (cp=0))else if op=1 then !decide (cp<0)&& !decide (k≤cp)else decide (n=0)&&decide (cp=0)
theorem u7 {w k:Int} (p:1≤w∧w≤8) (V:List Vr) (op n cp:Int) (g:Nat):eX w V k op n cp g=(decide (lr V op n=g)&&tZ w k op n cp):=by
 have o:bl w=true:=by simp [bl,p]
 unfold eX tZ lr;by_cases f:op=0
 ·subst f
  simp only [isWord,o,Bool.true_and];have:iN 0=0:=rfl;rw [art];simp [this];omega
 by_cases d:op=1
 ·subst d
  have m:¬ ((1:Int)=0):=by omega
  have l:¬ ((2≤(1:Int)∧(1:Int)≤11)∨(1:Int)=13∨(1:Int)=14):=by omega
  have j:¬ ((1:Int)=12):=by omega
  have i:¬ ((1:Int)=15):=by omega
  simp only [if_true,if_neg m,if_neg l,if_neg j,if_neg i,true_and];rw [art];generalize (if 1<al V n then(1:Int)else 0)=z;by_cases h2:0≤n∧n<V.length
  ·rw [if_pos h2]
   simp only [aqX,Bool.not_eq_true',Bool.or_eq_false_iff,decide_eq_false_iff_not,aq6];omega
  ·rw [if_neg h2]
   simp only [aqX,Bool.not_eq_true',Bool.or_eq_false_iff,decide_eq_false_iff_not,aq6];omega
 ·simp only [if_neg f,if_neg d,false_and,if_false]
  have e:iN op=if(2≤op∧op≤11)∨op=13∨op=14 then 2 else if op=12 then 1 else if op=15 then 3 else-1:=by
   unfold iN qp;rw [if_neg f];by_cases a:op=12
   ·subst a;simp
   by_cases b:op=15
   ·subst b;simp
   rw [if_neg a,if_neg b,if_neg a,if_neg b];by_cases c:(2≤op∧op≤11)∨op=13∨op=14
   ·rw [if_pos c,if_pos (by simpa using c)]
   ·rw [if_neg c,if_neg (by simpa using c)]
  rw [e,if_neg (show¬ (op=1∧0≤n∧n<V.length) from fun h=>d h.1)];generalize (if(2≤op∧op≤11)∨op=13∨op=14 then(2:Int)else if op=12 then 1 else if op=15 then 3 else-1)=z;rw [art];simp;constructor
  ·rintro ⟨⟨a,b⟩,c⟩;exact ⟨b.symm,c,a⟩
  ·rintro ⟨a,b,c⟩;exact ⟨⟨c,a.symm⟩,b⟩
def gk (w:Int) (V:List Vr) (k:Int) (e:bV) (deep left:Int):Bool:=decide (av e≤left)&&(decide (deep+cB e≤17)&&cY w V k e)
theorem xz {w:Int} (a:1≤w∧w≤8):bX .shl (.int .i64 1) (.int .u64 (IntKind.u64.wrap w))=some (.int .i64 (2^w.toNat)):=by
 obtain ⟨b,h2⟩:=a
 obtain ⟨n,rfl⟩:∃n:Nat,w=n:=⟨w.toNat,by omega⟩
 have:n=1∨n=2∨n=3∨n=4∨n=5∨n=6∨n=7∨n=8:=by omega
 rcases this with rfl|rfl|rfl|rfl|rfl|rfl|rfl|rfl<;>rfl
theorem si:∀{l:List bV} {k:Int} {y:bV},y∈l→cB y≤cR l k
 |x::l,k,y,h=>by
  rw [cR];rcases arc.1 h with rfl|h
  ·have:∀(l:List bV) (k:Int),k≤cR l k:=by
    intro l
    induction l with
    |nil=>intro k;rw [cR];omega
    |cons z l ih=>intro k;rw [cR];have:=ih (max k (cB z));omega
   have:=this l (max k (cB y));omega
  ·exact si h
theorem Dw {l:List bV} {k m:Int} (b:k≤m) (h:∀y∈l,cB y≤m):cR l k≤m:=by
 induction l generalizing k with
 |nil=>rw [cR];exact b
 |cons x l ih=>
  rw [cR];have:=h x (by simp);exact ih (by omega) fun y a=>h y (by simp [a])
set_option maxHeartbeats 2000000 in
theorem Lc {w k:Int} (fD:1≤w∧w≤8) {vv:Value} {V:List Vr}:∀(N:Nat) (e:bV) (c:List Value) (G H:AH) (deep left:Int) (b:Nat),SizeOf.sizeOf e<N→H.n0≤H.nx→Ext G H→G.nx≤b→de G vv V→oh G c e→
 H.get b=some (.cells 1 [.int .i64 left])→H.n0≤b→0≤left∧left≤1000→1≤deep∧deep≤17→
 Ca E O 166 [.agg #[.int .i64 w,vv,.int .i64 k],.agg c.toArray,.int .i64 deep,.pointer (some ⟨b,0,none⟩)] H (fun x H'=>x= .bool (gk w V k e deep left)∧Mod (fun x=>x=b) H H'∧∃s,H'.get b=some (.cells 1 [.int .i64 s])∧(gk w V k e deep left=true→s=left- av e)):=by
 intro N
 induction N with
 |zero=>intro e c G H deep left b h;omega
 |succ N ih=>
  intro e c G H deep left b hN Z GX gb hv he hb xA aiL VE;have hbH:=AH.aQ hb
  cases he with| @mk op n cp va rows args i1 i2 i3 hlen hr hl=>
  refine Ca.VB 4 (F:=w9) rfl rfl rfl rfl ?_
  obtain ⟨rest,cF⟩:∃r,se 4 w9.body=r:=⟨_,rfl⟩
  rw [cF];have X1:=Ext.alloc H (.cells 3 [.int .i64 w,vv,.int .i64 k]);have S:(H.alloc (.cells 3 [.int .i64 w,vv,.int .i64 k])).ld ⟨H.nx,0,none⟩=some (.int .i64 w):=aj Z rfl;have d1:(H.alloc (.cells 3 [.int .i64 w,vv,.int .i64 k])).ld ⟨H.nx,1,none⟩=some vv:=aj Z rfl;have R:(H.alloc (.cells 3 [.int .i64 w,vv,.int .i64 k])).ld ⟨H.nx,2,none⟩=some (.int .i64 k):=aj Z rfl;have d:(H.alloc (.cells 3 [.int .i64 w,vv,.int .i64 k])).ldn ⟨H.nx,0,none⟩ 3=some [.int .i64 w,vv,.int .i64 k]:=a7 Z 3 rfl;generalize cz:H.alloc (.cells 3 [.int .i64 w,vv,.int .i64 k])=f at X1 S d1 R d;have P:=X1.wf Z;have K:=Ext.alloc f (.cells 4 [.int .i64 op,.int .i64 n,.int .i64 cp,va]);have e0:(f.alloc (.cells 4 [.int .i64 op,.int .i64 n,.int .i64 cp,va])).ld ⟨f.nx,0,none⟩=some (.int .i64 op):=aj P rfl;have e1:(f.alloc (.cells 4 [.int .i64 op,.int .i64 n,.int .i64 cp,va])).ld ⟨f.nx,1,none⟩=some (.int .i64 n):=aj P rfl;have e2:(f.alloc (.cells 4 [.int .i64 op,.int .i64 n,.int .i64 cp,va])).ld ⟨f.nx,2,none⟩=some (.int .i64 cp):=aj P rfl;have e3:(f.alloc (.cells 4 [.int .i64 op,.int .i64 n,.int .i64 cp,va])).ld ⟨f.nx,3,none⟩=some va:=aj P rfl;have e:(f.alloc (.cells 4 [.int .i64 op,.int .i64 n,.int .i64 cp,va])).ldn ⟨f.nx,0,none⟩ 4=some [.int .i64 op,.int .i64 n,.int .i64 cp,va]:=a7 P 4 rfl;generalize kl:f.alloc (.cells 4 [.int .i64 op,.int .i64 n,.int .i64 cp,va])=H2 at K e0 e1 e2 e3 e;have iP:=K.wf P;replace S:=K.ld S;replace d1:=K.ld d1;replace R:=K.ld R;replace d:=K.ldn d;have X:=X1.trans K;have NW:=X.get hb;have gT:H2.n0≤b:=by rw [X.n0];exact xA
  have u:=aG NW gT (k:=0) rfl;obtain ⟨H3,s3,o,qZ,l7,Q⟩:=bH NW gT (k:=0) (vs:=[.int .i64 (left- 1)]) (by simp);have tm:H3.n0≤b:=by rw [l7];exact gT
  have Q:H3.get b=some (.cells 1 [.int .i64 (left- 1)]):=Q;have t:=aG Q tm (k:=0) rfl;have zP:¬ H.nx=b:=by omega
  have W:¬ f.nx=b:=by have:=X1.nx;omega
  have D0:=o.ld (a:=⟨H.nx,0,none⟩) zP S;have D2:=o.ld (a:=⟨H.nx,2,none⟩) zP R;have D:=o.ldn (a:=⟨H.nx,0,none⟩) zP d;have E0:=o.ld (a:=⟨f.nx,0,none⟩) W e0;have E1:=o.ld (a:=⟨f.nx,1,none⟩) W e1;have E2:=o.ld (a:=⟨f.nx,2,none⟩) W e2;have E3:=o.ld (a:=⟨f.nx,3,none⟩) W e3;have EE:=o.ldn (a:=⟨f.nx,0,none⟩) W e;have pj:=o.wf iP;have MX:Mod (fun x=>x=b) H H3:=(Mod.bN X).trans o;have GX3:Ext G H3:=GX.mod MX (by rintro x rfl;exact gb);have hnE:=a6 args;have hdE:=om (.mk op n cp args);obtain ⟨a3,c3,fW⟩:=hr.len;rw [hl.length]at fW;have FE:=E3;rw [fW]at FE;have wl:IntKind.i64.wrap (left- 1)=left- 1:=ai ⟨by omega,by omega⟩
  have no:∀q:¬ (1≤left∧deep≤16∧eX w V k op n cp args.length=true),gk w V k (.mk op n cp args) deep left=false:=by
   intro q;rw [arA];intro h;have:av (.mk op n cp args)≤left∧deep+cB (.mk op n cp args)≤17∧cY w V k (.mk op n cp args)=true:=by simpa [gk]using h
   rw [av,cY,aqX]at this;exact q ⟨by omega,by omega,this.2.2.1⟩
  rw [u7 fD]at no
  obtain ⟨F,B⟩:∃F,gk w V k (.mk op n cp args) deep left=F:=⟨_,rfl⟩
  rw [B]at no⊢
  obtain ⟨NE,hNE⟩:∃F,av (.mk op n cp args)=F:=⟨_,rfl⟩
  rw [hNE];by_cases q1:left- 1<0
  ·have p:=no (by omega)
   simp (maxSteps:=9^7)-implicitDefEqProofs+contextual [-X.ev,w9,cz,kl,u,wl,s3,t,q1,bh,aL,aM,p,MX];exact ⟨_,Q⟩
  by_cases q2:16<deep
  ·have p:=no (by omega)
   simp (maxSteps:=9^7)-implicitDefEqProofs+contextual [-X.ev,w9,cz,kl,u,wl,s3,t,q1,q2,bh,aL,aM,p,MX];exact ⟨_,Q⟩
  simp (maxSteps:=9^7)-implicitDefEqProofs+contextual [-X.ev,w9,cz,kl,u,wl,s3,t,q1,q2,D,EE,FE];apply ah
  ·(simp-implicitDefEqProofs [-X.ev];rfl)
  refine (Gw pj (hv.ext GX3)).mono ?_;rintro x H4 ⟨rfl,g⟩;have L:=MX.trans (Mod.bN g);have FE4:=g.ld FE;have FEn:=bf.1 FE;have VF:=bf.1 FE4;have Qs:=g.get Q
  have ex4:∃s,H4.get b=some (.cells 1 [.int .i64 s]):=⟨_,Qs⟩
  have qq:=g.wf pj;have GX4:=GX3.trans g;have ma:H4.n0≤b:=by rw [g.n0];exact tm
  by_cases U:lr V op n=args.length
  case neg=>
   have p:=no (by simp [U]);simp (maxSteps:=9^7)-implicitDefEqProofs+contextual [-X.ev,U,bh,aL,aM,p,L,FEn,VF,g.n0,g.nx,ex4]
  have p:tZ w k op n cp=false→F=false:=fun h=>no (by simp [h])
  have e0:=g.ld E0;have e1:=g.ld E1;have e2:=g.ld E2;have S:=g.ld D0;have R:=g.ld D2;have d:=g.ldn D;have e:=g.ldn EE
  suffices VG:∀l:Fr,tZ w k op n cp=true→l.get 2= .int .i64 deep→l.get 3= .pointer (some ⟨b,0,none⟩)→l.get 4= .pointer (some ⟨H.nx,0,none⟩)→l.get 5= .pointer (some ⟨f.nx,0,none⟩)→
   Vk E O rest [] l H4 (wV [.tmp 8] fun x H'=>x= .bool F∧Mod (fun x=>x=b) H H'∧∃s,H'.get b=some (.cells 1 [.int .i64 s])∧(F=true→s=left- NE)) by
   have sh:=xz fD;simp (maxSteps:=9^7)-implicitDefEqProofs+contextual [-X.ev,U,bh,aL,aM,p,L,FEn,VF,g.n0,g.nx,ex4,tZ,VG,e0,e1,e2,S,R,sh]
  intro l q4 J I C f5;subst cF;have e3:=FE4;simp (maxSteps:=9^7)-implicitDefEqProofs+contextual [-X.ev,se,w9,J,I,C,f5,e3]
  refine ch (fun j l H'=>Mod (fun x=>x=b) H4 H'∧∃i:Nat,i+j=args.length∧l.get 2= .int .i64 deep∧l.get 3= .pointer (some ⟨b,0,none⟩)∧l.get 4= .pointer (some ⟨H.nx,0,none⟩)∧l.get 75=va∧l.get 76= .int .i64 args.length∧l.get 77= .int .i64 i∧
   H'.get b=some (.cells 1 [.int .i64 (left- 1- aq (args.take i))])∧1+aq (args.take i)≤left∧∀y∈args.take i,cB y+deep≤16∧cY w V k y=true) ?_ args.length ⟨Mod.refl _ _,0,by simp,by simp [J],by simp [I],by simp [C],by simp [fW],by simp,by simp,by simpa [aq]using Qs,by simp [aq];omega,by simp⟩
  rintro j l H5 ⟨M5,i,hi,J,I,C,f75,f76,f77,Jx,hle,aH⟩;have qt:=M5.wf qq;have NX:=L.trans M5;have VH:Ext G H5:=GX.mod NX (by rintro x rfl;exact gb);have dd:=M5.ldn (a:=⟨H.nx,0,none⟩) zP d;by_cases h:i<args.length
  ·obtain ⟨y,m⟩:∃y,args[i]?=some y:=⟨_,aqU h⟩
   obtain ⟨b2,o2,c2,va2,r,cD,bC,rfl,lW⟩:=fU.row hr hl m;replace bC:=VH.ldn bC;have aml:=f75;rw [cD]at f75;obtain ⟨M,Lf,T,Qt,Qu,q,Y⟩:=dQ (H:=H5) qt (z:=4) (c:=[.int .i64 0,.int .i64 0,.int .i64 0,.slice none 0 0]) (vs:=[.int .i64 y.op,.int .i64 y.n,.int .i64 y.cp,va2]) rfl;have q0:M.ld ⟨H5.nx,0,none⟩=some (.int .i64 y.op):=Y 0 _ rfl;have q1:M.ld ⟨H5.nx,1,none⟩=some (.int .i64 y.n):=Y 1 _ rfl;have q2:M.ld ⟨H5.nx,2,none⟩=some (.int .i64 y.cp):=Y 2 _ rfl;have U:M.ld ⟨H5.nx,3,none⟩=some va2:=Y 3 _ rfl;clear Y;replace q:M.ldn ⟨H5.nx,0,none⟩ 4=some [.int .i64 y.op,.int .i64 y.n,.int .i64 y.cp,va2]:=q;have Gx:=T.wf qt;replace dd:=T.ldn dd;have wd:IntKind.i64.wrap (deep+1)=deep+1:=ai ⟨by omega,by omega⟩;have t1:=gK m;have t2:=bY args (i+1);have t3:=bY args i;have t4:=dR y;have t5:=si (k:=0) (aqZ m);have hs:=jP (op:=op) (n:=n) (cp:=cp) m;have Gy:M.n0≤b:=by rw [T.n0,M5.n0];exact ma
   simp (maxSteps:=9^7)-implicitDefEqProofs+contextual [-X.ev,J,I,C,f75,f76,f77,h,bC,Lf,q,dd,wd];apply ah
   ·(simp-implicitDefEqProofs [-X.ev];rfl)
   refine (ih y _ G M (deep+1) (left- 1- aq (args.take i)) b (by omega) Gx (VH.trans T) gb hv lW (T.get Jx) Gy (by omega) (by omega)).mono ?_;rintro x H7 ⟨rfl,M7,s,Tn,A⟩;have M67:=(Mod.bN T).trans M7
   cases q5:gk w V k y (deep+1) (left- 1- aq (args.take i))with
   |true=>
    have A:=A q5;have q5':av y≤left- 1- aq (args.take i)∧deep+1+cB y≤17∧cY w V k y=true:=by simpa [gk]using q5
    simp (maxSteps:=9^7)-implicitDefEqProofs+contextual [-X.ev,J,I,C,f75,f76,f77,h];rw [ai (n:=(i:Int)+1) ⟨by omega,by omega⟩];refine ⟨j- 1,by omega,M5.trans M67,i+1,by omega,cD.symm,by simp,?_,by omega,fun z v=>?_⟩
    ·rw [Tn,A,t1]
     rw [show left- 1- aq (args.take i)- av y=left- 1- (aq (args.take i)+av y) by omega]
    ·rw [arf,m]at v
     rcases are.1 v with v|v
     ·exact aH z v
     ·simp at v;subst v;exact ⟨by omega,q5'.2.2⟩
   |false=>
    have ng:F=false:=by
     rw [arA];intro hT;rw [hT]at B;have B:av (.mk op n cp args)≤left∧deep+cB (.mk op n cp args)≤17∧cY w V k (.mk op n cp args)=true:=by simpa [gk]using B
     rw [av,cB,cY,aqX]at B;have:=iE.1 B.2.2.2 y (aqZ m);have:gk w V k y (deep+1) (left- 1- aq (args.take i))=true:=by simp [gk,this];omega
     rw [q5]at this;cases this
    simp (maxSteps:=9^7)-implicitDefEqProofs+contextual [-X.ev,J,I,C,f75,f76,f77,h,ng,NX.trans M67];exact ⟨_,Tn⟩
  ·have zQ:F=true:=by
    rw [←B];rw [aq1 (by omega)]at hle aH;have fh:=iE.2 fun y m=>(aH y m).2
    have ZQ:cR args 0≤16- deep:=Dw (by omega) fun y m=>by have:=(aH y m).1;omega
    have p:eX w V k op n cp args.length=true:=by rw [u7 fD,q4];simp [U]
    have:av (.mk op n cp args)≤left∧deep+cB (.mk op n cp args)≤17∧cY w V k (.mk op n cp args)=true:=by
     rw [av,cB,cY,fh,p];exact ⟨by omega,by omega,rfl⟩
    simp [gk,this]
   rw [aq1 (by omega)]at Jx;rw [av]at hNE;simp (maxSteps:=9^7)-implicitDefEqProofs+contextual [-X.ev,J,I,C,f75,f76,f77,h,zQ,NX];rw [Jx,show left- 1- aq args=left- NE by omega]
end
section
open Go
theorem aF {w:Int} {V:List Vr} (h:aA w V=true):1≤w∧w≤8∧1≤V.length∧V.length≤18:=by
 simp [aA,bl]at h;omega
theorem kJ {w:Int} {V:List Vr} (h:aA w V=true) {i:Nat} {v:Vr} (hi:V[i]?=some v):1≤v.cells∧v.cells≤8:=by
 rw [fN]at h;simp only [aqX,ara]at h;have:=h.2.2.2.1 i (by simpa using(aq0.1 hi).1);rw [pE hi]at this;exact qn this
theorem u9 (w:Int) (V:List Vr) (k:Int) (e:bV):gk w V k e 1 400=fX w V k e:=by
 unfold gk fX;rw [show decide (1+cB e≤17)=decide (cB e≤16) by rw [art];simp;omega]
def vd (w:Int) (V:List Vr) (k:Int) (e:bV):Int:=if aA w V=true then(if k<1 then 1 else if 3<k then 1 else if fX w V k e=true then 0 else 20)else 1
theorem Gz {w k:Int} {vv:Value} {V:List Vr} {e:bV} {c:List Value} {H:AH} (h:H.n0≤H.nx) (v:de H vv V) (J:nj V) (y:oh H c e):
 Ca E O 155 [.agg #[.int .i64 w,vv,.int .i64 k],.agg c.toArray] H (fun x H'=>x= .int .i64 (vd w V k e)∧Ext H H'):=by
 refine Ca.aV (F:=Kq) rfl rfl rfl ?_;have T:c.length=4:=by cases y;rfl
 have r:=Ext.alloc H (.cells 3 [.int .i64 w,vv,.int .i64 k]);have n:(H.alloc (.cells 3 [.int .i64 w,vv,.int .i64 k])).ld ⟨H.nx,0,none⟩=some (.int .i64 w):=aj h rfl;have m:(H.alloc (.cells 3 [.int .i64 w,vv,.int .i64 k])).ld ⟨H.nx,1,none⟩=some vv:=aj h rfl;have a:(H.alloc (.cells 3 [.int .i64 w,vv,.int .i64 k])).ld ⟨H.nx,2,none⟩=some (.int .i64 k):=aj h rfl;have d:(H.alloc (.cells 3 [.int .i64 w,vv,.int .i64 k])).ldn ⟨H.nx,0,none⟩ 3=some [.int .i64 w,vv,.int .i64 k]:=a7 h 3 rfl;generalize L:H.alloc (.cells 3 [.int .i64 w,vv,.int .i64 k])=o at r n m a d;have t:=r.wf h;have f:=Ext.alloc o (.cells c.length c);have q:(o.alloc (.cells c.length c)).ldn ⟨o.nx,0,none⟩ 4=some c:=a7 t 4 (by assumption);generalize K:o.alloc (.cells c.length c)=W at f q;have s:=f.wf t;replace n:=f.ld n;replace m:=f.ld m;replace a:=f.ld a;replace d:=f.ldn d;have X:=r.trans f;simp (maxSteps:=9^7)-implicitDefEqProofs+contextual [-X.ev,Kq,L,K,n,m];apply ah
 ·(simp-implicitDefEqProofs [-X.ev];rfl)
 refine (Bu s (v.ext X) J w).mono ?_;rintro x C ⟨rfl,j⟩;replace a:=j.ld a;replace d:=j.ldn d;replace q:=j.ldn q;have g:=X.trans j
 cases b:aA w V with
 |false=>
  simp (maxSteps:=9^7)-implicitDefEqProofs+contextual [-X.ev,b,vd,g]
 |true=>
  by_cases h2:k<1
  ·simp (maxSteps:=9^7)-implicitDefEqProofs+contextual [-X.ev,b,h2,a,vd,g]
  by_cases l:3<k
  ·simp (maxSteps:=9^7)-implicitDefEqProofs+contextual [-X.ev,b,h2,l,a,vd,g]
  have u:=aF b;have p:=j.wf s;obtain ⟨P,D,i,Q,G,M⟩:=iq p (z:=1) (c:=[.int .i64 0]) (vs:=[.int .i64 400]) rfl;replace d:=i.ldn d;replace q:=i.ldn q;simp (maxSteps:=9^7)-implicitDefEqProofs+contextual [-X.ev,b,h2,l,a,D,d,q];have I:=i.wf p;apply ah
  ·(simp-implicitDefEqProofs [-X.ev];rfl)
  refine (Lc ⟨u.1,u.2.1⟩ _ e c C P 1 400 C.nx (aq9 _) I i (aqY _) (v.ext g) (y.ext g) M (by rw [G];exact p) (by omega) (by omega)).mono ?_;rintro x H5 ⟨rfl,N,R,U,S⟩;have B:Ext H H5:=g.trans (i.mod N (by rintro x rfl;exact aqY _));rw [u9]
  cases A:fX w V k e with
  |true=>
   simp (maxSteps:=9^7)-implicitDefEqProofs+contextual [-X.ev,b,h2,l,A,vd,B]
  |false=>
   simp (maxSteps:=9^7)-implicitDefEqProofs+contextual [-X.ev,b,h2,l,A,vd,B]
theorem Dx {w k:Int} {d:Value} {V:List Vr} {e:bV} {c:List Value} {H:AH} (f:H.n0≤H.nx) (g:de H d V) (l:nj V) (h:oh H c e):
 Ca E O 131 [.int .i64 w,d,.int .i64 k,.agg c.toArray] H (fun x H'=>x= .int .i64 (vd w V k e)∧Ext H H'):=by
 refine Ca.aV (F:=a131) rfl rfl rfl ?_;have p:c.length=4:=by cases h;rfl
 have b:=Ext.alloc H (.cells c.length c);have q:(H.alloc (.cells c.length c)).ldn ⟨H.nx,0,none⟩ 4=some c:=a7 f 4 (by assumption);generalize n:H.alloc (.cells c.length c)=s at b q;have i:=b.wf f
 have m:eD [.int .i64 0,.slice none 0 0,.int .i64 0] [(0,1,.int .i64 w),(1,1,d),(2,1,.int .i64 k)]=some (.agg #[.int .i64 w,d,.int .i64 k]):=by
  obtain ⟨a,c,j⟩:=g.len;rw [j];rfl
 simp (maxSteps:=9^7)-implicitDefEqProofs+contextual [-X.ev,a131,n,q,m];apply ah
 ·(simp-implicitDefEqProofs [-X.ev];rfl)
 refine (Gz i (g.ext b) l (h.ext b)).mono ?_;rintro x r ⟨rfl,o⟩;simp (maxSteps:=9^7)-implicitDefEqProofs+contextual [-X.ev,b.trans o]
def mN (V:List Vr) (op n:Int):Int:=
 let z:=if 0≤n∧n<V.length then al V n else 0
 if op=0 then(if z=0 then-1 else if 1<z then 2 else 1)else if op=4 then(if z=0 then-1 else if 1<z then 1 else 0)else
 if op=3 then(if n<0 then-1 else if 47<n then-1 else 1)else
 if op=1 then(if n=0 then 1 else-1)else if op=2 then(if n=0 then 1 else-1)else if op=5 then(if n=0 then 1 else-1)else if op=6 then(if n=0 then 1 else-1)else-1
theorem GA {w op n:Int} {vv vb va vt ve:Value} {V:List Vr} {H:AH} (i:H.n0≤H.nx) (z:de H vv V):
 Ca E O 130 [.agg #[.int .i64 w,vv,vb],.agg #[.int .i64 op,.int .i64 n,va,vt,ve]] H (fun x H'=>x= .int .i64 (mN V op n)∧Ext H H'):=by
 refine Ca.aV (F:=a130) rfl rfl rfl ?_;have u:=Ext.alloc H (.cells 3 [.int .i64 w,vv,vb]);have M:(H.alloc (.cells 3 [.int .i64 w,vv,vb])).ld ⟨H.nx,0,none⟩=some (.int .i64 w):=aj i rfl;have f:(H.alloc (.cells 3 [.int .i64 w,vv,vb])).ld ⟨H.nx,1,none⟩=some vv:=aj i rfl;have L:(H.alloc (.cells 3 [.int .i64 w,vv,vb])).ld ⟨H.nx,2,none⟩=some vb:=aj i rfl;have d:(H.alloc (.cells 3 [.int .i64 w,vv,vb])).ldn ⟨H.nx,0,none⟩ 3=some [.int .i64 w,vv,vb]:=a7 i 3 rfl;generalize t:H.alloc (.cells 3 [.int .i64 w,vv,vb])=a at u M f L d;have g:=u.wf i;have l:=Ext.alloc a (.cells 5 [.int .i64 op,.int .i64 n,va,vt,ve]);have k:(a.alloc (.cells 5 [.int .i64 op,.int .i64 n,va,vt,ve])).ld ⟨a.nx,0,none⟩=some (.int .i64 op):=aj g rfl;have j:(a.alloc (.cells 5 [.int .i64 op,.int .i64 n,va,vt,ve])).ld ⟨a.nx,1,none⟩=some (.int .i64 n):=aj g rfl;have K:(a.alloc (.cells 5 [.int .i64 op,.int .i64 n,va,vt,ve])).ld ⟨a.nx,2,none⟩=some va:=aj g rfl;have J:(a.alloc (.cells 5 [.int .i64 op,.int .i64 n,va,vt,ve])).ld ⟨a.nx,3,none⟩=some vt:=aj g rfl;have I:(a.alloc (.cells 5 [.int .i64 op,.int .i64 n,va,vt,ve])).ld ⟨a.nx,4,none⟩=some ve:=aj g rfl;have e:(a.alloc (.cells 5 [.int .i64 op,.int .i64 n,va,vt,ve])).ldn ⟨a.nx,0,none⟩ 5=some [.int .i64 op,.int .i64 n,va,vt,ve]:=a7 g 5 rfl;generalize s:a.alloc (.cells 5 [.int .i64 op,.int .i64 n,va,vt,ve])=S at l k j K J I e;have N:=l.wf g;replace f:=l.ld f;have X:=u.trans l;have p:IntKind.i64.wrap 1=1:=by rfl
 have m:IntKind.i64.wrap 2=2:=by rfl
 by_cases h:0≤n∧n<V.length
 ·obtain ⟨y,v⟩:∃y,V[n.toNat]?=some y:=⟨_,aqU (by omega)⟩
  obtain ⟨b,o,Q,B,_,_,_,C⟩:=(z.ext X).at v;have D:al V n=y.cells:=by simp [al,v]
  have r:(if 0≤n∧n<V.length then al V n else 0)=y.cells:=by rw [if_pos h,D]
  obtain ⟨F,c⟩:∃F,mN V op n=F:=⟨_,rfl⟩
  rw [c];unfold mN at c;rw [r]at c;rw [B]at f;obtain ⟨h,h2⟩:=h;simp (maxSteps:=9^7)-implicitDefEqProofs+contextual [-X.ev,a130,t,s,f,k,j,h,h2,C,X,p,m,←c]
 ·have r:(if 0≤n∧n<V.length then al V n else 0)=0:=if_neg h
  obtain ⟨F,c⟩:∃F,mN V op n=F:=⟨_,rfl⟩
  rw [c];unfold mN at c;rw [r]at c;obtain ⟨R,P,A⟩:=z.len;rw [A]at f;by_cases h2:0≤n
  ·have G:¬ n<V.length:=fun q=>h ⟨h2,q⟩
   simp (maxSteps:=9^7)-implicitDefEqProofs+contextual [-X.ev,a130,t,s,f,k,j,h2,G,X,p,m,←c]
  ·simp (maxSteps:=9^7)-implicitDefEqProofs+contextual [-X.ev,a130,t,s,f,k,j,h2,X,p,m,←c]
open Go
mutual
def aY:bE→Int
 | .mk _ _ _ aB aE=>1+aC aB+aC aE
def aC:List bE→Int
 |[]=>0
 |s::ss=>aY s+aC ss
end
theorem eE {l:List bE} {i:Nat} {y:bE} (h:l[i]?=some y):au (l.take (i+1))=au (l.take i)+bg y:=by
 induction l generalizing i with
 |nil=>simp at h
 |cons x l ih=>
  cases i with
  |zero=>simp at h;subst h;simp [au]
  |succ i=>simp only [List.take_succ_cons,au];rw [ih (by simpa using h)];omega
theorem jn {l:List bE} {i:Nat} {y:bE} (h:l[i]?=some y):aC (l.take (i+1))=aC (l.take i)+aY y:=by
 induction l generalizing i with
 |nil=>simp at h
 |cons x l ih=>
  cases i with
  |zero=>simp at h;subst h;simp [aC]
  |succ i=>simp only [List.take_succ_cons,aC];rw [ih (by simpa using h)];omega
theorem cT (l:List bE):0≤au l:=(dh l).1
theorem lu:∀s:bE,1≤bg s
 | .mk op n args a b=>by
  rw [bg];have:=a6 args;have:=cT a;have:=cT b;omega
theorem bq (l:List bE) (i:Nat):0≤au (l.take i)∧au (l.take i)≤au l:=by
 induction l generalizing i with
 |nil=>simp [au]
 |cons x l ih=>
  have a:=lu x;have h2:=cT l
  cases i with
  |zero=>simp only [List.take_zero,au];omega
  |succ i=>simp only [List.take_succ_cons,au];have:=ih i;omega
theorem aP:∀l:List bE,0≤aC l∧aC l≤au l:=uZ fun l ih=>by
 induction l with
 |nil=>simp [aC,au]
 |cons s d c=>
  obtain ⟨op,n,args,a,b⟩:=s;have e:=ih op n args a b (by simp);have h2:=c fun op n args a b h=>ih op n args a b (by simp [h])
  have:=a6 args;rw [aC,aY,au,bg];omega
theorem dj (l:List bE) (i:Nat):0≤aC (l.take i)∧aC (l.take i)≤au (l.take i):=aP _
theorem km {op n:Int} {args:List bV} {a b:List bE}:∀{l:List bE} {k:Int},bE.mk op n args a b∈l→1+a8 a 0≤a8 l k∧1+a8 b 0≤a8 l k
 |x::l,k,h=>by
  rw [a8]
  have mono:∀(l:List bE) (k:Int),k≤a8 l k:=by
   intro l
   induction l with
   |nil=>intro k;rw [a8];omega
   |cons z l ih=>
    obtain ⟨op,n,args,a,b⟩:=z;intro k;rw [a8,jm];have:=ih (max (max k (1+a8 a 0)) (1+a8 b 0));omega
  rcases arc.1 h with rfl|h
  ·have:=mono l (jm (.mk op n args a b) k)
   rw [jm]at this⊢;omega
  ·exact km h
theorem Dy {l:List bE} {k m:Int} (d:k≤m) (h:∀op n args a b,bE.mk op n args a b∈l→1+a8 a 0≤m∧1+a8 b 0≤m):a8 l k≤m:=by
 induction l generalizing k with
 |nil=>rw [a8];exact d
 |cons x l ih=>
  obtain ⟨op,n,args,a,b⟩:=x;rw [a8,jm];have:=h op n args a b (by simp);exact ih (by omega) fun op n args a b c=>h op n args a b (by simp [c])
def sj (op:Int) (nt ne:Nat):Bool:=!(decide (0<nt)&&(!decide (op=1)&& !decide (op=2)))&& !(decide (0<ne)&& !decide (op=1))
theorem ua {w:Int} {V:List Vr} (r:aA w V=true) (op n:Int) (c l ne:Nat):bW V op n c l ne=(decide (mN V op n=c)&&sj op l ne):=by
 have m:∀more:Int,0≤more→ll V n c more=decide ((if(if 0≤n∧n<V.length then al V n else 0)=0 then-1 else if 1<(if 0≤n∧n<V.length then al V n else 0)then more+1 else more)=(c:Int)):=by
  intro more s;unfold ll;by_cases h:0≤n∧n<V.length
  ·obtain ⟨y,o⟩:∃y,V[n.toNat]?=some y:=⟨_,aqU (by omega)⟩
   have q:al V n=y.cells:=by simp [al,o]
   have:=kJ r o;have p:¬ y.cells=0:=by omega
   rw [if_pos h,q,if_neg p];simp only [h.1,h.2,decide_true,Bool.true_and];by_cases h2:1<y.cells
   ·rw [if_pos h2,if_pos h2];rw [art];simp;omega
   ·rw [if_neg h2,if_neg h2];rw [art];simp;omega
  ·rw [if_neg h,if_pos rfl]
   rw [art];simp;omega
 unfold bW mN sj;by_cases k:op=0
 ·subst k
  rw [m 1 (by omega)];simp only [if_true];rw [show(1:Int)+1=2 by rfl];generalize decide ((if(if 0≤n∧n<V.length then al V n else 0)=0 then(-1:Int)else if 1<(if 0≤n∧n<V.length then al V n else 0)then 2 else 1)=c)=A;rw [art];cases A<;>simp
 by_cases f:op=4
 ·subst f
  rw [m 0 (by omega)];simp only [if_true,if_neg (show¬ (4:Int)=0 by omega),if_neg (show¬ (4:Int)=1 by omega),if_neg (show¬ (4:Int)=2 by omega),if_neg (show¬ (4:Int)=3 by omega)];rw [show(0:Int)+1=1 by rfl];generalize decide ((if(if 0≤n∧n<V.length then al V n else 0)=0 then(-1:Int)else if 1<(if 0≤n∧n<V.length then al V n else 0)then 1 else 0)=c)=A;rw [art];cases A<;>simp
 simp only [if_neg k,if_neg f];rw [art];by_cases g:op=3
 ·subst g
  rw [if_neg (by omega),if_neg (by omega),if_pos rfl,if_pos rfl];by_cases a:n<0
  ·rw [if_pos a];simp;omega
  ·by_cases b:47<n
   ·rw [if_neg a,if_pos b];simp;omega
   ·rw [if_neg a,if_neg b];simp;omega
 by_cases j:op=1
 ·subst j
  by_cases a:n=0
  ·simp [a]<;>omega
  ·simp [a]
 by_cases i:op=2
 ·subst i
  by_cases a:n=0
  ·simp [a]<;>omega
  ·simp [a]
 by_cases e:op=5
 ·subst e
  by_cases a:n=0
  ·simp [a]<;>omega
  ·simp [a]
 by_cases d:op=6
 ·subst d
  by_cases a:n=0
  ·simp [a]<;>omega
  ·simp [a]
 simp [g,j,i,e,d]
theorem GB (V:List Vr) (op n:Int):mN V op n≤2:=by
 unfold mN;dsimp only
 repeat' split
 all_goals omega
end
end Go.Proofs.YtppcmpmnglaleaaGreatDoor.A
