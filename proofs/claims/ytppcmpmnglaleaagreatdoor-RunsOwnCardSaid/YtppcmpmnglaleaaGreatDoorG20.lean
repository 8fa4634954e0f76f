/- Texts that stand one behind the other: Pm9, Pm10, Pm11, Pm12, Pm13, Pm14, Pm15, Q1, Q2, Q3, Q4, Q5, Q6, Q7, Q8, Q9, Q10, Q11, Q13, Q14, Q15, U1, U2. -/
import Derived.Test.YtppcmpmnglaleaaGreatDoorG19
set_option linter.unusedVariables false
set_option linter.unusedSimpArgs false
namespace Go.Proofs.YtppcmpmnglaleaaGreatDoor.A
namespace P
open Go Go.RowKit
section
variable{E:Env} {O:jD} {n:Nat} {Q:Ex→PF→PH→Prop} {ks:List Kp} {fr:PF} {h:PH}
theorem Ea.mono {f:Nat} {args:List PV} {W:Nat→Prop} {R R':PV→PH→Prop} (k:Ea E O f args h W R) (i:∀r c,R r c→R' r c):Ea E O f args h W R':=fun F H e g S j=>
 (k F H e g S j).mono fun x m ⟨r,c,l,d,a,b⟩=>⟨r,c,l,d,i _ _ a,b⟩
def wj.get (fr:PF) (h:PH):RS→Option PV
 | .tmp t=>some (fr.get t)
 | .cell t _=>On h (fr.get t)
 | .cells t n=>vZ n h (fr.get t)
def wj.all (fr:PF) (h:PH):List RS→Option (List PV)
 |[]=>some []
 |r::l=>match wj.get fr h r,wj.all fr h l with|some v,some vs=>some (v::vs)|_,_=>none
def px:List PV→PV
 |[v]=>v
 |vs=>.fF vs
def uG (n:Nat) (r:PV) (h:PH) (r2:PV) (h2:PH):Prop:=
 ∀F H φ x,dO ⟨F,H,φ,h⟩→RV ⟨F,H,φ,h⟩ r x→∃F' dG,dO ⟨F',H,dG,h2⟩∧RV ⟨F',H,dG,h2⟩ r2 x∧∀C0:Cx,C0.h.length=n→dH n qj C0 ⟨F,H,φ,h⟩→dH n qj C0 ⟨F',H,dG,h2⟩
theorem uG.refl (n:Nat) (r:PV) (h:PH):uG n r h r h:=fun F H a x S R=>⟨F,a,S,R,fun _ _ k=>k⟩
def RJ (n:Nat) (res:List RS) (R:PV→PH→Prop):Ex→PF→PH→Prop
 | .exit _,_,_=>False
 |_,fr,h=>∃vs,wj.all fr h res=some vs∧∃r2 h2,uG n (px vs) h r2 h2∧R r2 h2
theorem Ox {C:Cx} (S:dO C) {fr:PF} {d:Fr} (R:nh C fr d):∀{res:List RS} {ps:List PV},wj.all fr C.h res=some ps→∃xs,RS.all d C.H res=some xs∧cL C ps xs
 |[],ps,e=>by cases e;exact ⟨[],rfl,.nil⟩
 |r::l,ps,e=>by
  simp only [wj.all]at e;split at e
  case h_2=>cases e
  rename_i p q g h2;cases e;obtain ⟨xs,o,k⟩:=Ox S R h2
  obtain ⟨x,j,i⟩:∃x,RS.get d C.H r=some x∧RV C p x:=by
   cases r with
   |tmp t=>cases g;exact ⟨_,rfl,R t⟩
   |cell t _=>
    obtain ⟨y,b,f⟩:=Ot S (R t) g;refine ⟨y,?_,f⟩;simp only [RS.get]
    cases c:d.get t with
    |pointer a=>rw [c]at b;cases a<;>exact b
    |_=>rw [c]at b;cases b
   |cells t m=>
    obtain ⟨y,b,f⟩:=Ar S (R t) g;refine ⟨y,?_,f⟩;simp only [RS.get]
    cases c:d.get t with
    |pointer a=>rw [c]at b;cases a<;>exact b
    |_=>rw [c]at b;cases b
  exact ⟨x::xs,by simp only [RS.all,o,j],.cons i k⟩
theorem RK {C:Cx} {ps:List PV} {xs:List Value} (h:cL C ps xs):RV C (px ps) (qy xs):=by
 cases h with
 |nil=>exact .fF (xs:=[]) .nil
 |cons a b=>
  cases b with
  |nil=>exact a
  |cons b c=>exact .fF (xs:=_::_::_) (.cons a (.cons b c))
theorem mf.body {f:Nat} {F:AF} {args:List PV} {R:PV→PH→Prop} (y:O f=none) (A:E f=some F) (z:args.length=F.np) (k:PK E O h.length (RJ h.length F.res R) (.code F.body []) (PF.of args) h):mf E O f args h R:=by
 intro Fz H c a S u;refine Ca.body y A (by rw [←u.length,z]) ?_
 have L:Live ⟨Fz,H,c,h⟩ ⟨Fz,H,c,h⟩:=⟨S,dH.refl _ _ _⟩
 refine (k.sound (C0:=⟨Fz,H,c,h⟩) rfl Fz H c (Fr.of a) L (nh.of u)).mono ?_;intro ex B m q;simp only [UP]at q;obtain ⟨fr,M,K,t,q,p,I⟩:=q
 have key:∀a,wj.all fr t F.res=some a→∀b h2,uG h.length (px a) t b h2→R b h2→∃j,RS.all B m F.res=some j∧∃r l s o,R r l∧RV ⟨s,m,o,l⟩ r (qy j)∧dO ⟨s,m,o,l⟩∧dH h.length qj ⟨Fz,H,c,h⟩ ⟨s,m,o,l⟩:=by
  intro a e b h2 g d;obtain ⟨j,x,w⟩:=Ox p.1 I e;obtain ⟨J,v,D,G,C⟩:=g _ _ _ _ p.1 (RK w);exact ⟨j,x,b,h2,J,v,d,G,D,C _ rfl p.2⟩
 cases ex with
 |exit i=>exact q.elim
 |normal=>obtain ⟨a,e,b,h2,g,d⟩:=q;exact key a e b h2 g d
 |ret=>obtain ⟨a,e,b,h2,g,d⟩:=q;exact key a e b h2 g d
@[simp]theorem XE (f:PF) (a b:Nat) (p:PV):(f.put a p).get b=if b=a then p else f.get b:=rfl
@[simp]theorem aaO (l:List PV) (a:Nat):(PF.of l).get a=l.getD a .any:=rfl
@[simp]theorem agv (f:PF) (a:Nat) (p:PV):f.aO (some a) p=f.put a p:=rfl
@[simp]theorem agw (f:PF) (p:PV):f.aO none p=f:=rfl
@[simp]theorem ajR (f:PF) (a:Nat):fG f (.t a)=f.get a:=rfl
@[simp]theorem ajS (f:PF) (v:Value):fG f (.k v)=wW v:=rfl
@[simp]theorem ajT (f:PF) (a:Nat):fG f (.f a)= .fn a [] []:=rfl
@[simp]theorem aaP (k:IntKind) (a:Int):wW (.int k a)= .v (.int k a):=rfl
@[simp]theorem XF (a:Bool):wW (.bool a)= .v (.bool a):=rfl
@[simp]theorem aaQ (a:ByteArray):wW (.string a)= .v (.string a):=rfl
@[simp]theorem agx (a:Option Addr) (b c:Nat):wW (.slice a b c)= .v (.slice a b c):=rfl
@[simp]theorem aaR (a:Option Addr):wW (.pointer a)= .v (.pointer a):=rfl
@[simp]theorem aaS (a:Option Nat):wW (.map a)= .v (.map a):=rfl
@[simp]theorem agy:wW .nilFunc= .v .nilFunc:=rfl
@[simp]theorem agz:wW .nilIface= .v .nilIface:=rfl
@[simp]theorem aaT (a:Array Value):wW (.agg a)= .agg (a.toList.map .v):=rfl
@[simp]theorem agA (V:List Nat) (fr:PF) (h:PH):Mp.up .pl V fr h= .pl:=rfl
@[simp]theorem agB (V:List Nat) (fr:PF) (h:PH):Mp.up .d0 V fr h= .d0:=rfl
@[simp]theorem agC (a:List AO) (ck:List (Nat×Nat×Nat)) (acc:List (PF×PH×List Nat)) (W V:List Nat) (fr:PF) (h:PH):Mp.up (.dr a ck acc W) V fr h= .dr a ck ((fr,h,V++W)::acc) (V++W):=rfl
@[simp]theorem aaU:PK E O n Q (.code .skip ks) fr h↔PK E O n Q (.done .normal ks) fr h:=⟨fun k=>by cases k;assumption,.skip⟩
@[simp]theorem agD:PK E O n Q (.code .ret ks) fr h↔PK E O n Q (.done .ret ks) fr h:=⟨fun k=>by cases k;assumption,.ret⟩
@[simp]theorem aaV (i:Nat):PK E O n Q (.code (.exit i) ks) fr h↔PK E O n Q (.done (.exit i) ks) fr h:=⟨fun k=>by cases k;assumption,.exit⟩
@[simp]theorem agE (l:List AO):PK E O n Q (.code (.bI l) ks) fr h↔PK E O n Q (.ops .pl l ks) fr h:=⟨fun k=>by cases k;assumption,.bI⟩
@[simp]theorem aaW (l:List AO) (c:Nat×Nat×Nat) (ck:List (Nat×Nat×Nat)):PK E O n Q (.code (.bJ l (c::ck)) ks) fr h↔PK E O n Q (.ops (.dr l (c::ck) [(fr,h,[])] []) l ks) fr h:=⟨fun k=>by cases k;assumption,.bJ⟩
@[simp]theorem XG (l:List AO):PK E O n Q (.code (.bJ l []) ks) fr h↔PK E O n Q (.ops .d0 l ks) fr h:=⟨fun k=>by cases k;assumption,.Ci⟩
@[simp]theorem agF (a b:AC):PK E O n Q (.code (.seq a b) ks) fr h↔PK E O n Q (.code a (.seq b::ks)) fr h:=⟨fun k=>by cases k;assumption,.seq⟩
@[simp]theorem XH (i:Nat) (a:AC):PK E O n Q (.code (.block i a) ks) fr h↔PK E O n Q (.code a (.aR i::ks)) fr h:=⟨fun k=>by cases k;assumption,.block⟩
def PC (E:Env) (O:jD) (n:Nat) (Q:Ex→PF→PH→Prop) (p:PV) (a b:AC) (ks:List Kp) (fr:PF) (h:PH):Prop:=∃t,p= .v (.bool t)∧PK E O n Q (.code (bif t then a else b) ks) fr h
@[simp]theorem aaX (x:X) (a b:AC):PK E O n Q (.code (.cond x a b) ks) fr h↔PC E O n Q (fG fr x) a b ks fr h:=⟨fun k=>by cases k with|cond e q=>exact ⟨_,e,q⟩,fun⟨t,e,q⟩=>.cond e q⟩
@[simp]theorem aoy (t:Bool) (a b:AC):PC E O n Q (.v (.bool t)) a b ks fr h↔br (t=true) (PK E O n Q (.code a ks) fr h) (PK E O n Q (.code b ks) fr h):=by
 unfold PC;cases t
 ·simp only [reduceCtorEq,Qp]
  exact ⟨fun⟨t,e,q⟩=>by cases e;exact q,fun q=>⟨_,rfl,q⟩⟩
 ·simp only [Qo]
  exact ⟨fun⟨t,e,q⟩=>by cases e;exact q,fun q=>⟨_,rfl,q⟩⟩
@[simp]theorem agG (ex:Ex):PK E O n Q (.done ex []) fr h↔Q ex fr h:=⟨fun k=>by cases k;assumption,.Mc⟩
@[simp]theorem ajU (b:AC):PK E O n Q (.done .normal (.seq b::ks)) fr h↔PK E O n Q (.code b ks) fr h:=⟨fun k=>by cases k;assumption,.dns⟩
@[simp]theorem ajV (i:Nat):PK E O n Q (.done .normal (.aR i::ks)) fr h↔PK E O n Q (.done .normal ks) fr h:=⟨fun k=>by cases k;assumption,.dnb⟩
@[simp]theorem ajW (i:Nat) (b:AC):PK E O n Q (.done (.exit i) (.seq b::ks)) fr h↔PK E O n Q (.done (.exit i) ks) fr h:=⟨fun k=>by cases k;assumption,.des⟩
@[simp]theorem agH (i:Nat):PK E O n Q (.done (.exit i) (.aR i::ks)) fr h↔PK E O n Q (.done .normal ks) fr h:=⟨fun k=>by cases k with|Ie q=>exact q|Mg q=>exact absurd rfl q,.Ie⟩
@[simp]theorem ajX (i k:Nat) (I:Nat→PF→PH→Prop):PK E O n Q (.done (.exit i) (.lp I k::ks)) fr h↔PK E O n Q (.done (.exit i) ks) fr h:=⟨fun k=>by cases k;assumption,.del⟩
@[simp]theorem aoz (k:Kp):PK E O n Q (.done .ret (k::ks)) fr h↔PK E O n Q (.done .ret ks) fr h:=⟨fun k=>by cases k;assumption,.Mh⟩
def Mi (n:Nat) (I:Nat→PF→PH→Prop) (k:Nat) (fr:PF) (h:PH):Prop:=∃j,j<k∧∃eZ h2,Gh n fr h eZ h2∧I j eZ h2
@[simp]theorem ajY (I:Nat→PF→PH→Prop) (k:Nat):PK E O n Q (.done .normal (.lp I k::ks)) fr h↔Mi n I k fr h:=
 ⟨fun q=>by cases q with|XD a b c=>exact ⟨_,a,_,_,b,c⟩,fun⟨_,a,_,_,b,c⟩=>.XD a b c⟩
theorem Mi.of {I:Nat→PF→PH→Prop} {k j:Nat} (a:j<k) (b:I j fr h):Mi n I k fr h:=⟨j,a,fr,h,Gh.refl _ _ _,b⟩
theorem Mi.ofG {I:Nat→PF→PH→Prop} {k j:Nat} {a:PF} {h2:PH} (b:j<k) (g:Gh n fr h a h2) (c:I j a h2):Mi n I k fr h:=⟨j,b,a,h2,g,c⟩
def Ig (I:Nat→PF→PH→Prop) (N:Nat):Nat→PF→PH→Prop:=fun k fr h=>k≤N∧I (N- k) fr h
theorem Mi.for {I:Nat→PF→PH→Prop} {N i:Nat} (hi:i<N) (a:I (i+1) fr h):Mi n (Ig I N) (N- i) fr h:=
 ⟨N- (i+1),by omega,fr,h,Gh.refl _ _ _,by omega,by rw [show N- (N- (i+1))=i+1 by omega];exact a⟩
theorem Mi.rj {I:Nat→PF→PH→Prop} {N i:Nat} {a:PF} {h2:PH} (hi:i<N) (g:Gh n fr h a h2) (b:I (i+1) a h2):Mi n (Ig I N) (N- i) fr h:=
 ⟨N- (i+1),by omega,a,h2,g,by omega,by rw [show N- (N- (i+1))=i+1 by omega];exact b⟩
theorem tm {a:AC} {b:PF} {h2:PH} (I:Nat→PF→PH→Prop) (k:Nat) (g:Gh n fr h b h2) (c:I k b h2) (step:∀k fr h,I k fr h→PK E O n Q (.code a (.lp I k::ks)) fr h):PK E O n Q (.code (.loop a) ks) fr h:=.loop I k step g c
theorem fT {a:AC} {c:PF} {h2:PH} (I:Nat→PF→PH→Prop) (N:Nat) (g:Gh n fr h c h2) (d:I 0 c h2) (step:∀i fr h,i≤N→I i fr h→PK E O n Q (.code a (.lp (Ig I N) (N- i)::ks)) fr h):PK E O n Q (.code (.loop a) ks) fr h:=
 tm (Ig I N) N g ⟨aqK _,by rw [Nat.sub_self];exact d⟩ fun k fr h b=>by
  have:=step (N- k) fr h (by omega) b.2;rwa [show N- (N- k)=k by have:=b.1;omega]at this
theorem jr {a:AC} (I:Nat→PF→PH→Prop) (N:Nat) (b:I 0 fr h) (step:∀i fr h,i≤N→I i fr h→PK E O n Q (.code a (.lp (Ig I N) (N- i)::ks)) fr h):PK E O n Q (.code (.loop a) ks) fr h:=fT I N (Gh.refl _ _ _) b step
@[simp]theorem agI (res:List RS) (R:PV→PH→Prop):RJ n res R .normal fr h=∃vs,wj.all fr h res=some vs∧∃a h2,uG n (px vs) h a h2∧R a h2:=rfl
@[simp]theorem agJ (res:List RS) (R:PV→PH→Prop):RJ n res R .ret fr h=∃vs,wj.all fr h res=some vs∧∃a h2,uG n (px vs) h a h2∧R a h2:=rfl
variable{m:Mp} {l:List AO} {d:Option Nat}
@[simp]theorem agK:PK E O n Q (.ops .pl [] ks) fr h↔PK E O n Q (.done .normal ks) fr h:=⟨fun k=>by cases k;assumption,.Mb⟩
@[simp]theorem aaY:PK E O n Q (.ops .d0 [] ks) fr h↔PK E O n Q (.done .normal ks) fr h:=⟨fun k=>by cases k;assumption,.Cj⟩
@[simp]theorem aaZ (c:List AO) (ck:List (Nat×Nat×Nat)) (acc:List (PF×PH×List Nat)) (W:List Nat):PK E O n Q (.ops (.dr c ck acc W) [] ks) fr h↔XA c ck acc=true∧PK E O n Q (.done .normal ks) fr h:=⟨fun k=>by cases k with|yy a b=>exact ⟨a,b⟩,fun⟨a,b⟩=>.yy a b⟩
def PG (E:Env) (O:jD) (n:Nat) (Q:Ex→PF→PH→Prop) (g:PV) (b:Bool) (m:Mp) (d:Option Nat) (p:cv) (l:List AO) (ks:List Kp) (fr:PF) (h:PH):Prop:=∃x,g= .v x∧br (et b x=true) (PK E O n Q (.ops m (⟨none,d,p⟩::l) ks) fr h) (PK E O n Q (.ops (m.up [] (fr.aO d (.v undef)) h) l ks) (fr.aO d (.v undef)) h)
@[simp]theorem aoA (t:Nat) (b:Bool) (p:cv):PK E O n Q (.ops m (⟨some (t,b),d,p⟩::l) ks) fr h↔PG E O n Q (fr.get t) b m d p l ks fr h:=by
 constructor
 ·intro k
  cases k with
  |XC e w q=>exact ⟨_,e,fun _=>q,fun k=>absurd w k⟩
  |Ic e w q=>exact ⟨_,e,fun k=>(Bool.noConfusion (w.symm.trans k)),fun _=>q⟩
 ·rintro ⟨x,e,q⟩
  cases w:et b x with
  |true=>exact .XC e w (q.1 w)
  |false=>exact .Ic e w (q.2 (by simp [w]))
@[simp]theorem aoB (t:Bool) (p:cv):PG E O n Q (.v (.bool t)) true m d p l ks fr h↔br (t=true) (PK E O n Q (.ops m (⟨none,d,p⟩::l) ks) fr h) (PK E O n Q (.ops (m.up [] (fr.aO d (.v undef)) h) l ks) (fr.aO d (.v undef)) h):=by
 unfold PG;exact ⟨fun⟨x,e,q⟩=>by cases e;simpa using q,fun q=>⟨_,rfl,by simpa using q⟩⟩
@[simp]theorem aoC (t:Bool) (p:cv):PG E O n Q (.v (.bool t)) false m d p l ks fr h↔br (t=true) (PK E O n Q (.ops (m.up [] (fr.aO d (.v undef)) h) l ks) (fr.aO d (.v undef)) h) (PK E O n Q (.ops m (⟨none,d,p⟩::l) ks) fr h):=by
 unfold PG;refine ⟨fun⟨x,e,q⟩=>?_,fun q=>⟨_,rfl,?_⟩⟩
 ·cases e;cases t<;>simpa using q
 ·cases t<;>simpa using q
@[simp]theorem aoD (b:Bool) (p:cv):PG E O n Q (.v undef) b m d p l ks fr h↔PK E O n Q (.ops (m.up [] (fr.aO d (.v undef)) h) l ks) (fr.aO d (.v undef)) h:=by
 unfold PG;refine ⟨fun⟨x,e,q⟩=>?_,fun q=>⟨_,rfl,by simpa using q⟩⟩;cases e;simpa using q
def PO (E:Env) (O:jD) (n:Nat) (Q:Ex→PF→PH→Prop) (r:Option (PV×PH)) (V:List Nat) (d:Option Nat) (m:Mp) (l:List AO) (ks:List Kp) (fr:PF):Prop:=∃v h',r=some (v,h')∧PK E O n Q (.ops (m.up V (fr.aO d v) h') l ks) (fr.aO d v) h'
@[simp]theorem XI (v:PV) (h':PH) (V:List Nat):PO E O n Q (some (v,h')) V d m l ks fr↔PK E O n Q (.ops (m.up V (fr.aO d v) h') l ks) (fr.aO d v) h':=⟨fun⟨_,_,e,q⟩=>by cases e;exact q,fun q=>⟨_,_,rfl,q⟩⟩
@[simp]theorem aoE (V:List Nat):PO E O n Q none V d m l ks fr↔False:=⟨fun⟨_,_,e,_⟩=>(by cases e),False.elim⟩
def P1 (E:Env) (O:jD) (n:Nat) (Q:Ex→PF→PH→Prop) (r:Option PV) (d:Option Nat) (m:Mp) (l:List AO) (ks:List Kp) (fr:PF) (h:PH):Prop:=∃v,r=some v∧PK E O n Q (.ops (m.up [] (fr.aO d v) h) l ks) (fr.aO d v) h
@[simp]theorem aoF (v:PV):P1 E O n Q (some v) d m l ks fr h↔PK E O n Q (.ops (m.up [] (fr.aO d v) h) l ks) (fr.aO d v) h:=⟨fun⟨_,e,q⟩=>by cases e;exact q,fun q=>⟨_,rfl,q⟩⟩
@[simp]theorem aoG:P1 E O n Q none d m l ks fr h↔False:=⟨fun⟨_,e,_⟩=>(by cases e),False.elim⟩
@[simp]theorem aj0 (c:Prop) [Decidable c] (r:Option PV):P1 E O n Q (if c then r else none) d m l ks fr h↔c∧P1 E O n Q r d m l ks fr h:=by by_cases h:c<;>simp [h]
def PS (E:Env) (O:jD) (n:Nat) (Q:Ex→PF→PH→Prop) (r:Option PH) (V:List Nat) (d:Option Nat) (m:Mp) (l:List AO) (ks:List Kp) (fr:PF):Prop:=∃h',r=some h'∧PK E O n Q (.ops (m.up V (fr.aO d (.v undef)) h') l ks) (fr.aO d (.v undef)) h'
@[simp]theorem aoH (h':PH) (V:List Nat):PS E O n Q (some h') V d m l ks fr↔PK E O n Q (.ops (m.up V (fr.aO d (.v undef)) h') l ks) (fr.aO d (.v undef)) h':=⟨fun⟨_,e,q⟩=>by cases e;exact q,fun q=>⟨_,rfl,q⟩⟩
@[simp]theorem aoI (V:List Nat):PS E O n Q none V d m l ks fr↔False:=⟨fun⟨_,e,_⟩=>(by cases e),False.elim⟩
@[simp]theorem aj1 (c:Prop) [Decidable c] (r:Option PH) (V:List Nat):PS E O n Q (if c then r else none) V d m l ks fr↔c∧PS E O n Q r V d m l ks fr:=by by_cases h:c<;>simp [h]
theorem qX {p:cv} (a:p.aV=false):PK E O n Q (.ops m (⟨none,d,p⟩::l) ks) fr h↔PO E O n Q (pop p (fG fr) h) (yr p (fG fr)) d m l ks fr:=by
 constructor
 ·intro k
  cases k with
  |op e q=>exact ⟨_,_,e,q⟩
  |call=>cases a
  |callv=>cases a
 ·exact fun⟨_,_,e,q⟩=>.op e q
theorem RL (r:Option PV):PO E O n Q (r.map fun v=>(v,h)) [] d m l ks fr↔P1 E O n Q r d m l ks fr h:=by cases r<;>simp
theorem Mj (r:Option PH) (V:List Nat):PO E O n Q (r.map fun a=>(.v undef,a)) V d m l ks fr↔PS E O n Q r V d m l ks fr:=by cases r<;>simp
theorem qk {p:cv} {r:Option PV} (a:p.aV=false) (e:pop p (fG fr) h=r.map fun v=>(v,h)) (w:yr p (fG fr)=[]):PK E O n Q (.ops m (⟨none,d,p⟩::l) ks) fr h↔P1 E O n Q r d m l ks fr h:=by rw [qX a,e,w,RL]
@[simp]theorem aj2 (x:X):PK E O n Q (.ops m (⟨none,d,.mv x⟩::l) ks) fr h↔PK E O n Q (.ops (m.up [] (fr.aO d (fG fr x)) h) l ks) (fr.aO d (fG fr x)) h:=by rw [qX rfl];simp [pop,yr]
@[simp]theorem aa0 (c a b:X):PK E O n Q (.ops m (⟨none,d,.pick c a b⟩::l) ks) fr h↔P1 E O n Q (HE (fG fr c) (fG fr a) (fG fr b)) d m l ks fr h:=qk rfl rfl rfl
@[simp]theorem XJ (z:List Value):PK E O n Q (.ops m (⟨none,d,.alloc z⟩::l) ks) fr h↔PK E O n Q (.ops (m.up [] (fr.aO d (.ref h.length 0 z.length)) (h++[.cells z.length (z.map .v)])) l ks) (fr.aO d (.ref h.length 0 z.length)) (h++[.cells z.length (z.map .v)]):=by rw [qX rfl];simp [pop,yr]
@[simp]theorem agL (x:X):PK E O n Q (.ops m (⟨none,d,.box x⟩::l) ks) fr h↔PO E O n Q (LX h (fG fr x)) [] d m l ks fr:=qX rfl
@[simp]theorem XL (z:List Value) (ps:List (Nat×Nat×X)):PK E O n Q (.ops m (⟨none,d,.build z ps⟩::l) ks) fr h↔P1 E O n Q ((pr (z.map .v) (ps.map fun p=>(p.1,p.2.1,fG fr p.2.2))).map .agg) d m l ks fr h:=qk rfl (by simp [pop,Option.map_map];rfl) rfl
@[simp]theorem agM (len sz:Nat) (z:List Value) (ps:List (Nat×Nat×X)):PK E O n Q (.ops m (⟨none,d,.bsl len sz z ps⟩::l) ks) fr h↔PO E O n Q (LV len sz z h (ps.map fun p=>(p.1,p.2.1,fG fr p.2.2))) [] d m l ks fr:=qX rfl
@[simp]theorem aj3 (x:X):PK E O n Q (.ops m (⟨none,d,.ld x⟩::l) ks) fr h↔P1 E O n Q (On h (fG fr x)) d m l ks fr h:=qk rfl rfl rfl
@[simp]theorem agN (k:Nat) (x:X):PK E O n Q (.ops m (⟨none,d,.ldn k x⟩::l) ks) fr h↔P1 E O n Q (vZ k h (fG fr x)) d m l ks fr h:=qk rfl rfl rfl
@[simp]theorem aj4 (k:Nat) (x v:X):PK E O n Q (.ops m (⟨none,d,.st k x v⟩::l) ks) fr h↔PS E O n Q (Rq k h (fG fr x) (fG fr v)) (yr (.st k x v) (fG fr)) d m l ks fr:=by rw [qX rfl];exact Mj _ _
@[simp]theorem agO (op:BinOp) (x y:X):PK E O n Q (.ops m (⟨none,d,.bin op x y⟩::l) ks) fr h↔P1 E O n Q (LO op (fG fr x) (fG fr y)) d m l ks fr h:=qk rfl rfl rfl
@[simp]theorem aj5 (op:UnOp) (x:X):PK E O n Q (.ops m (⟨none,d,.un op x⟩::l) ks) fr h↔P1 E O n Q (pun op (fG fr x)) d m l ks fr h:=qk rfl rfl rfl
@[simp]theorem agP (k:IntKind) (x:X):PK E O n Q (.ops m (⟨none,d,.nk k x⟩::l) ks) fr h↔P1 E O n Q (LS k (fG fr x)) d m l ks fr h:=qk rfl rfl rfl
@[simp]theorem aj6 (sz:Nat) (x:X) (lo hi mx:Option X):PK E O n Q (.ops m (⟨none,d,.sl sz x lo hi mx⟩::l) ks) fr h↔PO E O n Q (Xs sz h (fG fr x) (lo.map (fG fr)) (hi.map (fG fr)) (mx.map (fG fr))) [] d m l ks fr:=qX rfl
@[simp]theorem aj7 (off:Nat) (x:X):PK E O n Q (.ops m (⟨none,d,.fa off x⟩::l) ks) fr h↔P1 E O n Q (TO h off (fG fr x)) d m l ks fr h:=qk rfl rfl rfl
@[simp]theorem aj8 (sz:Nat) (x i:X):PK E O n Q (.ops m (⟨none,d,.ia sz x i⟩::l) ks) fr h↔P1 E O n Q (Xr h sz (fG fr x) (fG fr i)) d m l ks fr h:=qk rfl rfl rfl
@[simp]theorem agQ (len sz:Nat) (x i:X):PK E O n Q (.ops m (⟨none,d,.qx len sz x i⟩::l) ks) fr h↔P1 E O n Q (HF h len sz (fG fr x) (fG fr i)) d m l ks fr h:=qk rfl rfl rfl
@[simp]theorem agR (x:X) (i:Nat):PK E O n Q (.ops m (⟨none,d,.ext x i⟩::l) ks) fr h↔P1 E O n Q (LU (fG fr x) i) d m l ks fr h:=qk rfl rfl rfl
@[simp]theorem agS (sz bytes:Nat) (s x:X):PK E O n Q (.ops m (⟨none,d,.app sz bytes s x⟩::l) ks) fr h↔PO E O n Q (ud sz bytes h (fG fr s) (fG fr x)) (yr (.app sz bytes s x) (fG fr)) d m l ks fr:=qX rfl
@[simp]theorem aa1 (x:X):PK E O n Q (.ops m (⟨none,d,.eN x⟩::l) ks) fr h↔P1 E O n Q (BZ h (fG fr x)) d m l ks fr h:=qk rfl rfl rfl
@[simp]theorem agT (neg:Bool) (offs:List (Nat×Nat)) (x y:X):PK E O n Q (.ops m (⟨none,d,.eqs neg offs x y⟩::l) ks) fr h↔P1 E O n Q (LW neg offs (fG fr x) (fG fr y)) d m l ks fr h:=qk rfl rfl rfl
theorem ku {f:Nat} {«as»:List X} {args:List PV} {W:List Nat} (b:«as».map (fG fr)=args) (k:Ea E O f args h (· ∈W) (fun r a=>PK E O n Q (.ops (m.up W (fr.aO d r) a) l ks) (fr.aO d r) a)):PK E O n Q (.ops m (⟨none,d,.call f «as»⟩::l) ks) fr h:=
 .call (b▸k) fun _ _ q=>q
end
theorem Ih {sz bytes b n k:Nat} {h:PH} {x:PV} {cs new:List PV} (a:h[b]?=some (.cells sz cs)) (c:n*sz=cs.length) (r:0<sz) (o:qh x=some k) (g:gJ h sz k x=some new) (m:new.length=k*sz) (j:gI h x=true) (p:(n+k)*bytes≤2^47) (q:n+k<2^62):
 ud sz bytes h (.sl sz b 0 n n) x=some (.sl sz b 0 (n+k) (n+k),h.set b (.cells sz (cs++new))):=by
 have l:=(aqM.1 a).1;unfold ud;rw [o];simp only;by_cases f:k=0
 ·subst f
  have:new=[]:=aq9.1 (by simpa using m);subst this
  have e:h.set b (.cells sz cs)=h:=by
   apply List.ext_getElem?;intro i;rw [List.getElem?_set];by_cases hi:b=i
   ·subst hi;rw [if_pos rfl,if_pos l,a]
   ·rw [if_neg hi]
  simp [j,a,c,e]
 ·rw [if_neg f,g]
  simp only [a];rw [if_pos ⟨trivial,trivial,r,by simpa using c,aqK _,p,q⟩];by_cases d:n=0
  ·subst d
   have:cs=[]:=aq9.1 (by simpa using c.symm);subst this;simp
  ·rw [if_neg d,if_neg (by omega),if_pos trivial,aqN (by omega)]
theorem fi {E:Env} {O:jD} {n:Nat} {Q:Ex→PF→PH→Prop} {a:List Kp} {fr:PF} {m:Mp} {l:List AO} {d:Option Nat} {V:List Nat} {sz bytes b j k:Nat} {h:PH} {x:PV} {cs new:List PV} (p:h[b]?=some (.cells sz cs)) (i:qh x=some k) (c:gJ h sz k x=some new) (f:j*sz=cs.length) (r:0<sz) (g:new.length=k*sz) (e:gI h x=true) (o:(j+k)*bytes≤2^47) (q:j+k<2^62)
 (next:PK E O n Q (.ops (m.up V (fr.aO d (.sl sz b 0 (j+k) (j+k))) (h.set b (.cells sz (cs++new)))) l a) (fr.aO d (.sl sz b 0 (j+k) (j+k))) (h.set b (.cells sz (cs++new)))):PO E O n Q (ud sz bytes h (.sl sz b 0 j j) x) V d m l a fr:=by
 rw [Ih p f r i c g e o q];exact (XI _ _ _).2 next
attribute [simp] yq TP HE On vZ Rq BX LO LQ LR v7 pun LS Rr TO du Xr HF pix LU HG qh BZ B1 HI Oq Xs gJ B7 HJ LV Rs Xt D6 LW LX dC pr uc yr gI uE Ap wj.all wj.get px
end P
namespace P
open Go Go.RowKit
def add (F:Nat→Prop) (h:PH) (φ:Nat→Nat) (A:Nat→Prop):Nat→Prop:=fun y=>F y∨∃b,A b∧aU h b∧φ b=y
def Vz (A:Nat→Prop) (h:PH) (p q:PV):Prop:=∀F H φ x,dO ⟨F,H,φ,h⟩→RV ⟨F,H,φ,h⟩ p x→RF (add F h φ A) H q x
def Eb (A:Nat→Prop) (h:PH):List PV→List PV→Prop
 |[],[]=>True
 |p::ps,q::qs=>Vz A h p q∧Eb A h ps qs
 |_,_=>False
def Vg (A:Nat→Prop) (σ:Nat→Nat) (h bs:PH) (p q:PV):Prop:=∀F H φ x,dO ⟨F,H,φ,h⟩→RV ⟨F,H,φ,h⟩ p x→RV ⟨add F h φ A,H,fun i=>φ (σ i),bs⟩ q x
def lA (A:Nat→Prop) (σ:Nat→Nat) (h bs:PH):List PV→List PV→Prop
 |[],[]=>True
 |p::ps,q::qs=>Vg A σ h bs p q∧lA A σ h bs ps qs
 |_,_=>False
variable{A:Nat→Prop} {σ:Nat→Nat} {h bs:PH}
theorem Eb.ok:∀{ps c:List PV},Eb A h ps c→∀{F H φ xs},dO ⟨F,H,φ,h⟩→cL ⟨F,H,φ,h⟩ ps xs→gY (add F h φ A) H c xs
 |[],[],_,F,H,φ,_,S,.nil=>.nil
 |p::ps,q::c,⟨a,b⟩,F,H,φ,_,S,.cons r s=>.cons (a F H φ _ S r) (Eb.ok b S s)
theorem lA.ok:∀{ps c:List PV},lA A σ h bs ps c→∀{F H φ xs},dO ⟨F,H,φ,h⟩→cL ⟨F,H,φ,h⟩ ps xs→cL ⟨add F h φ A,H,fun i=>φ (σ i),bs⟩ c xs
 |[],[],_,F,H,φ,_,S,.nil=>.nil
 |p::ps,q::c,⟨a,b⟩,F,H,φ,_,S,.cons r s=>.cons (a F H φ _ S r) (lA.ok b S s)
theorem Ii {F:Nat→Prop} {H:AH} {φ:Nat→Nat} (x:Nat) (a:F x):add F h φ A x∧H.get x=H.get x:=⟨.inl a,rfl⟩
theorem RM (x:Value):Vz A h (.v x) (.v x):=fun F H a y S R=>by cases R;exact .v _
theorem Ij (sz:Nat) (rows:List (List PV)):Vz A h (.fs sz rows) (.fs sz rows):=fun F H a y S R=>by cases R with|fs q=>exact q.mono rfl Ii
theorem Ik (sz:Nat):Vz A h (.v (.slice none 0 0)) (.fs sz []):=fun F H b y S R=>by
 cases R;exact .fs (rows:=[]) (rs:=[]) ⟨_,_,rfl,by simp⟩ (aq8 _) (fun d a=>by cases a) .nil
theorem kS.of_flat {F:Nat→Prop} {H:AH} {sz:Nat}:∀{rows:List (List PV)} {ys:List Value},gY F H rows.flatten ys→(∀r∈rows,r.length=sz)→∃rs,kS F H rows rs∧rs.flatten=ys∧∀r∈rs,r.length=sz
 |[],ys,h,_=>by cases h;exact ⟨[],.nil,rfl,by simp⟩
 |r::rows,ys,h,e=>by
  rw [List.flatten_cons]at h;have f:gY F H r (ys.take sz):=by have:=h.take r.length;rwa [List.take_left,e r (by simp)]at this
  have h2:gY F H rows.flatten (ys.drop sz):=by have:=h.drop r.length;rwa [List.drop_left,e r (by simp)]at this
  obtain ⟨rs,a,b,c⟩:=kS.of_flat h2 fun q d=>e q (by simp [d])
  refine ⟨ys.take sz::rs,.cons f a,by rw [List.flatten_cons,b,List.take_append_drop],fun q d=>?_⟩;rcases aqY.1 d with rfl|d
  ·rw [←f.length,e r (by simp)]
  ·exact c q d
theorem Oy {sz b o n c z:Nat} {cs:List PV} {rows:List (List PV)} (C:A b) (a:h[b]?=some (.cells z cs)) (j:(o+c)*sz=cs.length) (f:0<sz) (u:sz≤z) (B:n≤c) (k:rows.length=n) (y:∀r∈rows,r.length=sz) (v:Eb A h ((cs.drop (o*sz)).take (n*sz)) rows.flatten):Vz A h (.sl sz b o n c) (.fs sz rows):=fun F H K x S R=>by
 rcases ti R a j with⟨rfl,rfl,d,rfl,Q⟩|⟨T,rfl⟩
 ·obtain rfl:rows=[]:=aq9.1 k
  exact .fs (rows:=[]) (rs:=[]) ⟨_,_,rfl,by simp⟩ (aq8 _) (fun e m=>⟨.inr rfl,.inl rfl⟩) .nil
 ·have p:cs≠[]:=by
   rintro rfl;have:=Nat.mul_pos (show 0<o+c by omega) f;simp at j;omega
  obtain ⟨L,l,g,D⟩:=S.cells (t:=0) a (List.length_pos_iff.2 p);have N:=g.length;obtain ⟨rs,q,J,I⟩:=kS.of_flat (v.ok S ((g.drop (o*sz)).take (n*sz))) y;have w:=q.length;have G:(o+c)*sz=o*sz+c*sz:=Nat.add_mul ..;rw [←k];refine .fs (rs:=rs) ⟨_,_,by rw [w],fun i r hi=>⟨_,_,rfl,?_⟩⟩ (by omega) (fun e m=>?_) q
  ·obtain ⟨E,U⟩:=iL I hi
   have P:=(aqM.1 hi).1;have s:(i+1)*sz≤n*sz:=Nat.mul_le_mul_right _ (by omega);have M:n*sz≤c*sz:=Nat.mul_le_mul_right _ B;rw [Nat.succ_mul]at s;rw [bH l D (by omega),←E,J,List.drop_take,List.drop_drop,List.take_take,Nat.min_eq_left (by omega)]
  ·cases m
   refine ⟨.inl rfl,?_⟩;by_cases O:n=0
   ·left;omega
   ·right
    refine ⟨.inr ⟨b,C,bU a p,rfl⟩,?_⟩;unfold AH.kD;rw [l];simp [u]
theorem wk {p q:PV} (k:Vz A h p q):Vg A σ h bs p q:=fun F H a x S R=>(k F H a x S R).qS (C:=⟨_,_,_,_⟩)
theorem RN (p:PV):Vg A σ h bs p .any:=fun F H a x S R=>.any x
@[simp]theorem agU (x:Value):Vg A σ h bs (.v x) (.v x)↔True:=⟨fun _=>trivial,fun _=>wk (RM x)⟩
@[simp]theorem XM (sz:Nat) (rows:List (List PV)):Vg A σ h bs (.fs sz rows) (.fs sz rows)↔True:=⟨fun _=>trivial,fun _=>wk (Ij sz rows)⟩
@[simp]theorem RO (sz:Nat):Vg A σ h bs (.v (.slice none 0 0)) (.fs sz [])↔True:=⟨fun _=>trivial,fun _=>wk (Ik sz)⟩
@[simp]theorem aj9 (x:Value):Vz A h (.v x) (.v x)↔True:=⟨fun _=>trivial,fun _=>RM x⟩
@[simp]theorem agV (sz:Nat) (rows:List (List PV)):Vz A h (.fs sz rows) (.fs sz rows)↔True:=⟨fun _=>trivial,fun _=>Ij sz rows⟩
@[simp]theorem aa2 (sz:Nat):Vz A h (.v (.slice none 0 0)) (.fs sz [])↔True:=⟨fun _=>trivial,fun _=>Ik sz⟩
@[simp]theorem aa3:Eb A h [] []↔True:=Iff.rfl
@[simp]theorem XN (p q:PV) (ps qs:List PV):Eb A h (p::ps) (q::qs)↔Vz A h p q∧Eb A h ps qs:=Iff.rfl
@[simp]theorem aa4:lA A σ h bs [] []↔True:=Iff.rfl
@[simp]theorem Il (p q:PV) (ps qs:List PV):lA A σ h bs (p::ps) (q::qs)↔Vg A σ h bs p q∧lA A σ h bs ps qs:=Iff.rfl
@[simp]theorem XO (cells:List PV):Vg A σ h bs (.fp cells) (.fp cells)↔True:=⟨fun _=>trivial,fun _ F H d x S R=>by
 cases R with|fp a b c=>exact .fp (.inl a) b (c.mono rfl Ii)⟩
theorem Im {ps a:List PV} (k:lA A σ h bs ps a):Vg A σ h bs (.agg ps) (.agg a):=fun F H b x S R=>by cases R with|agg r=>exact .agg (k.ok S r)
theorem Au {ps a:List PV} (k:lA A σ h bs ps a):Vg A σ h bs (.fF ps) (.fF a):=fun F H b x S R=>by cases R with|fF r=>exact .fF (k.ok S r)
theorem XP {f:Nat} {ps b ps' a:List PV} (k:lA A σ h bs ps b) (d:lA A σ h bs ps' a):Vg A σ h bs (.fn f ps ps') (.fn f b a):=fun F H e x S R=>by cases R with|fn r c=>exact .fn (k.ok S r) (d.ok S c)
theorem RP {t:Nat} {p q:PV} (k:Vg A σ h bs p q):Vg A σ h bs (.qg t p) (.qg t q):=fun F H a x S R=>by cases R with|qg r=>exact .qg (k F H a _ S r)
theorem mR {h:PH} {b T t:Nat} (e:du h b=some T):At h b t↔T=t:=by
 unfold du at e;split at e
 ·rename_i z cs a
  cases e;constructor
  ·rintro ⟨c,d,e,rfl⟩;rw [a]at e;cases e;rfl
  ·rintro rfl;exact ⟨z,cs,a,rfl⟩
 ·cases e
theorem mS {h:PH} {b T t:Nat} (e:du h b=some T):Le h b t↔t≤T:=by
 unfold du at e;split at e
 ·rename_i z cs a
  cases e;exact ⟨fun k=>k z cs a,fun k c d e=>by rw [a]at e;cases e;exact k⟩
 ·cases e
theorem wm {h:PH} {b T:Nat} (e:du h b=some T):b<h.length:=by
 unfold du at e;split at e
 ·rename_i z cs a;exact (aqM.1 a).1
 ·cases e
theorem RQ {b i o t T:Nat} (c:du h b=some T) (h2:du bs i=some T) (hs:σ i=b):Vg A σ h bs (.ref b o t) (.ref i o t):=fun F H f x S R=>by
 cases R with|ref a g d e=>
 subst hs;refine .ref a (wm h2) ((mS h2).2 ((mS c).1 d)) fun k=>?_
 exact e ((mR c).2 ((mR h2).1 k))
theorem XQ {b i sz o n c T:Nat} (d:du h b=some T) (h2:du bs i=some T) (hs:σ i=b):Vg A σ h bs (.sl sz b o n c) (.sl sz i o n c):=fun F H g x S R=>by
 cases R with|sl a j e f=>
 subst hs;refine .sl a (wm h2) ((mS h2).2 ((mS d).1 e)) fun k=>?_
 exact f ((mR d).2 ((mR h2).1 k))
theorem Ml {sz i z:Nat} (h2:bs[i]?=some (.cells z [])):Vg A σ h bs (.v (.slice none 0 0)) (.sl sz i 0 0 0):=fun F H a x S R=>by
 cases R;have e:du bs i=some 0:=by unfold du;rw [h2];rfl
 exact .sl ⟨_,_,rfl⟩ (wm e) ((mS e).2 (by simp)) fun _=>.inl ⟨rfl,rfl,none,rfl,by simp⟩
def qY (A:Nat→Prop) (σ:Nat→Nat) (h bs:PH) (o:Option PB):PB→Prop
 | .cells z qs=>qs=[]∨∃ps,o=some (.cells z ps)∧lA A σ h bs ps qs
 | .map fs=>∃es,o=some (.map es)∧es.map (·.1)=fs.map (·.1)∧lA A σ h bs (es.map (·.2)) (fs.map (·.2))
 | .dead=>True
structure kU (A:Nat→Prop) (σ:Nat→Nat) (h bs:PH):Prop where
 aR:∀i P,bs[i]?=some P→qY A σ h bs h[σ i]? P
 inj:∀i j,i<bs.length→j<bs.length→aU bs i→aU bs j→σ i=σ j→i=j
 off:∀i,i<bs.length→aU bs i→¬ A (σ i)
theorem lA.length:∀{ps a:List PV},lA A σ h bs ps a→ps.length=a.length
 |[],[],_=>rfl
 |_::_,_::_,⟨_,b⟩=>by simp [lA.length b]
theorem kU.aU (K:kU A σ h bs) {i:Nat} (s:P.aU bs i):P.aU h (σ i):=by
 rcases jo s with⟨es,e⟩|⟨z,cs,e,b⟩
 ·obtain ⟨d,a,_⟩:=K.aR i _ e
  exact ew a
 ·rcases K.aR i _ e with q|⟨ps,a,c⟩
  ·exact absurd q b
  ·exact bU a (by rintro rfl;have:=c.length;exact b (aq9.1 this.symm))
theorem kU.ok (K:kU A σ h bs) {F:Nat→Prop} {H:AH} {φ:Nat→Nat} (S:dO ⟨F,H,φ,h⟩):dO ⟨add F h φ A,H,fun i=>φ (σ i),bs⟩where
 wf:=S.wf
 fz:=fun x l=>by
  rcases l with l|⟨b,_,f,rfl⟩
  ·exact S.fz x l
  ·exact S.lt f
 inj:=fun i j s t e=>K.inj i j (aQ s) (aQ t) s t (S.inj _ _ (K.aU s) (K.aU t) e)
 aR:=fun i z y e m=>by
  have s:=bU e m;rcases K.aR i _ e with q|⟨ps,p,k⟩
  ·exact absurd q m
  obtain ⟨u,a,b,c,d⟩:=S.aR (σ i) z ps p (by rintro rfl;have:=k.length;exact m (aq9.1 this.symm));refine ⟨u,a,k.ok S b,c,?_⟩;rintro (q|⟨w,n,f,o⟩)
  ·exact d q
  ·exact K.off i (aQ s) s (S.inj _ _ f (K.aU s) o▸n)
 yp:=fun i B e=>by
  have s:=ew e;obtain ⟨es,p,v,k⟩:=K.aR i _ e;obtain ⟨r,a,b,c,d,g⟩:=S.yp (σ i) es p;refine ⟨r,a,v.symm.trans b,k.ok S c,d,?_⟩;rintro (q|⟨w,n,f,o⟩)
  ·exact g q
  ·exact K.off i (aQ s) s (S.inj _ _ f (K.aU s) o▸n)
theorem kU.none (A:Nat→Prop) (σ:Nat→Nat) (h:PH):kU A σ h []:=⟨fun i P e=>by simp at e,fun i j hi=>by simp at hi,fun i hi=>by simp at hi⟩
mutual
def sh (k:Nat):PV→PV
 | .ref b o t=>.ref (b+k) o t
 | .sl sz b o n c=>.sl sz (b+k) o n c
 | .mp b=>.mp (b+k)
 | .agg cs=>.agg (zk k cs)
 | .fF cs=>.fF (zk k cs)
 | .fn f a b=>.fn f (zk k a) (zk k b)
 | .qg t p=>.qg t (sh k p)
 | .v x=>.v x
 | .fs sz rows=>.fs sz rows
 | .fp cells=>.fp cells
 | .any=>.any
def zk (k:Nat):List PV→List PV
 |[]=>[]
 |p::ps=>sh k p::zk k ps
end
def tn (k:Nat):PB→PB
 | .cells z cs=>.cells z (zk k cs)
 | .map es=>.map (es.map fun e=>(e.1,sh k e.2))
 | .dead=>.dead
theorem js (k:Nat):∀l:List PV,(zk k l).length=l.length
 |[]=>rfl
 |_::l=>by simp [zk,js k l]
theorem Ck (k:Nat):∀es:List (Value×PV),(es.map fun e=>(e.1,sh k e.2)).map (·.2)=zk k (es.map (·.2))
 |[]=>rfl
 |_::l=>by simp only [List.map_cons,zk,Ck k l]
theorem py {h bs:PH} (b:Nat):(h++bs.map (tn h.length))[b+h.length]?=(bs[b]?).map (tn h.length):=by
 rw [aqX (by omega),Nat.add_sub_cancel,ara]
theorem Io {h bs:PH} {b t:Nat}:At (h++bs.map (tn h.length)) (b+h.length) t↔At bs b t:=by
 unfold At;rw [py];constructor
 ·rintro ⟨z,cs,e,rfl⟩
  obtain ⟨P,a,e⟩:=aqQ.1 e
  cases P with
  |cells d c=>cases e;exact ⟨_,c,a,(js _ _).symm⟩
  |_=>cases e
 ·rintro ⟨z,cs,e,rfl⟩
  exact ⟨z,zk h.length cs,by rw [e];rfl,js _ _⟩
theorem Oz {h bs:PH} {b t:Nat}:Le (h++bs.map (tn h.length)) (b+h.length) t↔Le bs b t:=by
 unfold Le;rw [py];constructor
 ·intro k z cs e
  have:=k z (zk h.length cs) (by rw [e];rfl);rwa [js]at this
 ·intro k z cs e
  obtain ⟨P,a,e⟩:=aqQ.1 e
  cases P with
  |cells d c=>cases e;rw [js];exact k _ c a
  |_=>cases e
theorem yz {h bs:PH} {b:Nat}:cQ (h++bs.map (tn h.length)) (b+h.length)↔cQ bs b:=by
 unfold cQ;rw [py];constructor
 ·rintro ⟨es,e⟩
  obtain ⟨P,c,e⟩:=aqQ.1 e
  cases P with
  |map a=>exact ⟨a,c⟩
  |_=>cases e
 ·rintro ⟨es,e⟩
  exact ⟨_,by rw [e];rfl⟩
theorem Ip {h bs:PH} {b:Nat}:aU (h++bs.map (tn h.length)) (b+h.length)↔aU bs b:=by
 unfold aU;simp only [yz,Io]
def join (h:PH) (φ ψ:Nat→Nat):Nat→Nat:=fun b=>if b<h.length then φ b else ψ (b- h.length)
theorem rK (h:PH) (φ ψ:Nat→Nat) (b:Nat):join h φ ψ (b+h.length)=ψ b:=by
 unfold join;rw [if_neg (by omega),Nat.add_sub_cancel]
theorem wo {h:PH} {φ ψ:Nat→Nat} {b:Nat} (a:b<h.length):join h φ ψ b=φ b:=if_pos a
theorem Iq {h bs:PH} {b:Nat} (a:b<bs.length):b+h.length<(h++bs.map (tn h.length)).length:=by
 rw [aqP,List.length_map];omega
mutual
theorem Cm {F:Nat→Prop} {H:AH} {φ ψ:Nat→Nat} {h bs:PH}:∀{p:PV} {x:Value},RV ⟨F,H,ψ,bs⟩ p x→RV ⟨F,H,join h φ ψ,h++bs.map (tn h.length)⟩ (sh h.length p) x
 |_,_, .v x=> .v x
 |_,_, .ref a d f e=> .ref a (Iq d) (Oz.2 f) fun k=>by
  have:=e (Io.1 k)
  simpa [rK]using this
 |_,_, .sl a d f e=> .sl a (Iq d) (Oz.2 f) fun k=>by
  have:=e (Io.1 k)
  simpa [rK]using this
 |_,_, .mp a d e=> .mp a (Iq d) fun k=>by
  have:=e (yz.1 k)
  simpa [rK]using this
 |_,_, .fs k=> .fs k
 |_,_, .fp a b c=> .fp a b c
 |_,_, .agg k=> .agg (nW k)
 |_,_, .fF k=> .fF (nW k)
 |_,_, .fn a b=> .fn (nW a) (nW b)
 |_,_, .qg a=> .qg (Cm a)
 |_,_, .any x=> .any x
theorem nW {F:Nat→Prop} {H:AH} {φ ψ:Nat→Nat} {h bs:PH}:∀{p:List PV} {x:List Value},cL ⟨F,H,ψ,bs⟩ p x→cL ⟨F,H,join h φ ψ,h++bs.map (tn h.length)⟩ (zk h.length p) x
 |_,_, .nil=> .nil
 |_,_, .cons a b=> .cons (Cm a) (nW b)
end
end P
namespace P
open Go Go.RowKit
variable{E:Env} {O:jD}
def cG (h:PH):List Nat→PH
 |[]=>h
 |b::L=>cG (h.set b .dead) L
theorem fU:∀(L:List Nat) (h:PH),(cG h L).length=h.length
 |[],h=>rfl
 |b::L,h=>by rw [cG,fU L];simp
theorem kv:∀(L:List Nat) (h:PH) (c:Nat),(cG h L)[c]?=if c∈L∧c<h.length then some .dead else h[c]?
 |[],h,c=>by simp [cG]
 |b::L,h,c=>by
  rw [cG,kv L];by_cases d:c<h.length
  ·by_cases a:c∈L
   ·simp [a,d]
   ·by_cases h2:c=b
    ·subst h2;simp [a,d]
    ·rw [if_neg (fun q=>a q.1),if_neg (fun q=>(aqY.1 q.1).elim h2 a),eT h2]
  ·rw [if_neg (by simp;omega),if_neg (by simp;omega),arn (by simp;omega),arn (by omega)]
theorem jt {h:PH} {L:List Nat} {b:Nat} (s:aU (cG h L) b):aU h b∧b∉L:=by
 have d:=aQ s;rw [fU]at d;have e:=kv L h b;by_cases a:b∈L
 ·rw [if_pos ⟨a,d⟩]at e
  rcases jo s with⟨es,c⟩|⟨z,cs,c,_⟩<;>rw [e]at c<;>cases c
 ·rw [if_neg (fun q=>a q.1)]at e
  exact ⟨(cR e).1 s,a⟩
theorem uH {F:Nat→Prop} {H:AH} {φ:Nat→Nat} {h:PH} (S:dO ⟨F,H,φ,h⟩) (L:List Nat):dO ⟨add F h φ (· ∈L),H,φ,cG h L⟩∧dH h.length (fun _=>False) ⟨F,H,φ,h⟩ ⟨add F h φ (· ∈L),H,φ,cG h L⟩:=by
 have same:∀b,b∉L→(cG h L)[b]?=h[b]?:=fun b f=>by rw [kv,if_neg (fun q=>f q.1)]
 have dead:∀b,b∈L→b<h.length→(cG h L)[b]?=some .dead:=fun b f g=>by rw [kv,if_pos ⟨f,g⟩]
 have T:dH h.length (fun _=>False) ⟨F,H,φ,h⟩ ⟨add F h φ (· ∈L),H,φ,cG h L⟩:={
  n0:=rfl
  nx:=aqK _
  fz:=fun x i=>⟨.inl i,rfl⟩
  fo:=fun x i hi n=>by
   rcases n with n|⟨b,_,s,rfl⟩
   ·exact n
   ·exact absurd ⟨b,trivial,s,rfl⟩ hi
  out:=fun _ _ _=>rfl
  loc:=fun b f=>.inr ⟨(jt f).1,rfl⟩
  len:=fun k=>by rw [fU];exact k
  le:=fun b _ g t v=>by
   by_cases f:b∈L
   ·intro z cs e;rw [dead b f g]at e;cases e
   ·exact (qU (same b f)).2 v
  uD:=fun b _ g t _ j=>by
   by_cases f:b∈L
   ·obtain ⟨z,cs,e,_⟩:=j;rw [dead b f g]at e;cases e
   ·exact ⟨(qT (same b f)).1 j,rfl⟩
  vY:=fun b _ g j=>by
   by_cases f:b∈L
   ·obtain ⟨es,e⟩:=j;rw [dead b f g]at e;cases e
   ·exact ⟨(fh (same b f)).1 j,rfl⟩}
 have o:∀b,aU h b→b∉L→¬ add F h φ (· ∈L) (φ b):=by
  rintro b s f (q|⟨l,w,m,e⟩)
  ·exact (S.old s).2 q
  ·exact f (S.inj _ _ m s e▸w)
 refine ⟨⟨S.wf,fun x i=>?_,fun b l s m e=>S.inj _ _ (jt s).1 (jt m).1 e,fun b z cs e p=>?_,fun b es e=>?_⟩,T⟩
 ·rcases i with i|⟨b,_,s,rfl⟩
  ·exact S.fz x i
  ·exact S.lt s
 ·obtain ⟨s,f⟩:=jt (bU e p)
  rw [show(cG h L)[b]?=_ from same b f]at e;obtain ⟨u,a,l,c,_⟩:=S.aR b z cs e p;exact ⟨u,a,l.step T,c,o b s f⟩
 ·obtain ⟨s,f⟩:=jt (ew e)
  rw [show(cG h L)[b]?=_ from same b f]at e;obtain ⟨r,a,l,c,d,_⟩:=S.yp b es e;exact ⟨r,a,l,c.step T,d,o b s f⟩
theorem Cn {F p:Nat→Prop} {H H':AH} {φ ψ:Nat→Nat} {h f:PH} {W:Nat→Prop} (S:dO ⟨F,H,φ,h⟩) (v:dO ⟨p,H',ψ,f⟩) (T:dH 0 qj ⟨F,H,φ,[]⟩ ⟨p,H',ψ,f⟩):
 dO ⟨p,H',join h φ ψ,h++f.map (tn h.length)⟩∧dH h.length W ⟨F,H,φ,h⟩ ⟨p,H',join h φ ψ,h++f.map (tn h.length)⟩:=by
 have M:∀{V:Nat→Prop} {x:Nat},¬ im ⟨F,H,φ,[]⟩ V x:=by
  rintro V x ⟨b,_,s,_⟩;have:=aQ s;simp at this
 have same:∀x,x<H.nx→H'.get x=H.get x:=fun x m=>T.out x m M
 have fo:∀x,x<H.nx→p x→F x:=fun x m B=>T.fo x m M B
 have lo:∀{b},b<h.length→(h++f.map (tn h.length))[b]?=h[b]?:=fun d=>aqT d
 have new:∀b,aU f b→H.nx≤ψ b:=fun b s=>by
  rcases T.loc b s with q|⟨q,_⟩
  ·exact q
  ·have:=aQ q;simp at this
 have split:∀b,aU (h++f.map (tn h.length)) b→(b<h.length∧aU h b∧join h φ ψ b=φ b)∨∃c,b=c+h.length∧aU f c∧join h φ ψ b=ψ c:=by
  intro b s;by_cases d:b<h.length
  ·exact .inl ⟨d,(cR (lo d)).1 s,wo d⟩
  ·refine .inr ⟨b- h.length,by omega,?_,?_⟩
   ·rw [show b=(b- h.length)+h.length by omega]at s
    exact Ip.1 s
   ·rw [show b=(b- h.length)+h.length by omega,rK,Nat.add_sub_cancel]
 have K:dH h.length W ⟨F,H,φ,h⟩ ⟨p,H',join h φ ψ,h++f.map (tn h.length)⟩:={
  n0:=T.n0
  nx:=T.nx
  fz:=T.fz
  fo:=fun x m _ B=>fo x m B
  out:=fun x m _=>same x m
  loc:=fun b d=>by
   rcases split b d with⟨r,h2,a⟩|⟨c,rfl,h2,a⟩
   ·exact .inr ⟨h2,a⟩
   ·left;show _≤join h φ ψ _;rw [a];exact new c h2
  len:=fun _=>by simp
  le:=fun b d _ t Q=>(qU (lo d)).2 Q
  uD:=fun b d _ t _ D=>⟨(qT (lo d)).1 D,wo d⟩
  vY:=fun b d _ D=>⟨(fh (lo d)).1 D,wo d⟩}
 refine ⟨⟨v.wf,v.fz,fun b J s L e=>?_,fun b z cs e C=>?_,fun b es e=>?_⟩,K⟩
 ·dsimp only at e
  rcases split b s with⟨r,h2,a⟩|⟨c,rfl,h2,a⟩
  ·rcases split J L with⟨R,o,n⟩|⟨N,rfl,o,n⟩
   ·rw [a,n]at e;exact S.inj _ _ h2 o e
   ·rw [a,n]at e
    have X:φ b<H.nx:=S.lt h2;have:=new N o;omega
  ·rcases split J L with⟨R,o,n⟩|⟨N,rfl,o,n⟩
   ·rw [a,n]at e
    have X:φ J<H.nx:=S.lt o;have:=new c h2;omega
   ·rw [a,n]at e
    rw [v.inj _ _ h2 o e]
 ·rcases split b (bU e C)with⟨r,h2,a⟩|⟨c,rfl,h2,a⟩
  ·have g:=e
   rw [show(h++f.map (tn h.length))[b]?=_ from lo r]at g;obtain ⟨y,l,k,j,i⟩:=S.aR b z cs g C;dsimp only;rw [a];exact ⟨y,(same _ (S.lt h2)).trans l,k.step K,T.n0▸j,fun q=>i (fo _ (S.lt h2) q)⟩
  ·have g:=e
   rw [show(h++f.map (tn h.length))[c+h.length]?=_ from py c]at g;obtain ⟨P,G,u⟩:=aqQ.1 g
   cases P with
   |cells Y U=>
    cases u;obtain ⟨y,l,k,j,i⟩:=v.aR c _ U G (by rintro rfl;exact C rfl);dsimp only;rw [a];exact ⟨y,l,nW k,j,i⟩
   |_=>cases u
 ·rcases split b (ew e)with⟨r,h2,a⟩|⟨c,rfl,h2,a⟩
  ·have g:=e
   rw [show(h++f.map (tn h.length))[b]?=_ from lo r]at g;obtain ⟨w,l,k,j,i,A⟩:=S.yp b es g;dsimp only;rw [a];exact ⟨w,(same _ (S.lt h2)).trans l,k,j.step K,T.n0▸i,fun q=>A (fo _ (S.lt h2) q)⟩
  ·have g:=e
   rw [show(h++f.map (tn h.length))[c+h.length]?=_ from py c]at g;obtain ⟨P,G,u⟩:=aqQ.1 g
   cases P with
   |map I=>
    cases u;obtain ⟨w,l,k,j,i,A⟩:=v.yp c I G;dsimp only;rw [a];refine ⟨w,l,?_,?_,i,A⟩
    ·rw [←k];simp [List.map_map,Function.comp_def]
    ·rw [Ck];exact nW j
   |_=>cases u
theorem mf.pure {f:Nat} {args d:List PV} {h:PH} (L:List Nat) {R:PV→PH→Prop} (k:mf E O f d [] R) (j:lA (· ∈L) id h [] args d):
 Ea E O f args h (· ∈[]) (fun r n=>∃a b,R a b∧r=sh h.length a∧n=cG h L++b.map (tn h.length)):=by
 intro F H φ i S u;obtain ⟨s,o⟩:=uH S L;have t:=(kU.none (· ∈L) id h).ok S;refine (k _ H _ i t (j.ok S u)).mono ?_;rintro x y ⟨a,b,v,w,m,l,p,T⟩;obtain ⟨g,e⟩:=Cn (W:=(· ∈[])) s p T;have c:=fU L h;rw [c]at g e;refine ⟨_,_,v,_,⟨a,b,m,rfl,rfl⟩,?_,g,(o.trans e (by exact aqK _) (fun _ q=>q.elim) (fun _ q=>q))⟩;have:=Cm (φ:=φ) (h:=cG h L) l;rw [c]at this;exact this
mutual
def pA:PV→Bool
 | .v _=>true
 | .agg cs=>kV cs
 | .fF cs=>kV cs
 | .qg _ p=>pA p
 |_=>false
def kV:List PV→Bool
 |[]=>true
 |p::ps=>pA p&&kV ps
end
mutual
theorem tp {C D:Cx}:∀{p:PV} {x:Value},pA p=true→RV C p x→RV D p x
 |_,_,_,.v x=>.v x
 |_,_,k,.agg r=>.agg (mT (by simpa [pA]using k) r)
 |_,_,k,.fF r=>.fF (mT (by simpa [pA]using k) r)
 |_,_,k,.qg r=>.qg (tp (by simpa [pA]using k) r)
theorem mT {C D:Cx}:∀{p:List PV} {x:List Value},kV p=true→cL C p x→cL D p x
 |_,_,_,.nil=>.nil
 |_,_,k,.cons a b=>by
  simp only [kV,aqJ]at k;exact .cons (tp k.1 a) (mT k.2 b)
end
theorem mf.flat {f:Nat} {args j:List PV} {h:PH} {R:PV→PH→Prop} (k:mf E O f j [] R) (q:lA qj id h [] args j) (v:∀r d,R r d→pA r=true):
 Ea E O f args h (· ∈[]) (fun r w=>(∃d,R r d)∧w=h):=by
 intro F H a n S A;have y:=(kU.none qj id h).ok S;refine (k _ H _ n y (q.ok S A)).mono ?_;rintro x m ⟨r,d,D,B,i,t,C,T⟩
 have p:∀{V:Nat→Prop} {x:Nat} {F:Nat→Prop} {a:Nat→Nat},¬ im ⟨F,H,a,[]⟩ V x:=by
  rintro V x F a ⟨b,_,s,_⟩;have:=aQ s;simp at this
 have same:∀x,x<H.nx→m.get x=H.get x:=fun x c=>T.out x c p
 have l:dH h.length (· ∈[]) ⟨F,H,a,h⟩ ⟨F,m,a,h⟩:={
  n0:=T.n0
  nx:=T.nx
  fz:=fun x c=>⟨c,same x (S.fz x c)⟩
  fo:=fun _ _ _ h=>h
  out:=fun x c _=>same x c
  loc:=fun b u=>.inr ⟨u,rfl⟩
  len:=id
  le:=fun _ _ _ _ h=>h
  uD:=fun _ _ _ _ _ h=>⟨h,rfl⟩
  vY:=fun _ _ _ h=>⟨h,rfl⟩}
 have e:∀{P:PB},h[h.length]?≠some P:=by intro P;simp
 refine ⟨r,h,F,a,⟨⟨d,i⟩,rfl⟩,tp (v r d i) t,S.of l rfl h.length (fun _ _=>⟨rfl,rfl⟩) (fun b _ s=>same _ (S.lt s)) (fun b _ s o=>?_) (fun z cs g=>absurd g e) (fun es g=>absurd g e),l⟩;exact absurd (aQ o) (Nat.lt_irrefl _)
def kz (A:Nat→Prop) (σ:Nat→Nat) (h bs:PH):Nat→PH→Prop
 |_,[]=>True
 |i,P::l=>qY A σ h bs h[σ i]? P∧kz A σ h bs (i+1) l
@[simp]theorem TT (A:Nat→Prop) (a:Nat→Nat) (h b:PH) (i:Nat):kz A a h b i []↔True:=Iff.rfl
@[simp]theorem RT (A:Nat→Prop) (a:Nat→Nat) (h b:PH) (i:Nat) (P:PB) (l:PH):kz A a h b i (P::l)↔qY A a h b h[a i]? P∧kz A a h b (i+1) l:=Iff.rfl
theorem kz.ok {A:Nat→Prop} {a:Nat→Nat} {h b:PH}:∀{l:PH} {i:Nat},kz A a h b i l→∀j P,l[j]?=some P→qY A a h b h[a (i+j)]? P
 |[],i,_,j,P,e=>by simp at e
 |Q::l,i,k,0,P,e=>by simp at e;subst e;exact k.1
 |Q::l,i,k,j+1,P,e=>by
  have:=kz.ok k.2 j P (by simpa using e);rwa [show i+1+j=i+(j+1) by omega]at this
theorem kU.at {A:Nat→Prop} {h bs:PH} (L:List Nat) (l:L.length=bs.length) (a:L.Nodup) (g:∀b∈L,¬ A b) (k:kz A (fun i=>L.getD i 0) h bs 0 bs):kU A (fun i=>L.getD i 0) h bs:=by
 refine ⟨fun i P e=>by simpa using k.ok i P e,fun i j hi c _ _ e=> ?_,fun i hi _=>g _ ?_⟩
 · rw [List.getD_eq_getElem?_getD,List.getD_eq_getElem?_getD,aqG (by omega),aqG (by omega)]at e
   have f:i<L.length:=by omega
   have d:j<L.length:=by omega
   simp only [Option.getD_some]at e
   have key:∀(L:List Nat),L.Nodup→∀(i j:Nat) (hi:i<L.length) (c:j<L.length),L[i]=L[j]→i=j:=by
    intro L
    induction L with
    |nil=>intro _ i j hi;simp at hi
    |cons x L ih=>
     intro a i j hi c e;rw [List.nodup_cons]at a
     cases i with
     |zero=>cases j with
      |zero=>rfl
      |succ j=>simp only [List.getElem_cons_zero,List.getElem_cons_succ]at e;exact absurd (e▸List.getElem_mem _) a.1
     |succ i=>cases j with
      |zero=>simp only [List.getElem_cons_zero,List.getElem_cons_succ]at e;exact absurd (e▸List.getElem_mem _) a.1
      |succ j=>
       simp only [List.getElem_cons_succ]at e;rw [ih a.2 i j (by simpa using hi) (by simpa using c) e]
   exact key L a i j f d e
 · rw [List.getD_eq_getElem?_getD,aqG (by omega)]
   exact List.getElem_mem _
@[simp]theorem OA (A:Nat→Prop) (b:Nat→Nat) (h d:PH) (z c:Nat) (ps a:List PV):qY A b h d (some (.cells z ps)) (.cells c a)↔a=[]∨(z=c∧lA A b h d ps a):=by
 unfold qY;constructor
 ·rintro (q|⟨f,e,k⟩)
  ·exact .inl q
  ·cases e;exact .inr ⟨rfl,k⟩
 ·rintro (q|⟨rfl,k⟩)
  ·exact .inl q
  ·exact .inr ⟨_,rfl,k⟩
@[simp]theorem RU (A:Nat→Prop) (a:Nat→Nat) (h b:PH) (o:Option PB):qY A a h b o .dead↔True:=Iff.rfl
@[simp]theorem RW (A:Nat→Prop) (a:Nat→Nat) (h b:PH) (o:Option PB) (z:Nat):qY A a h b o (.cells z [])↔True:=⟨fun _=>trivial,fun _=>.inl rfl⟩
def Ir:Option PB→Option PB→Prop
 |some (.cells _ cs),some (.cells _ c9)=>cs.length=c9.length
 |_,_=>False
@[simp]theorem akb (z b:Nat) (cs a:List PV):Ir (some (.cells z cs)) (some (.cells b a))↔cs.length=a.length:=Iff.rfl
theorem yA {h g:PH} {A:Nat→Prop} {f:Nat→Nat} (K:kU A f h g) {F:Nat→Prop} {H:AH} {φ:Nat→Nat} {C0:Cx} (k:C0.h.length=0) (T:dH 0 qj C0 ⟨F,H,φ,h⟩):dH 0 qj C0 ⟨add F h φ A,H,fun i=>φ (f i),g⟩:=by
 have j:C0.h=[]:=aq9.1 k;have no:∀{b:Nat},¬ aU C0.h b:=fun s=>by have:=aQ s;omega
 refine ⟨T.n0,T.nx,fun y c=>⟨.inl (T.fz y c).1,(T.fz y c).2⟩,fun y c hi d=>?_,T.out,fun b a=>?_,fun _=>aq8 _,fun b a=>absurd a (aq6 _),fun b a=>absurd a (aq6 _),fun b a=>absurd a (aq6 _)⟩
 ·rcases d with d|⟨b,_,s,e⟩
  ·exact T.fo y c hi d
  ·rcases T.loc b s with q|⟨q,_⟩
   ·dsimp only at q;omega
   ·exact absurd q no
 ·rcases T.loc _ (K.aU a)with q|⟨q,_⟩
  ·exact .inl q
  ·exact absurd q no
theorem Is {r b:PV} {h bs:PH} (A:Nat→Prop) (a:Nat→Nat) (K:kU A a h bs) (V:Vg A a h bs r b):uG 0 r h b bs:=by
 intro F H c x S R;exact ⟨_,_,K.ok S,V F H c x S R,fun e d T=>yA K d T⟩
theorem It {n:Nat} {r u:PV} {h bs:PH} (i:Nat→Nat) (K:kU (fun _=>False) i h bs) (V:Vg (fun _=>False) i h bs r u) (A:n≤bs.length) (k:∀b,b<n→i b=b∧(du bs b=none∨du bs b=du h b)∧(cQ bs b→cQ h b)) (h2:∀b,n≤b→b<bs.length→n≤i b) (B:∀b,b<n→∀t,Le h b t→Le bs b t):uG n r h u bs:=by
 intro F H w x S R;refine ⟨_,_,K.ok S,V F H w x S R,fun G D T=>?_⟩
 have s:∀{h:PH} {b t:Nat},At h b t↔du h b=some t:=by
  intro h b t;constructor
  ·rintro ⟨z,cs,e,rfl⟩;unfold du;rw [e]
  ·intro e;exact (mR e).2 rfl
 refine ⟨T.n0,T.nx,fun y j=>⟨.inl (T.fz y j).1,(T.fz y j).2⟩,fun y j hi o=>?_,T.out,fun b a=>?_,fun _=>A,fun b a f t m=>B b a t (T.le b a f t m),fun b a f t m c=>?_,fun b a f c=>?_⟩
 ·rcases o with o|⟨b,q,_⟩
  ·exact T.fo y j hi o
  ·exact q.elim
 ·rcases T.loc _ (K.aU a)with q|⟨q,e⟩
  ·exact .inl q
  ·by_cases v:b<n
   ·rw [(k b v).1]at q e
    exact .inr ⟨q,by dsimp only;rw [(k b v).1];exact e⟩
   ·have:=h2 b (by omega) (aQ a)
    have:=aQ q;omega
 ·obtain ⟨p,g,_⟩:=k b a
  rw [s]at c
  have e:du h b=some t:=by
   rcases g with g|g
   ·rw [g]at c;cases c
   ·rw [←g];exact c
  obtain ⟨l,d⟩:=T.uD b a f t m (s.2 e);exact ⟨l,by dsimp only at d⊢;rw [p];exact d⟩
 ·obtain ⟨p,_,C⟩:=k b a
  obtain ⟨l,d⟩:=T.vY b a f (C c);exact ⟨l,by dsimp only at d⊢;rw [p];exact d⟩
def Co (h bs:PH) (b:Nat):Prop:=bs[b]?=some .dead∨Ir h[b]? bs[b]?
theorem Iu {n:Nat} {r m:PV} {h bs:PH} (L:List Nat) (D:L.length+n=bs.length) (a:L.Nodup) (k:∀b∈L,n≤b) (hs:∀b,b<n→Co h bs b) (K:kz (fun _=>False) (fun i=>if i<n then i else L.getD (i- n) 0) h bs 0 bs) (V:Vg (fun _=>False) (fun i=>if i<n then i else L.getD (i- n) 0) h bs r m):uG n r h m bs:=by
 have getD:∀i,n≤i→i<bs.length→L[i- n]?=some (L.getD (i- n) 0):=fun i d h2=>by
  rw [List.getD_eq_getElem?_getD,aqG (by omega)];rfl
 have y:kU (fun _=>False) (fun i=>if i<n then i else L.getD (i- n) 0) h bs:=by
  refine ⟨fun i P e=>by simpa using K.ok i P e,fun i j hi o _ _ e=> ?_,fun _ _ _ q=>q⟩;by_cases d:i<n
  · rw [if_pos d]at e
    by_cases h2:j<n
    · rwa [if_pos h2]at e
    · rw [if_neg h2]at e
      have:=k _ (aqL (getD j (by omega) o));omega
  · rw [if_neg d]at e
    by_cases h2:j<n
    · rw [if_pos h2]at e
      have:=k _ (aqL (getD i (by omega) hi));omega
    · rw [if_neg h2]at e
      have p:=getD i (by omega) hi;have w:=getD j (by omega) o;rw [e]at p
      have key:∀(L:List Nat),L.Nodup→∀(i j b:Nat),L[i]?=some b→L[j]?=some b→i=j:=by
       intro L
       induction L with
       |nil=>intro _ i j b e;simp at e
       |cons x L ih=>
        intro a i j b e g;rw [List.nodup_cons]at a
        cases i with
        |zero=>cases j with
         |zero=>rfl
         |succ j=>simp at e g;subst e;exact absurd (aqL g) a.1
        |succ i=>cases j with
         |zero=>simp at e g;subst g;exact absurd (aqL e) a.1
         |succ j=>rw [ih a.2 i j b (by simpa using e) (by simpa using g)]
      have:=key L a _ _ _ p w;omega
 refine It _ y V (by omega) (fun b c=>⟨if_pos c, ?_, ?_⟩) (fun b d h2=> ?_) (fun b c t s=> ?_)
 · rcases hs b c with q|q
   · left;unfold du;rw [q]
   · right
     unfold Ir at q;split at q
     · rename_i z cs C F l f
       unfold du;rw [l,f];simp only [q]
     · exact q.elim
 · rintro ⟨es,e⟩
   rcases hs b c with q|q
   · rw [q]at e;cases e
   · rw [e]at q;unfold Ir at q;split at q
     · rename_i f;cases f
     · exact q.elim
 · rw [if_neg (by omega)]
   exact k _ (aqL (getD b d h2))
 · intro z cs e
   rcases hs b c with q|q
   · rw [q]at e;cases e
   · rw [e]at q
     unfold Ir at q;split at q
     · rename_i B v A u l f
       cases f;have:=s _ _ l;omega
     · exact q.elim
theorem dD {r a:PV} {h:PH} (V:Vg qj id h [] r a):uG 0 r h a []:=Is _ _ (kU.none _ _ _) V
def PF.uI:List (Nat×PV)→PF
 |[]=>⟨fun _=>.any⟩
 |(t,p)::l=>⟨fun a=>if a=t then p else(PF.uI l).g a⟩
@[simp]theorem aa5 (a:Nat):(PF.uI []).get a= .any:=rfl
@[simp]theorem yB (t a:Nat) (p:PV) (l:List (Nat×PV)):(PF.uI ((t,p)::l)).get a=if a=t then p else(PF.uI l).get a:=rfl
def pB (A:Nat→Prop) (σ:Nat→Nat) (h bs:PH) (fr:PF):List (Nat×PV)→Prop
 |[]=>True
 |(t,p)::l=>Vg A σ h bs (fr.get t) p∧pB A σ h bs fr l
@[simp]theorem XR (A:Nat→Prop) (a:Nat→Nat) (h c:PH) (b:PF):pB A a h c b []↔True:=Iff.rfl
@[simp]theorem TU (A:Nat→Prop) (a:Nat→Nat) (h c:PH) (b:PF) (t:Nat) (p:PV) (l:List (Nat×PV)):pB A a h c b ((t,p)::l)↔Vg A a h c (b.get t) p∧pB A a h c b l:=Iff.rfl
theorem pB.ok {A:Nat→Prop} {b:Nat→Nat} {h d:PH} {c:PF}:∀{l:List (Nat×PV)},pB A b h d c l→∀t,Vg A b h d (c.get t) ((PF.uI l).get t)
 |[],_,t=>RN _
 |(a,p)::l,k,t=>by
  rw [yB];split
  ·rename_i e;subst e;exact k.1
  ·exact pB.ok k.2 t
theorem Iv {b:PF} {h h2:PH} (A:Nat→Prop) (a:Nat→Nat) (l:List (Nat×PV)) (K:kU A a h h2) (V:pB A a h h2 b l):Gh 0 b h (PF.uI l) h2:=by
 intro F H c e S R;exact ⟨_,_,K.ok S,fun t=>V.ok t F H c _ S (R t),fun f d T=>yA K d T⟩
end P
namespace P
open Go Go.RowKit
mutual
def ql:PV→Bool
 | .v _=>true
 | .fs _ _=>true
 | .fp _=>true
 | .agg cs=>dE cs
 | .fF cs=>dE cs
 | .fn _ a b=>dE a&&dE b
 | .qg _ p=>ql p
 |_=>false
def dE:List PV→Bool
 |[]=>true
 |p::ps=>ql p&&dE ps
end
attribute [simp] sh zk pA kV
@[simp]theorem akc (x:Value):ql (.v x)=true↔True:=⟨fun _=>trivial,fun _=>rfl⟩
@[simp]theorem agW (sz:Nat) (rows:List (List PV)):ql (.fs sz rows)=true↔True:=⟨fun _=>trivial,fun _=>rfl⟩
@[simp]theorem aa6 (cs:List PV):ql (.agg cs)=true↔dE cs=true:=by rw [ql]
@[simp]theorem aa7 (cs:List PV):ql (.fF cs)=true↔dE cs=true:=by rw [ql]
@[simp]theorem aa8 (t:Nat) (p:PV):ql (.qg t p)=true↔ql p=true:=by rw [ql]
@[simp]theorem agX:dE []=true↔True:=⟨fun _=>trivial,fun _=>rfl⟩
@[simp]theorem qm (p:PV) (ps:List PV):dE (p::ps)=true↔ql p=true∧dE ps=true:=by rw [dE,aqJ]
theorem mg:∀l:List PV,dE l=l.all ql
 |[]=>rfl
 |p::l=>by simp [dE,mg l]
theorem aF (a b:List PV):dE (a++b)=true↔dE a=true∧dE b=true:=by simp [mg]
theorem yC {p:PV} (a:ql p=true):∀{l:List PV} {k:Nat},dE l=true→dE (l.set k p)=true
 |[],k,_=>rfl
 |q::l,0,h=>by rw [qm]at h;exact (qm _ _).2 ⟨a,h.2⟩
 |q::l,k+1,h=>by rw [qm]at h;exact (qm _ _).2 ⟨h.1,yC a h.2⟩
attribute [simp] yC
mutual
theorem Av (k:Nat):∀{p:PV},ql p=true→sh k p=p
 | .v _,_=>rfl
 | .fs _ _,_=>rfl
 | .fp _,_=>rfl
 | .agg cs,h=>by rw [sh,iM k (by simpa using h)]
 | .fF cs,h=>by rw [sh,iM k (by simpa using h)]
 | .fn f a b,h=>by
  simp only [ql,aqJ]at h;rw [sh,iM k h.1,iM k h.2]
 | .qg t p,h=>by rw [sh,Av k (by simpa using h)]
theorem iM (k:Nat):∀{l:List PV},dE l=true→zk k l=l
 |[],_=>rfl
 |p::l,h=>by
  simp only [dE,aqJ]at h;rw [zk,Av k h.1,iM k h.2]
end
section
variable{A:Nat→Prop} {σ:Nat→Nat} {h bs:PH}
mutual
theorem tq:∀{p:PV},ql p=true→Vg A σ h bs p p
 | .v _,_=>(agU _).2 trivial
 | .fs _ _,_=>(XM _ _).2 trivial
 | .fp _,_=>(XO _).2 trivial
 | .agg cs,h=>Im (fj (by simpa using h))
 | .fF cs,h=>Au (fj (by simpa using h))
 | .fn f a b,h=>by
  simp only [ql,aqJ]at h;exact XP (fj h.1) (fj h.2)
 | .qg t p,h=>RP (tq (by simpa using h))
theorem fj:∀{l:List PV},dE l=true→lA A σ h bs l l
 |[],_=>trivial
 |p::l,h=>by
  simp only [dE,aqJ]at h;exact ⟨tq h.1,fj h.2⟩
end
@[simp]theorem XS {l:List PV} (k:dE l=true):lA A σ h bs l l↔True:=⟨fun _=>trivial,fun _=>fj k⟩
@[simp]theorem aa9 {p:PV} (k:ql p=true):Vg A σ h bs p p↔True:=⟨fun _=>trivial,fun _=>tq k⟩
theorem Cp {b i:Nat} (k:Ir h[b]? bs[i]?):∃T,du h b=some T∧du bs i=some T:=by
 unfold Ir at k;split at k
 ·rename_i z cs d e c a
  exact ⟨cs.length,by unfold du;rw [c],by unfold du;rw [a,k]⟩
 ·exact k.elim
@[simp]theorem Iw {b i sz o n c:Nat} (hs:σ i=b) (k:Ir h[b]? bs[i]?):Vg A σ h bs (.sl sz b o n c) (.sl sz i o n c)↔True:=⟨fun _=>trivial,fun _=>by
 obtain ⟨T,a,h2⟩:=Cp k
 exact XQ a h2 hs⟩
@[simp]theorem aba {b i o t:Nat} (hs:σ i=b) (k:Ir h[b]? bs[i]?):Vg A σ h bs (.ref b o t) (.ref i o t)↔True:=⟨fun _=>trivial,fun _=>by
 obtain ⟨T,a,h2⟩:=Cp k
 exact RQ a h2 hs⟩
def isVoid (bs:PH) (i:Nat):Bool:=match bs[i]? with
 |some (.cells _ [])=>true
 |_=>false
@[simp]theorem XT {sz i:Nat} (k:isVoid bs i=true):Vg A σ h bs (.v (.slice none 0 0)) (.sl sz i 0 0 0)↔True:=⟨fun _=>trivial,fun _=>by
 unfold isVoid at k;split at k
 ·rename_i z e;exact Ml e
 ·cases k⟩
@[simp]theorem abb (ps a:List PV) (k:lA A σ h bs ps a):Vg A σ h bs (.agg ps) (.agg a)↔True:=⟨fun _=>trivial,fun _=>Im k⟩
@[simp]theorem abc (ps a:List PV) (k:lA A σ h bs ps a):Vg A σ h bs (.fF ps) (.fF a)↔True:=⟨fun _=>trivial,fun _=>Au k⟩
def rL:PV→Bool
 | .v _=>true
 | .fs _ _=>true
 |_=>false
theorem RX {p:PV} (k:rL p=true):Vz A h p p:=by
 cases p<;>first
  |exact RM _
  |exact Ij _ _
  |cases k
theorem mU:∀{l:List PV},l.all rL=true→Eb A h l l
 |[],_=>trivial
 |p::l,k=>by
  simp only [List.all_cons,aqJ]at k;exact ⟨RX k.1,mU k.2⟩
theorem Mm {p:PV} (k:rL p=true):ql p=true:=by cases p<;>first|rfl|cases k
theorem ts {l:List PV} (k:l.all rL=true):dE l=true:=by
 rw [mg,aqW]at*;exact fun p a=>Mm (k p a)
end
section
variable{E:Env} {O:jD} {n:Nat} {Q:Ex→PF→PH→Prop} {ks:List Kp} {fr:PF} {h:PH} {m:Mp} {l:List AO} {d:Option Nat}
def Fz (E:Env) (O:jD) (f:Nat) (args:List PV) (r:PV):Prop:=mf E O f args [] (fun r' h'=>r'=r∧h'=[]∧ql r=true)
def Fo (E:Env) (O:jD) (f:Nat) (args:List PV) (sz k:Nat) (cs:List PV):Prop:=mf E O f args [] (fun r' h'=>r'= .sl sz 0 0 k k∧h'=[.cells sz cs]∧dE cs=true∧cs.length=k*sz)
def Mn (res:List RS) (r:PV):Ex→PF→PH→Prop
 | .exit _,_,_=>False
 |_,fr,h=>(wj.all fr h res).map px=some r
@[simp]theorem agY (res:List RS) (r:PV):Mn res r .normal fr h=((wj.all fr h res).map px=some r):=rfl
@[simp]theorem agZ (res:List RS) (r:PV):Mn res r .ret fr h=((wj.all fr h res).map px=some r):=rfl
theorem PK.XU {Q i:Ex→PF→PH→Prop} (j:∀ex fr h,Q ex fr h→i ex fr h) {f:Cf} {fr:PF} {h:PH} (k:PK E O n Q f fr h):PK E O n i f fr h:=by
 induction k with
 |skip _ ih=>exact .skip ih
 |ret _ ih=>exact .ret ih
 |exit _ ih=>exact .exit ih
 |bI _ ih=>exact .bI ih
 |bJ _ ih=>exact .bJ ih
 |seq _ ih=>exact .seq ih
 |block _ ih=>exact .block ih
 |cond e _ ih=>exact .cond e ih
 |loop I k _ g o ih=>exact .loop I k ih g o
 |Mb _ ih=>exact .Mb ih
 |yy e _ ih=>exact .yy e ih
 |Ci _ ih=>exact .Ci ih
 |Cj _ ih=>exact .Cj ih
 |op e _ ih=>exact .op e ih
 |XC e w _ ih=>exact .XC e w ih
 |Ic e w _ ih=>exact .Ic e w ih
 |call c _ ih=>exact .call c ih
 |callv e c _ ih=>exact .callv e c ih
 |Mc q=>exact .Mc (j _ _ _ q)
 |dns _ ih=>exact .dns ih
 |dnb _ ih=>exact .dnb ih
 |XD a b c=>exact .XD a b c
 |des _ ih=>exact .des ih
 |Ie _ ih=>exact .Ie ih
 |Mg e _ ih=>exact .Mg e ih
 |del _ ih=>exact .del ih
 |Mh _ ih=>exact .Mh ih
theorem Fz.body {f:Nat} {F:AF} {args:List PV} {r:PV} (o:O f=none) (s:E f=some F) (p:args.length=F.np) (c:ql r=true) (k:PK E O 0 (Mn F.res r) (.code F.body []) (PF.of args) []):Fz E O f args r:=by
 refine mf.body o s p (PK.XU ?_ k);intro ex fr h q
 have:∀ex,Mn F.res r ex fr h→(∀i,ex≠ .exit i)→∃a,wj.all fr h F.res=some a∧∃b h2,uG 0 (px a) h b h2∧b=r∧h2=[]∧ql r=true:=by
  intro ex q j
  have g:(wj.all fr h F.res).map px=some r:=by
   cases ex with
   |exit i=>exact absurd rfl (j i)
   |normal=>exact q
   |ret=>exact q
  obtain ⟨a,e,t⟩:=aqQ.1 g;exact ⟨a,e,r,[],by rw [t];exact dD (tq c),rfl,rfl,c⟩
 cases ex with
 |exit i=>exact q
 |normal=>exact this _ q (fun i=>by simp)
 |ret=>exact this _ q (fun i=>by simp)
def Cq (h:PH) (sz k:Nat) (cs:List PV):PV→Prop
 | .sl gj b o n' c=>gj=sz∧o=0∧n'=k∧c=k∧h[b]?=some (.cells sz cs)
 | .v (.slice none 0 0)=>k=0∧cs=[]
 |_=>False
def XV (res:List RS) (sz k:Nat) (cs:List PV):Ex→PF→PH→Prop
 | .exit _,_,_=>False
 |_,fr,h=>∃vs,wj.all fr h res=some vs∧Cq h sz k cs (px vs)
@[simp]theorem ag0 (res:List RS) (sz k:Nat) (cs:List PV):XV res sz k cs .normal fr h=∃vs,wj.all fr h res=some vs∧Cq h sz k cs (px vs):=rfl
@[simp]theorem ag1 (res:List RS) (sz k:Nat) (cs:List PV):XV res sz k cs .ret fr h=∃vs,wj.all fr h res=some vs∧Cq h sz k cs (px vs):=rfl
theorem Fz.call {f:Nat} {args b:List PV} {r:PV} (k:Fz E O f b r) (L:List Nat) (e:lA (· ∈L) id h [] args b):Ea E O f args h (· ∈[]) (fun r' a=>r'=r∧a=cG h L):=
 (mf.pure L k e).mono (by
  rintro r' a ⟨g,i,⟨rfl,rfl,c⟩,rfl,rfl⟩
  exact ⟨Av _ c,by simp⟩)
theorem bP {f:Nat} {«as»:List X} {args:List PV} {r:PV} (k:Fz E O f args r) (b:«as».map (fG fr)=args) (a:dE args=true) (next:PK E O n Q (.ops (m.up [] (fr.aO d r) h) l ks) (fr.aO d r) h):PK E O n Q (.ops m (⟨none,d,.call f «as»⟩::l) ks) fr h:=
 ku (W:=[]) b ((k.call [] (fj a)).mono (by rintro c e ⟨rfl,rfl⟩;exact next))
theorem qn {f:Nat} {«as»:List X} {args:List PV} {r:PV} (L:List Nat) (k:Fz E O f args r) (a:lA (· ∈L) id h [] («as».map (fG fr)) args) (next:PK E O n Q (.ops (m.up [] (fr.aO d r) (cG h L)) l ks) (fr.aO d r) (cG h L)):PK E O n Q (.ops m (⟨none,d,.call f «as»⟩::l) ks) fr h:=
 ku (W:=[]) rfl ((k.call L a).mono (by rintro b c ⟨rfl,rfl⟩;exact next))
theorem RY {f:Nat} {«as»:List X} {args:List PV} {r:PV} (k:Fz E O f args r) (b:lA qj id h [] («as».map (fG fr)) args) (c:pA r=true) (next:PK E O n Q (.ops (m.up [] (fr.aO d r) h) l ks) (fr.aO d r) h):PK E O n Q (.ops m (⟨none,d,.call f «as»⟩::l) ks) fr h:=
 ku (W:=[]) rfl ((mf.flat k b (by rintro a g ⟨rfl,_⟩;exact c)).mono (by rintro a e ⟨⟨_,rfl,_⟩,rfl⟩;exact next))
theorem Fo.call {f:Nat} {args b:List PV} {sz k:Nat} {cs:List PV} (q:Fo E O f b sz k cs) (L:List Nat) (e:lA (· ∈L) id h [] args b):Ea E O f args h (· ∈[]) (fun r' a=>r'= .sl sz h.length 0 k k∧a=cG h L++[.cells sz cs]):=
 (mf.pure L q e).mono (by
  rintro r' a ⟨g,i,⟨rfl,rfl,c,_⟩,rfl,rfl⟩
  exact ⟨by simp,by simp [tn,iM _ c]⟩)
theorem XW {f:Nat} {«as»:List X} {args:List PV} {sz k:Nat} {cs:List PV} (q:Fo E O f args sz k cs) (b:«as».map (fG fr)=args) (a:dE args=true) (next:PK E O n Q (.ops (m.up [] (fr.aO d (.sl sz h.length 0 k k)) (h++[.cells sz cs])) l ks) (fr.aO d (.sl sz h.length 0 k k)) (h++[.cells sz cs])):PK E O n Q (.ops m (⟨none,d,.call f «as»⟩::l) ks) fr h:=
 ku (W:=[]) b ((q.call [] (fj a)).mono (by rintro c e ⟨rfl,rfl⟩;exact next))
end
abbrev pi (n:Int):PV:=.v (.int .i64 n)
abbrev pb (b:Bool):PV:=.v (.bool b)
abbrev ps (s:ByteArray):PV:=.v (.string s)
abbrev iy:PV:=.v (.slice none 0 0)
def ir (l:List Int):List (List PV):=l.map fun n=>[pi n]
@[simp]theorem TV (l:List Int):(ir l).length=l.length:=by simp [ir]
@[simp]theorem Mo (l:List Int):(ir l).flatten=l.map pi:=by
 induction l with
 |nil=>rfl
 |cons a l ih=>simp_all [ir]
abbrev lG (l:List Int):PV:=.fs 1 (ir l)
theorem pC {A:Nat→Prop} {h:PH} {sz b n:Nat} {rows:List (List PV)} (j:A b) (f:h[b]?=some (.cells sz rows.flatten)) (g:0<sz) (c:rows.length=n) (a:∀r∈rows,r.length=sz) (d:Eb A h rows.flatten rows.flatten):Vz A h (.sl sz b 0 n n) (.fs sz rows):=by
 have e:rows.flatten.length=n*sz:=by
  rw [←c];clear f d c
  induction rows with
  |nil=>simp
  |cons r rows ih=>
   have:=a r (by simp);rw [List.flatten_cons,aqP,ih (fun q i=>a q (by simp [i])),List.length_cons,Nat.succ_mul];omega
 exact Oy j f (by rw [Nat.zero_add,e]) g (aqK _) (aqK _) c a (by rw [Nat.zero_mul,List.drop_zero,←e,List.take_length];exact d)
theorem RZ {A:Nat→Prop} {h:PH} {b:Nat} {l:List Int} (c:A b) (a:h[b]?=some (.cells 1 (l.map pi))):Vz A h (.sl 1 b 0 l.length l.length) (lG l):=
 pC c (by rw [Mo];exact a) Nat.one_pos (by simp) (by simp [ir]) (mU (by simp [rL]))
attribute [simp] XA pck HT RB D9 Ma yx we Ov LN
attribute [simp] isVoid Cq
end P
namespace P
open Go Go.RowKit
variable{E:Env} {O:jD}
mutual
def zl (τ:Nat→Nat):PV→PV
 | .ref b o t=>.ref (τ b) o t
 | .sl sz b o n c=>.sl sz (τ b) o n c
 | .mp b=>.mp (τ b)
 | .agg cs=>.agg (jW τ cs)
 | .fF cs=>.fF (jW τ cs)
 | .fn f a b=>.fn f (jW τ a) (jW τ b)
 | .qg t p=>.qg t (zl τ p)
 | .v x=>.v x
 | .fs sz rows=>.fs sz rows
 | .fp cells=>.fp cells
 | .any=>.any
def jW (τ:Nat→Nat):List PV→List PV
 |[]=>[]
 |p::ps=>zl τ p::jW τ ps
end
attribute [simp] zl jW
mutual
theorem Cr (c:Nat→Nat):∀{p:PV},ql p=true→zl c p=p
 | .v _,_=>rfl
 | .fs _ _,_=>rfl
 | .fp _,_=>rfl
 | .agg cs,h=>by rw [zl,gZ c (by simpa using h)]
 | .fF cs,h=>by rw [zl,gZ c (by simpa using h)]
 | .fn f a b,h=>by
  simp only [ql,aqJ]at h;rw [zl,gZ c h.1,gZ c h.2]
 | .qg t p,h=>by rw [zl,Cr c (by simpa using h)]
theorem gZ (a:Nat→Nat):∀{l:List PV},dE l=true→jW a l=l
 |[],_=>rfl
 |p::l,h=>by
  simp only [dE,aqJ]at h;rw [jW,Cr a h.1,gZ a h.2]
end
@[simp]theorem TW {a:Nat→Nat} {l:List PV} (h:dE l=true):jW a l=l:=gZ a h
def ue (τ:Nat→Nat):PB→PB
 | .cells z cs=>.cells z (jW τ cs)
 | .map es=>.map (es.map fun e=>(e.1,zl τ e.2))
 | .dead=>.dead
theorem hU (a:Nat→Nat):∀l:List PV,(jW a l).length=l.length
 |[]=>rfl
 |_::l=>by simp [jW,hU a l]
theorem yD (a:Nat→Nat):∀es:List (Value×PV),(es.map fun e=>(e.1,zl a e.2)).map (·.2)=jW a (es.map (·.2))
 |[]=>rfl
 |_::l=>by simp only [List.map_cons,jW,yD a l]
structure Ec (τ:Nat→Nat) (bs h:PH):Prop where
 get:∀i,i<bs.length→h[τ i]?=(bs[i]?).map (ue τ)
section
variable{τ:Nat→Nat} {bs h:PH}
theorem Ec.at (M:Ec τ bs h) {i t:Nat} (hi:i<bs.length):At h (τ i) t↔At bs i t:=by
 unfold At;rw [M.get i hi];constructor
 ·rintro ⟨z,cs,e,rfl⟩
  obtain ⟨P,a,e⟩:=aqQ.1 e
  cases P with
  |cells c b=>cases e;exact ⟨_,b,a,(hU _ _).symm⟩
  |_=>cases e
 ·rintro ⟨z,cs,e,rfl⟩
  exact ⟨z,jW τ cs,by rw [e];rfl,hU _ _⟩
theorem Ec.le (M:Ec τ bs h) {i t:Nat} (hi:i<bs.length):Le h (τ i) t↔Le bs i t:=by
 unfold Le;rw [M.get i hi];constructor
 ·intro k z cs e
  have:=k z (jW τ cs) (by rw [e];rfl);rwa [hU]at this
 ·intro k z cs e
  obtain ⟨P,a,e⟩:=aqQ.1 e
  cases P with
  |cells c b=>cases e;rw [hU];exact k _ b a
  |_=>cases e
theorem Ec.cQ (M:Ec τ bs h) {i:Nat} (hi:i<bs.length):P.cQ h (τ i)↔P.cQ bs i:=by
 unfold P.cQ;rw [M.get i hi];constructor
 ·rintro ⟨es,e⟩
  obtain ⟨P,b,e⟩:=aqQ.1 e
  cases P with
  |map a=>exact ⟨a,b⟩
  |_=>cases e
 ·rintro ⟨es,e⟩
  exact ⟨_,by rw [e];rfl⟩
theorem Ec.aU (M:Ec τ bs h) {i:Nat} (hi:i<bs.length):P.aU h (τ i)↔P.aU bs i:=by
 unfold P.aU;simp only [M.cQ hi,M.at hi]
theorem Ec.lt (M:Ec τ bs h) {i:Nat} (hi:i<bs.length):τ i<h.length:=by
 have:=M.get i hi;rw [aqG hi]at this;exact (aqM.1 this).1
mutual
theorem Aw (M:Ec τ bs h) {F:Nat→Prop} {H:AH} {j ψ:Nat→Nat} (e:∀i,i<bs.length→j (τ i)=ψ i):∀{p:PV} {x:Value},RV ⟨F,H,ψ,bs⟩ p x→RV ⟨F,H,j,h⟩ (zl τ p) x
 |_,_, .v x=> .v x
 |_,_, .ref a d g f=> .ref a (M.lt d) ((M.le d).2 g) fun k=>by
  have:=f ((M.at d).1 k);dsimp only at this⊢;rwa [e _ d]
 |_,_, .sl a d g f=> .sl a (M.lt d) ((M.le d).2 g) fun k=>by
  have:=f ((M.at d).1 k);dsimp only at this⊢;rwa [e _ d]
 |_,_, .mp a d f=> .mp a (M.lt d) fun k=>by
  have:=f ((M.cQ d).1 k);dsimp only at this⊢;rwa [e _ d]
 |_,_, .fs k=> .fs k
 |_,_, .fp a b c=> .fp a b c
 |_,_, .agg k=> .agg (kW M e k)
 |_,_, .fF k=> .fF (kW M e k)
 |_,_, .fn a b=> .fn (kW M e a) (kW M e b)
 |_,_, .qg a=> .qg (Aw M e a)
 |_,_, .any x=> .any x
theorem kW (M:Ec τ bs h) {F:Nat→Prop} {H:AH} {c ψ:Nat→Nat} (d:∀i,i<bs.length→c (τ i)=ψ i):∀{p:List PV} {x:List Value},cL ⟨F,H,ψ,bs⟩ p x→cL ⟨F,H,c,h⟩ (jW τ p) x
 |_,_, .nil=> .nil
 |_,_, .cons a b=> .cons (Aw M d a) (kW M d b)
end
end
def gK:PH→List Nat→PH→PH
 |h,[],_=>h
 |h,_::_,[]=>h
 |h,b::L,P::Ps=>gK (h.set b P) L Ps
theorem ey:∀(L:List Nat) (a h:PH),(gK h L a).length=h.length
 |[],_,h=>by simp [gK]
 |_::_,[],h=>by simp [gK]
 |b::L,P::a,h=>by rw [gK,ey L a];simp
theorem nX:∀(L:List Nat) (a h:PH) (c:Nat),c∉L→(gK h L a)[c]?=h[c]?
 |[],_,h,c,_=>by simp [gK]
 |_::_,[],h,c,_=>by simp [gK]
 |b::L,P::a,h,c,d=>by
  rw [gK,nX L a _ c (fun q=>d (List.mem_cons_of_mem _ q)),eT (fun q=>d (aqY.2 (.inl q)))]
theorem uJ:∀(L:List Nat) (a h:PH),L.Nodup→L.length=a.length→(∀b∈L,b<h.length)→∀(i b:Nat),L[i]?=some b→(gK h L a)[b]?=a[i]?
 |[],_,h,_,_,_,i,b,e=>by simp at e
 |_::_,[],h,_,f,_,i,b,e=>by simp at f
 |c::L,P::a,h,d,f,g,i,b,e=>by
  rw [List.nodup_cons]at d;rw [gK]
  cases i with
  |zero=>
   simp only [aqF,aqH]at e;subst e;rw [nX L a _ c d.1,eG (g c (by simp))];rfl
  |succ i=>
   have:=uJ L a (h.set c P) d.2 (by simpa using f) (fun q j=>by simpa using g q (by simp [j])) i b (by simpa using e);rw [this];rfl
def lC (L:List Nat) (m:Nat):Nat→Nat:=fun i=>if i<L.length then L.getD i 0 else m+(i- L.length)
def merge (h:PH) (L:List Nat) (hs:PH):PH:=gK h L ((hs.take L.length).map (ue (lC L h.length)))++(hs.drop L.length).map (ue (lC L h.length))
theorem Ed {h hs:PH} {L:List Nat} (e:L.Nodup) (d:∀b∈L,b<h.length) (g:L.length≤hs.length):Ec (lC L h.length) hs (merge h L hs):=by
 refine ⟨fun i hi=>?_⟩;unfold merge;by_cases a:i<L.length
 ·have c:L[i]?=some (lC L h.length i):=by
   unfold lC;rw [if_pos a,List.getD_eq_getElem?_getD,aqG a];rfl
  have f:=d _ (aqL c);rw [aqT (by rw [ey];exact f),uJ L _ h e (by simp;omega) d i _ c,ara,arf,if_pos a]
 ·have c:lC L h.length i=h.length+(i- L.length):=by unfold lC;rw [if_neg a]
  rw [c,aqX (by rw [ey];omega),ey,show h.length+(i- L.length)- h.length=i- L.length by omega,ara,arl,show L.length+(i- L.length)=i by omega]
theorem eA {h hs:PH} {L:List Nat} {b:Nat} (a:b<h.length) (c:b∉L):(merge h L hs)[b]?=h[b]?:=by
 unfold merge;rw [aqT (by rw [ey];exact a),nX _ _ _ _ c]
def OB (L:List Nat) (m:Nat) (φ ψ:Nat→Nat):Nat→Nat:=fun b=>match L.idxOf? b with
 |some i=>ψ i
 |none=>if b<m then φ b else ψ (b- m+L.length)
theorem R3 {L:List Nat} {m:Nat} {φ ψ:Nat→Nat} (c:L.Nodup) (d:∀b∈L,b<m) (i:Nat):OB L m φ ψ (lC L m i)=ψ i:=by
 unfold OB lC;by_cases a:i<L.length
 ·rw [if_pos a,List.getD_eq_getElem?_getD,aqG a,Option.getD_some]
  have:L.idxOf? L[i]=some i:=by
   clear d
   induction L generalizing i with
   |nil=>simp at a
   |cons x L ih=>
    rw [List.nodup_cons]at c;rw [List.idxOf?_cons]
    cases i with
    |zero=>simp
    |succ i=>
     have f:(x==(x::L)[i+1])=false:=by
      simp only [List.getElem_cons_succ,beq_eq_false_iff_ne];intro e;exact c.1 (e▸List.getElem_mem _)
     rw [f];simp only [List.getElem_cons_succ];rw [ih c.2 i (by simpa using a)];rfl
  rw [this]
 ·rw [if_neg a]
  have:L.idxOf? (m+(i- L.length))=none:=by
   rw [List.idxOf?_eq_none_iff];intro g;have:=d _ g;omega
  rw [this];simp only;rw [if_neg (by omega),show m+(i- L.length)- m+L.length=i by omega]
theorem iN {L:List Nat} {m b:Nat} {φ ψ:Nat→Nat} (a:b<m) (c:b∉L):OB L m φ ψ b=φ b:=by
 unfold OB;rw [List.idxOf?_eq_none_iff.2 c];simp only;rw [if_pos a]
theorem Ax {F r:Nat→Prop} {H H':AH} {φ ψ:Nat→Nat} {h hs f:PH} {L:List Nat} (S:dO ⟨F,H,φ,h⟩) (nd:L.Nodup) (cN:∀b∈L,b<h.length) (hl:L.length=hs.length)
 (R7:∀i,aU hs i→aU h (L.getD i 0)) (iu:∀i b,L[i]?=some b→du h b=du hs i∧(cQ hs i→cQ h b)∧(cQ h b→cQ hs i)) (N:dO ⟨r,H',ψ,f⟩) (T:dH hs.length qj ⟨F,H,fun i=>φ (L.getD i 0),hs⟩ ⟨r,H',ψ,f⟩):
 dO ⟨r,H',OB L h.length φ ψ,merge h L f⟩∧dH h.length (· ∈L) ⟨F,H,φ,h⟩ ⟨r,H',OB L h.length φ ψ,merge h L f⟩∧∀p x,RV ⟨r,H',ψ,f⟩ p x→RV ⟨r,H',OB L h.length φ ψ,merge h L f⟩ (zl (lC L h.length) p) x:=by
 have hls:hs.length≤f.length:=T.len (aqK _);have M:=Ed (h:=h) (hs:=f) nd cN (by omega);have m:=fun i=>R3 (φ:=φ) (ψ:=ψ) nd cN i
 have get?:∀i,i<L.length→L[i]?=some (lC L h.length i):=fun i d=>by
  unfold lC;rw [if_pos d,List.getD_eq_getElem?_getD,aqG d];rfl
 have B:∀i,i<L.length→L.getD i 0=lC L h.length i:=fun i d=>by unfold lC;rw [if_pos d]
 have XY:(merge h L f).length=h.length+(f.length- L.length):=by unfold merge;rw [aqP,ey,List.length_map,List.length_drop]
 have cases:∀b,b<(merge h L f).length→(∃i,i<f.length∧b=lC L h.length i)∨(b<h.length∧b∉L):=by
  intro b g;by_cases d:b∈L
  ·obtain ⟨i,hi⟩:=List.mem_iff_getElem?.1 d
   have l:=(aqM.1 hi).1;left;refine ⟨i,by omega,?_⟩;have:=get? i l;rw [hi]at this;exact aqI this
  ·by_cases h2:b<h.length
   ·exact .inr ⟨h2,d⟩
   ·left
    refine ⟨b- h.length+L.length,by rw [XY]at g;omega,?_⟩;unfold lC;rw [if_neg (by omega)];omega
 have Y:∀b,b∉L→aU h b→¬ im ⟨F,H,fun i=>φ (L.getD i 0),hs⟩ qj (φ b):=by
  rintro b g s ⟨i,_,D,e⟩;have hi:i<L.length:=by have:=aQ D;dsimp only at this;omega
  have s1:=R7 _ D;have:=S.inj _ _ s1 s e;rw [B i hi]at this;exact g (this▸aqL (get? i hi))
 have XZ:∀{x:Nat},im ⟨F,H,fun i=>φ (L.getD i 0),hs⟩ qj x→im ⟨F,H,φ,h⟩ (· ∈L) x:=by
  rintro x ⟨i,_,D,e⟩;have hi:i<L.length:=by have:=aQ D;dsimp only at this;omega
  exact ⟨_,by rw [B i hi];exact aqL (get? i hi),R7 _ D,e⟩
 have same:∀b,b∉L→aU h b→H'.get (φ b)=H.get (φ b):=fun b g s=>T.out _ (S.lt s) (Y b g s)
 have fo:∀b,b∉L→aU h b→r (φ b)→F (φ b):=fun b g s q=>T.fo _ (S.lt s) (Y b g s) q
 have shape:∀i,i<L.length→(∀t,At h (lC L h.length i) t↔At hs i t)∧(cQ h (lC L h.length i)↔cQ hs i):=by
  intro i hi;obtain ⟨a,b,c⟩:=iu i _ (get? i hi);refine ⟨fun t=>?_,c,b⟩
  have tl:∀{h:PH} {b t:Nat},At h b t↔du h b=some t:=by
   intro h b t;constructor
   ·rintro ⟨z,cs,e,rfl⟩;unfold du;rw [e]
   ·intro e;exact (mR e).2 rfl
  rw [tl,tl,a]
 have Ya:∀i,i<L.length→∀t,Le h (lC L h.length i) t→Le hs i t:=by
  intro i hi t k z cs e;obtain ⟨a,_⟩:=iu i _ (get? i hi);have e2:du h (lC L h.length i)=some cs.length:=by rw [a];unfold du;rw [e]
  exact (mS e2).1 k
 have T2:dH h.length (· ∈L) ⟨F,H,φ,h⟩ ⟨r,H',OB L h.length φ ψ,merge h L f⟩:=by
  refine ⟨T.n0,T.nx,fun x G=>T.fz x G,fun x G hi q=>T.fo x G (fun w=>hi (let⟨b,_,c⟩:=XZ w;⟨b,trivial,c⟩)) q,fun x G hi=>T.out x G fun w=>hi (XZ w),fun b s=>?_,fun _=>by rw [XY];omega,fun b _ g t Q=>?_,fun b _ g t Q I=>?_,fun b _ g I=>?_⟩
  ·rcases cases b (aQ s)with⟨i,hi,rfl⟩|⟨d,h2⟩
   ·dsimp only
    rw [m];rcases T.loc i ((M.aU hi).1 s)with q|⟨q,e⟩
    ·exact .inl q
    ·right
     have l:i<L.length:=by have:=aQ q;dsimp only at this;omega
     refine ⟨?_,?_⟩
     ·rw [←B i l];exact R7 _ q
     ·rw [←B i l];exact e
   ·right
    dsimp only;rw [iN d h2];exact ⟨(cR (eA d h2)).1 s,rfl⟩
  ·by_cases n:b∈L
   ·obtain ⟨i,hi⟩:=List.mem_iff_getElem?.1 n
    have l:=(aqM.1 hi).1;obtain rfl:b=lC L h.length i:=aqI (hi.symm.trans (get? i l));exact (M.le (by omega)).2 (T.le i (show i<hs.length by omega) (show i<hs.length by omega) t (Ya i l t Q))
   ·exact (qU (eA g n)).2 Q
  ·by_cases n:b∈L
   ·obtain ⟨i,hi⟩:=List.mem_iff_getElem?.1 n
    have l:=(aqM.1 hi).1;obtain rfl:b=lC L h.length i:=aqI (hi.symm.trans (get? i l));obtain ⟨V,K⟩:=T.uD i (show i<hs.length by omega) (show i<hs.length by omega) t (Ya i l t Q) ((M.at (by omega)).1 I);dsimp only at K⊢;rw [m,K,B i l];exact ⟨((shape i l).1 t).2 V,rfl⟩
   ·exact ⟨(qT (eA g n)).1 I,iN g n⟩
  ·by_cases n:b∈L
   ·obtain ⟨i,hi⟩:=List.mem_iff_getElem?.1 n
    have l:=(aqM.1 hi).1;obtain rfl:b=lC L h.length i:=aqI (hi.symm.trans (get? i l));obtain ⟨V,K⟩:=T.vY i (show i<hs.length by omega) (show i<hs.length by omega) ((M.cQ (by omega)).1 I);dsimp only at K⊢;rw [m,K,B i l];exact ⟨(shape i l).2.2 V,rfl⟩
   ·exact ⟨(fh (eA g n)).1 I,iN g n⟩
 have OC:∀i b,i<f.length→aU f i→b∉L→aU h b→ψ i≠φ b:=by
  intro i b hi s g o e;rcases T.loc i s with q|⟨q,e'⟩
  ·have V:φ b<H.nx:=S.lt o
   dsimp only at q;omega
  ·dsimp only at e'
   exact Y b g o ⟨i,trivial,q,e'.symm.trans e⟩
 refine ⟨⟨N.wf,N.fz,fun b b' s o e=>?_,fun b z cs e U=>?_,fun b es e=>?_⟩,T2,fun p x hr=>Aw M (fun i _=>m i) hr⟩
 ·dsimp only at e
  rcases cases b (aQ s)with⟨i,hi,rfl⟩|⟨d,h2⟩
  ·rcases cases b' (aQ o)with⟨j,R,rfl⟩|⟨J,C⟩
   ·rw [m,m]at e
    rw [N.inj _ _ ((M.aU hi).1 s) ((M.aU R).1 o) e]
   ·rw [m,iN J C]at e
    exact absurd e (OC i b' hi ((M.aU hi).1 s) C ((cR (eA J C)).1 o))
  ·rcases cases b' (aQ o)with⟨j,R,rfl⟩|⟨J,C⟩
   ·rw [m,iN d h2]at e
    exact absurd e.symm (OC j b R ((M.aU R).1 o) h2 ((cR (eA d h2)).1 s))
   ·rw [iN d h2,iN J C]at e
    exact S.inj _ _ ((cR (eA d h2)).1 s) ((cR (eA J C)).1 o) e
 ·rcases cases b (aQ (bU e U))with⟨i,hi,rfl⟩|⟨d,h2⟩
  ·dsimp only
   rw [m];rw [show(merge h L f)[lC L h.length i]?=_ from M.get i hi]at e;obtain ⟨P,hP,e⟩:=aqQ.1 e
   cases P with
   |cells z' c9=>
    cases e;obtain ⟨X,A,y,v,u⟩:=N.aR i _ c9 hP (by rintro rfl;exact U rfl);exact ⟨X,A,kW M (fun i _=>m i) y,v,u⟩
   |_=>cases e
  ·dsimp only
   rw [iN d h2];rw [show(merge h L f)[b]?=_ from eA d h2]at e;have s:=bU e U;obtain ⟨X,A,y,v,u⟩:=S.aR b z cs e U;exact ⟨X,(same b h2 s).trans A,y.step T2,T.n0▸v,fun q=>u (fo b h2 s q)⟩
 ·rcases cases b (aQ (ew e))with⟨i,hi,rfl⟩|⟨d,h2⟩
  ·dsimp only
   rw [m];rw [show(merge h L f)[lC L h.length i]?=_ from M.get i hi]at e;obtain ⟨P,hP,e⟩:=aqQ.1 e
   cases P with
   |map es'=>
    cases e;obtain ⟨W,A,y,v,u,Z⟩:=N.yp i es' hP;refine ⟨W,A,?_,?_,u,Z⟩
    ·rw [←y];simp [List.map_map,Function.comp_def]
    ·rw [yD];exact kW M (fun i _=>m i) v
   |_=>cases e
  ·dsimp only
   rw [iN d h2];rw [show(merge h L f)[b]?=_ from eA d h2]at e;have s:=ew e;obtain ⟨W,A,y,v,u,Z⟩:=S.yp b es e;exact ⟨W,(same b h2 s).trans A,y,v.step T2,T.n0▸u,fun q=>Z (fo b h2 s q)⟩
theorem mf.frame {f:Nat} {args p:List PV} {h hs:PH} (L Z:List Nat) {R:PV→PH→Prop} (k:mf E O f p hs R) (m:L.Nodup) (g:∀b∈L,b<h.length∧b∉Z) (n:L.length=hs.length)
 (K:kz (· ∈Z) (fun i=>L.getD i 0) h hs 0 hs) (z:∀i b,L[i]?=some b→du h b=du hs i∧(cQ hs i→cQ h b)∧(cQ h b→cQ hs i)) (y:lA (· ∈Z) (fun i=>L.getD i 0) h hs args p):
 Ea E O f args h (· ∈L) (fun r D=>∃d a,R d a∧L.length≤a.length∧r=zl (lC L h.length) d∧D=merge (cG h Z) L a):=by
 intro F H X w S U;have v:=kU.at (A:=(· ∈Z)) L n m (fun b c=>(g b c).2) K;have Q:=v.ok S;obtain ⟨P,M⟩:=uH S Z;have o:=fU Z h;have same:∀b,b∈L→(cG h Z)[b]?=h[b]?:=fun b c=>by rw [kv,if_neg (fun q=>(g b c).2 q.1)]
 refine (k _ H _ w Q (y.ok S U)).mono ?_;rintro x Y ⟨d,a,V,W,C,B,N,T⟩
 have mem:∀i,i<L.length→L.getD i 0∈L:=fun i hi=>by
  rw [List.getD_eq_getElem?_getD,aqG hi];exact List.getElem_mem _
 obtain ⟨t,s,u⟩:=Ax (h:=cG h Z) (hs:=hs) (L:=L) P m (fun b c=>by rw [o];exact (g b c).1) n (fun i l=>(cR (same _ (mem i (by have:=aQ l;omega)))).2 (v.aU l)) (fun i b e=>by
  have j:=same b (aqL e);obtain ⟨J,I,G⟩:=z i b e;refine ⟨?_,fun q=>(fh j).2 (I q),fun q=>G ((fh j).1 q)⟩
  rw [←J];unfold du;rw [j]) N T
 rw [o]at t s u;exact ⟨_,_,V,_,⟨d,a,C,by have:=T.len (aqK _);dsimp only at this;omega,rfl,rfl⟩,u _ _ B,t,M.trans s (aqK _) (fun _ q=>q.elim) (fun _ q=>q)⟩
def Ix:Option PB→Option PB→Prop
 |some (.cells _ cs),some (.cells _ c9)=>cs.length=c9.length
 |some (.map _),some (.map _)=>True
 |_,_=>False
@[simp]theorem ag2 (z b:Nat) (cs a:List PV):Ix (some (.cells z cs)) (some (.cells b a))↔cs.length=a.length:=Iff.rfl
@[simp]theorem ag3 (es es':List (Value×PV)):Ix (some (.map es)) (some (.map es'))↔True:=Iff.rfl
def OD (h hs:PH):Nat→List Nat→Prop
 |_,[]=>True
 |i,b::L=>Ix h[b]? hs[i]?∧OD h hs (i+1) L
@[simp]theorem abd (h hs:PH) (i:Nat):OD h hs i []↔True:=Iff.rfl
@[simp]theorem Yb (h hs:PH) (i b:Nat) (L:List Nat):OD h hs i (b::L)↔Ix h[b]? hs[i]?∧OD h hs (i+1) L:=Iff.rfl
theorem OD.ok {h hs:PH}:∀{L:List Nat} {i:Nat},OD h hs i L→∀j b,L[j]?=some b→du h b=du hs (i+j)∧(cQ hs (i+j)→cQ h b)∧(cQ h b→cQ hs (i+j))
 |[],i,_,j,b,e=>by simp at e
 |c::L,i,k,j+1,b,e=>by
  have:=OD.ok k.2 j b (by simpa using e);rwa [show i+1+j=i+(j+1) by omega]at this
 |c::L,i,k,0,b,e=>by
  simp only [aqF,aqH]at e;subst e;have a:=k.1;rw [Nat.add_zero];unfold du cQ
  cases d:h[c]? with
  |none=>rw [d]at a;exact a.elim
  |some P=>
   cases h2:hs[i]? with
   |none=>rw [d,h2]at a;cases P<;>exact a.elim
   |some f=>
    rw [d,h2]at a
    cases P with
    |cells z cs=>
     cases f with
     |cells l m=>simp only [Ix]at a;exact ⟨by simp [a],(fun⟨es,e⟩=>by cases e),(fun⟨es,e⟩=>by cases e)⟩
     |_=>exact a.elim
    |map es=>
     cases f with
     |map g=>exact ⟨rfl,fun _=>⟨_,rfl⟩,fun _=>⟨_,rfl⟩⟩
     |_=>exact a.elim
    |dead=>exact a.elim
section
variable{n:Nat} {Q:Ex→PF→PH→Prop} {ks:List Kp} {fr:PF} {h:PH} {m:Mp} {l:List AO} {d:Option Nat}
theorem yE {f:Nat} {«as»:List X} {j:List PV} {hs:PH} (L Z:List Nat) {R:PV→PH→Prop} (k:mf E O f j hs R) (o:L.Nodup) (q:∀b∈L,b<h.length∧b∉Z) (r:L.length=hs.length)
 (K:kz (· ∈Z) (fun i=>L.getD i 0) h hs 0 hs) (sz:OD h hs 0 L) (p:lA (· ∈Z) (fun i=>L.getD i 0) h hs («as».map (fG fr)) j)
 (next:∀c a,R c a→L.length≤a.length→PK E O n Q (.ops (m.up L (fr.aO d (zl (lC L h.length) c)) (merge (cG h Z) L a)) l ks) (fr.aO d (zl (lC L h.length) c)) (merge (cG h Z) L a)):PK E O n Q (.ops m (⟨none,d,.call f «as»⟩::l) ks) fr h:=
 ku (W:=L) rfl ((mf.frame L Z k o q r K (fun i b e=>by simpa using sz.ok i b e) p).mono (by
  rintro t u ⟨c,a,s,g,rfl,rfl⟩
  exact next c a s g))
end
attribute [simp] lC merge gK ue
end P
namespace P
open Go Go.RowKit
variable{E:Env} {O:jD}
theorem pB.list {A:Nat→Prop} {a:Nat→Nat} {h c:PH} {b:PF}:∀{l:List (Nat×PV)},pB A a h c b l→lA A a h c (l.map fun e=>b.get e.1) (l.map (·.2))
 |[],_=>trivial
 |(t,p)::l,k=>⟨k.1,pB.list k.2⟩
theorem Cs {C:Cx} {b:Fr}:∀{l:List (Nat×PV)},cL C (l.map (·.2)) (l.map fun e=>b.get e.1)→nh C (PF.uI l) b
 |[],_,t=>.any _
 |(a,p)::l,k,t=>by
  cases k with|cons d c=>
  rw [yB];split
  ·rename_i e;subst e;exact d
  ·exact Cs c t
theorem Iy {C:Cx} {b:PF} {c:Fr} (R:nh C b c):∀l:List (Nat×PV),cL C (l.map fun e=>b.get e.1) (l.map fun e=>c.get e.1)
 |[]=>.nil
 |(a,p)::l=>.cons (R a) (Iy R l)
theorem dt {n:Nat} {c:PF} {h h2:PH} (L:List Nat) (l:List (Nat×PV)) (o:L.length+n=h2.length) (j:L.Nodup) (m:∀b∈L,n≤b) (hs:∀b,b<n→Co h h2 b) (K:kz (fun _=>False) (fun i=>if i<n then i else L.getD (i- n) 0) h h2 0 h2) (V:pB (fun _=>False) (fun i=>if i<n then i else L.getD (i- n) 0) h h2 c l):Gh n c h (PF.uI l) h2:=by
 intro F H g a S R;obtain ⟨q,f,p,d,T⟩:=Iu L o j m hs K (Au V.list) F H g (.tuple (l.map fun e=>a.get e.1).toArray) S (.fF (Iy R l));refine ⟨q,f,p,?_,T⟩;generalize k:(Value.tuple (l.map fun e=>a.get e.1).toArray)=v at d
 cases d with|fF r=>
 rename_i xs
 have:xs=l.map fun e=>a.get e.1:=by
  have:=Value.tuple.inj k;exact (congrArg Array.toList this).symm
 subst this;exact Cs r
theorem mf.ag4 {f:Nat} {args w:List PV} {h:PH} {sz k:Nat} {cs:List PV} (q:Fo E O f w sz k cs) (I:kV cs=true) (D:lA qj id h [] args w):
 Ea E O f args h (· ∈[]) (fun r J=>r= .sl sz h.length 0 k k∧J=h++[.cells sz cs]):=by
 intro F H φ n S Q;have P:=(kU.none qj id h).ok S;refine (q _ H _ n P (D.ok S Q)).mono ?_;rintro x m ⟨r,U,X,j,⟨rfl,rfl,o,R⟩,G,u,T⟩
 have y:∀{V:Nat→Prop} {x:Nat} {F:Nat→Prop} {φ:Nat→Nat},¬ im ⟨F,H,φ,[]⟩ V x:=by
  rintro V x F φ ⟨b,_,s,_⟩;have:=aQ s;simp at this
 have no:∀{b:Nat} {F:Nat→Prop} {φ:Nat→Nat},¬ aU (Cx.mk F H φ []).h b:=fun s=>by have:=aQ s;simp at this
 have same:∀x,x<H.nx→m.get x=H.get x:=fun x i=>T.out x i y
 have new:∀b,aU [PB.cells sz cs] b→H.nx≤j b:=fun b g=>by
  rcases T.loc b g with q|⟨q,_⟩
  ·exact q
  ·exact absurd q no
 have t:dO ⟨F,m,j,[.cells sz cs]⟩:={
  wf:=u.wf
  fz:=fun x i=>aq3 (S.fz x i) T.nx
  inj:=u.inj
  aR:=fun b z K e v=>by
   obtain ⟨n,C,B,A,_⟩:=u.aR b z K e v;refine ⟨n,C,?_,A,fun q=>?_⟩
   ·cases b with
    |zero=>simp at e;obtain ⟨_,rfl⟩:=e;exact mT I B
    |succ b=>simp at e
   ·have:=S.fz _ q
    have:=new b (bU e v);dsimp only at*;omega
  yp:=fun b es e=>by
   cases b with
   |zero=>simp at e
   |succ b=>simp at e}
 have M:dH 0 qj ⟨F,H,φ,[]⟩ ⟨F,m,j,[.cells sz cs]⟩:={
  n0:=T.n0
  nx:=T.nx
  fz:=fun x i=>⟨i,same x (S.fz x i)⟩
  fo:=fun _ _ _ h=>h
  out:=fun x i _=>same x i
  loc:=fun b g=>.inl (new b g)
  len:=fun _=>aq8 _
  le:=fun b g=>absurd g (aq6 _)
  uD:=fun b g=>absurd g (aq6 _)
  vY:=fun b g=>absurd g (aq6 _)}
 obtain ⟨N,L⟩:=Cn (W:=(· ∈[])) S t M
 have p:RV ⟨F,m,j,[.cells sz cs]⟩ (.sl sz 0 0 k k) x:=by
  cases G with|sl a b c d=>exact .sl a b c d
 have l:=Cm (φ:=φ) (h:=h) p;refine ⟨_,_,F,join h φ j,⟨rfl,rfl⟩,?_,?_,?_⟩
 ·have e:sh h.length (.sl sz 0 0 k k)= .sl sz h.length 0 k k:=by simp
  rw [e]at l
  simpa [tn,iM _ o]using l
 ·simpa [tn,iM _ o]using N
 ·simpa [tn,iM _ o]using L
section
variable{n:Nat} {Q:Ex→PF→PH→Prop} {ks:List Kp} {fr:PF} {h:PH} {m:Mp} {l:List AO} {d:Option Nat}
theorem nY {f:Nat} {«as»:List X} {args:List PV} {sz k:Nat} {cs:List PV} (q:Fo E O f args sz k cs) (a:lA qj id h [] («as».map (fG fr)) args) (b:kV cs=true) (next:PK E O n Q (.ops (m.up [] (fr.aO d (.sl sz h.length 0 k k)) (h++[.cells sz cs])) l ks) (fr.aO d (.sl sz h.length 0 k k)) (h++[.cells sz cs])):PK E O n Q (.ops m (⟨none,d,.call f «as»⟩::l) ks) fr h:=
 ku (W:=[]) rfl ((mf.ag4 q b a).mono (by rintro c e ⟨rfl,rfl⟩;exact next))
end
end P
namespace P
open Go Go.RowKit
section
variable{T:Type} {enc:TypeId×Value→T} {P:Program} {W:World}
def F0 (W:World):Nat→Prop:=fun b=>b<W.heap.size
theorem st0 (W:World) (φ:Nat→Nat):dO ⟨F0 W,H0 W,φ,[]⟩where
 wf:=aqK _
 fz:=fun x a=>a
 inj:=fun b c s=>by have:=aQ s;simp at this
 aR:=fun b z cs e=>by simp at e
 yp:=fun b es e=>by simp at e
def SlC (v:Value):Prop:=∃a n c,v= .slice a n c∧n≤c∧(c=0∨∀x,a=some x→x.spot=none)
theorem Ee {e:Nat} {c v:Value} (h:c= .slice none 0 0∨∃a len cap,c= .slice (some a) len cap∧len≤cap) (b:aX e c=some v):SlC v:=by
 rcases h with rfl|⟨a,len,cap,rfl,g⟩
 ·simp [aX,flat]at b;subst b;exact ⟨_,_,_,rfl,aqK _,.inl rfl⟩
 ·simp only [aX]at b
  cases d:(decide (a.block<e)&&a.spot.isNone)with
  |true=>rw [d]at b;simp only [cond_true,aqH]at b;subst b;exact ⟨_,_,_,rfl,g,.inr fun x f=>by cases f;simp only [aqJ]at d;exact Option.isNone_iff_eq_none.1 d.2⟩
  |false=>
   rw [d]at b;simp only [cond_false]at b
   cases h2:Nat.beq len 0 with
   |true=>rw [h2]at b;simp only [cond_true,aqH]at b;subst b;exact ⟨_,_,_,rfl,aqK _,.inl rfl⟩
   |false=>rw [h2]at b;simp at b
theorem ag5 {b z:Nat} {c:List Value} (h:(H0 W).get b=some (.cells z c)):z=1048576:=by
 have h2:uk W b=some (.cells z c):=by
  rw [AH.eO (AH.aS h)]at h;rw [←zK];exact h
 unfold uk at h2;split at h2
 ·cases h2;rfl
 ·cases h2
theorem ag6 {b o sz:Nat} {r:List Value} (h:(H0 W).ldn ⟨b,o,none⟩ sz=some r) (hs:sz≤1048576):F0 W b∧(H0 W).kD b sz=true:=by
 unfold AH.ldn at h;split at h
 ·rename_i z c _ e
  have:=ag5 e;refine ⟨AH.aS e,?_⟩;unfold AH.kD;rw [show(H0 W).get b=_ from e];exact decide_eq_true (by omega)
 ·cases h
theorem Ay {α:Type} {F:Nat→Prop} {H:AH} {d:α→List PV} {ok:α→Prop}:∀{rows:List (List Value)} {ys:List α},fg (fun l y=>gY F H (d y) l∧ok y) rows ys→kS F H (ys.map d) rows∧∀y∈ys,ok y
 |_,_, .nil=>⟨.nil,by simp⟩
 |_,_, .cons a b=>⟨.cons a.1 (Ay b).1,fun y c=>by
    rcases aqY.1 c with rfl|c
    · exact a.2
    · exact (Ay b).2 y c⟩
theorem tt {α:Type} (g:α→List PV) {ok:α→Prop} {t e:TypeId} {fuel:Nat} {c:Value} {d:DataW T} (w:P.underlying t=some (.slice e)) (M:0<P.cellsOf e) (j:P.cellsOf e≤1048576) (p:0<P.bytesOf e)
 (h:Rd enc P W fuel t [c] d) (G:xV P t d) (rd:∀m D B,m<fuel→Rd enc P W m e D B→xV P e B→∃l y,aL W.heap.size D=some l∧gY (F0 W) (H0 W) (g y) l∧ok y):
 ∃(v:Value) (ys:List α),aL W.heap.size [c]=some [v]∧RF (F0 W) (H0 W) (.fs (P.cellsOf e) (ys.map g)) v∧(∀y∈ys,ok y)∧ys.length*P.bytesOf e≤reachBytes:=by
 obtain ⟨v,rows,ys,f,A,s,O⟩:=Lo (C:=fun l y=>gY (F0 W) (H0 W) (g y) l∧ok y) w M p h G rd;obtain ⟨F,E⟩:=Ay s
 have I:SlC v:=by
  obtain ⟨ps,h⟩:=h;simp only [aL]at f
  cases h2:aX W.heap.size c with
  |none=>rw [h2]at f;simp at f
  |some x=>
   rw [h2]at f;simp only [aqH,List.cons.injEq,and_true]at f;subst f;refine Ee ?_ h2;rcases DataW.trod_slice w h with⟨e,_⟩|⟨a,len,cap,_,_,_,_,e,_,_,L,_⟩
   ·simp only [List.cons.injEq,and_true]at e;exact .inl e
   ·simp only [List.cons.injEq,and_true]at e;exact .inr ⟨a,len,cap,e,L⟩
 refine ⟨v,ys,f,?_,E,by rw [←s.length];exact O⟩;obtain ⟨a,n,S,rfl,K,H⟩:=I;have u:=A;obtain ⟨V,U,e,k⟩:=A.is;cases e;have i:(ys.map g).length=rows.length:=by rw [List.length_map,s.length]
 have:RF (F0 W) (H0 W) (.fs (P.cellsOf e) (ys.map g)) (.slice a (ys.map g).length S):=by
  refine .fs (by rw [i];exact u) (by rw [i];exact K) (fun d z=>⟨?_,?_⟩) F
  ·rcases H with q|q
   ·exact .inr q
   ·exact .inl (q d z)
  ·rw [i]
   by_cases N:rows.length=0
   ·exact .inl N
   ·obtain ⟨r,J⟩:∃r,rows[0]?=some r:=⟨_,aqG (by omega)⟩
    obtain ⟨b,o,R,Q⟩:=k 0 r J;subst R;cases z;exact .inr (ag6 Q j)
 rw [i]at this;exact this
end
end P
set_option maxRecDepth 10000
namespace P
open Go Go.RowKit
mutual
def dw:bQ→List PV
 | .mk op n cp args=>[pi op,pi n,pi cp,.fs 4 (bV args)]
def bV:List bQ→List (List PV)
 |[]=>[]
 |e::l=>dw e::bV l
end
mutual
def iz:bh→List PV
 | .mk op n args aB aE=>[pi op,pi n,.fs 4 (bV args),.fs 5 (bW aB),.fs 5 (bW aE)]
def bW:List bh→List (List PV)
 |[]=>[]
 |e::l=>iz e::bW l
end
theorem eX:∀l:List bQ,bV l=l.map dw
 |[]=>rfl
 |_::l=>by simp [bV,eX l]
theorem eB:∀l:List bh,bW l=l.map iz
 |[]=>rfl
 |_::l=>by simp [bW,eB l]
@[simp]theorem Mq (l:List bQ):(bV l).length=l.length:=by simp [eX]
@[simp]theorem Mr (l:List bh):(bW l).length=l.length:=by simp [eB]
@[simp]theorem TX (l:List bQ) (i:Nat):(bV l)[i]?=(l[i]?).map dw:=by simp [eX]
@[simp]theorem TY (l:List bh) (i:Nat):(bW l)[i]?=(l[i]?).map iz:=by simp [eB]
@[simp]theorem Yc (e:bQ):dE (dw e)=true:=by cases e;rfl
@[simp]theorem Yd (e:bh):dE (iz e)=true:=by cases e;rfl
@[simp]theorem OE (e:bQ):(dw e).length=4:=by cases e;rfl
@[simp]theorem OF (e:bh):(iz e).length=5:=by cases e;rfl
@[simp]theorem TZ (e:bQ):(dw e).take 4=dw e:=aqN (by simp)
@[simp]theorem T0 (e:bh):(iz e).take 5=iz e:=aqN (by simp)
def ni (v:Vr):List PV:=[ps v.name,pi v.level,pi v.cells]
abbrev gk (l:List Vr):PV:=.fs 3 (l.map ni)
def aI (p:bC):List PV:=[pi p.w,gk p.vars,.fs 5 (bW p.body)]
def iA (t:gA):List PV:=[lG t.store,lG t.cd]
abbrev ag7 (l:List (List Int)):PV:=.fs 1 (l.map fun s=>[lG s])
@[simp]theorem Ye (p:bC):dE (aI p)=true:=rfl
@[simp]theorem Yf (p:gA):dE (iA p)=true:=rfl
@[simp]theorem T3 (p:List Vr):ql (gk p)=true:=rfl
@[simp]theorem Yg (p:List (List Int)):ql (ag7 p)=true:=rfl
mutual
def Iz:bQ→Prop
 | .mk op n cp args=>jR op∧jR n∧jR cp∧args.length<2^60∧yF args
def yF:List bQ→Prop
 |[]=>True
 |e::l=>Iz e∧yF l
end
mutual
def IA:bh→Prop
 | .mk op n args aB aE=>jR op∧jR n∧args.length<2^60∧aB.length<2^60∧aE.length<2^60∧yF args∧tu aB∧tu aE
def tu:List bh→Prop
 |[]=>True
 |e::l=>IA e∧tu l
end
def jz (p:bC):Prop:=jR p.w∧nL p.vars∧tu p.body∧p.body.length<2^60
def wu (t:gA):Prop:=t.store.length<2^60∧t.cd.length<2^60∧(∀n∈t.store,jR n)∧∀n∈t.cd,jR n
theorem mi:∀{l:List bQ},yF l→∀e∈l,Iz e
 |_::_,h,e,a=>by
  rcases aqY.1 a with rfl|a
  ·exact h.1
  ·exact mi h.2 e a
theorem mj:∀{l:List bh},tu l→∀e∈l,IA e
 |_::_,h,e,a=>by
  rcases aqY.1 a with rfl|a
  ·exact h.1
  ·exact mj h.2 e a
section
variable{F:Nat→Prop} {H:AH}
theorem iO {sz:Nat} {rows:List (List PV)} {x:Value} (h:RF F H (.fs sz rows) x):∃rs,Rows H sz x rs∧kS F H rows rs∧∃a c,x= .slice a rows.length c:=by
 cases h with|fs d e f b=>exact ⟨_,d,b,_,_,rfl⟩
mutual
theorem R9:∀{e:bQ} {c:List Value},Iz e→gY F H (dw e) c→oO H c e
 | .mk op n i args,c,ok,h=>by
  simp only [dw]at h
  cases h with|cons g h=>
  cases h with|cons f h=>
  cases h with|cons h2 h=>
  cases h with|cons d h=>
  cases h;cases g;cases f;cases h2;obtain ⟨rs,b,a,_⟩:=iO d;simp only [Iz]at ok;exact .mk ok.1 ok.2.1 ok.2.2.1 ok.2.2.2.1 b (wx ok.2.2.2.2 a)
theorem wx:∀{l:List bQ} {rs:List (List Value)},yF l→kS F H (bV l) rs→fY H rs l
 |[],rs,_,h=>by cases h;exact .nil
 |e::l,rs,ok,h=>by
  simp only [bV]at h
  cases h with|cons a b=>
  exact .cons (R9 ok.1 a) (wx ok.2 b)
end
mutual
theorem Sa:∀{e:bh} {c:List Value},IA e→gY F H (iz e) c→nM H c e
 | .mk op n args o r,c,ok,h=>by
  simp only [iz]at h
  cases h with|cons m h=>
  cases h with|cons l h=>
  cases h with|cons h2 h=>
  cases h with|cons k h=>
  cases h with|cons j h=>
  cases h;cases m;cases l;obtain ⟨q,i,f,_⟩:=iO h2;obtain ⟨rt,a,b,_⟩:=iO k;obtain ⟨p,g,d,_⟩:=iO j;simp only [IA]at ok;exact .mk ok.1 ok.2.1 ok.2.2.1 ok.2.2.2.1 ok.2.2.2.2.1 i (wx ok.2.2.2.2.2.1 f) a (pD ok.2.2.2.2.2.2.1 b) g (pD ok.2.2.2.2.2.2.2 d)
theorem pD:∀{l:List bh} {rs:List (List Value)},tu l→kS F H (bW l) rs→gN H rs l
 |[],rs,_,h=>by cases h;exact .nil
 |e::l,rs,ok,h=>by
  simp only [bW]at h
  cases h with|cons a b=>
  exact .cons (Sa ok.1 a) (pD ok.2 b)
end
theorem kX {l:List Int} {x:Value} (h:RF F H (lG l) x):fb H x l:=by
 obtain ⟨rs,d,e,_⟩:=iO h
 have:∀{l:List Int} {rs:List (List Value)},kS F H (ir l) rs→rs=l.map fun n=>[.int .i64 n]:=by
  intro l
  induction l with
  |nil=>intro rs h;cases h;rfl
  |cons a l ih=>
   intro rs h;simp only [ir,List.map_cons]at h
   cases h with|cons a b=>
   cases a with|cons a c=>
   cases a;cases c;rw [ih b];rfl
 rw [this e]at d;exact d
theorem yG {l:List Vr} {x:Value} (h:RF F H (gk l) x):dh H x l:=by
 obtain ⟨rs,c,d,_⟩:=iO h
 have:∀{l:List Vr} {rs:List (List Value)},kS F H (l.map ni) rs→rs=l.map Vr.row:=by
  intro l
  induction l with
  |nil=>intro rs h;cases h;rfl
  |cons a l ih=>
   intro rs h;simp only [ni,List.map_cons]at h
   cases h with|cons h b=>
   cases h with|cons f h=>
   cases h with|cons e h=>
   cases h with|cons h2 h=>
   cases h;cases f;cases e;cases h2;rw [ih b];rfl
 rw [this d]at c;exact c
theorem wy {p:bC} {c:List Value} (ok:jz p) (h:gY F H (aI p) c):p9 H c p:=by
 simp only [aI]at h
 cases h with|cons e h=>
 cases h with|cons d h=>
 cases h with|cons h2 h=>
 cases h;cases e;obtain ⟨rs,b,a,_⟩:=iO h2;exact ⟨_,_,_,rfl,ok.1,yG d,ok.2.1,b,pD ok.2.2.1 a,ok.2.2.2⟩
theorem IB {t:gA} {c:List Value} (ok:wu t) (h:gY F H (iA t) c):xH H c t:=by
 simp only [iA]at h
 cases h with|cons b h=>
 cases h with|cons a h=>
 cases h;exact ⟨_,_,rfl,kX b,kX a,ok⟩
theorem Ms {C:Cx} {sz:Nat} {rows:List (List PV)} {x:Value} (h:RV C (.fs sz rows) x):RF C.F C.H (.fs sz rows) x:=by cases h;assumption
theorem OG {C:Cx}:∀{ps:List PV} {xs:List Value},ps.all rL=true→cL C ps xs→gY C.F C.H ps xs
 |[],_,_,.nil=>.nil
 |p::ps,_,h,.cons a b=>by
  simp only [List.all_cons,aqJ]at h;refine .cons ?_ (OG h.2 b)
  cases p<;>first
   |(simp [rL]at h;done)
   |(cases a;exact .v _)
   |exact Ms a
theorem tv {C:Cx} {ps:List PV} {x:Value} (b:ps.all rL=true) (h:RV C (.agg ps) x):∃c,x= .agg c.toArray∧gY C.F C.H ps c:=by
 cases h with|agg a=>exact ⟨_,rfl,OG b a⟩
end
@[simp]theorem Yh (p:bC):(aI p).all rL=true:=rfl
@[simp]theorem Yi (p:gA):(iA p).all rL=true:=rfl
theorem Fz.pE {f:Nat} {args:List PV} {y:Value} (k:∀F H φ vs,H.n0≤H.nx→cL ⟨F,H,φ,[]⟩ args vs→Ca E O f vs H (fun x H'=>x=y∧Ext H H')):Fz E O f args (.v y):=by
 intro F H φ vs S d;refine (k F H φ vs S.wf d).mono ?_;rintro x H' ⟨rfl,X⟩
 have T:dH 0 qj ⟨F,H,φ,[]⟩ ⟨F,H',φ,[]⟩:=⟨X.n0,X.nx,fun x c=>⟨c,X.old x (S.fz x c)⟩,fun _ _ _ h=>h,fun x c _=>X.old x c,fun b a=>absurd (aQ a) (aq6 _),fun _=>aqK _,fun b a=>absurd a (aq6 _),fun b a=>absurd a (aq6 _),fun b a=>absurd a (aq6 _)⟩
 exact ⟨_,[],F,φ,⟨rfl,rfl,rfl⟩,.v _,⟨X.wf S.wf,fun x c=>aq3 (S.fz x c) X.nx,fun b g s=>absurd (aQ s) (aq6 _),fun b z cs e=>by simp at e,fun b es e=>by simp at e⟩,T⟩
theorem Fo.pE {f:Nat} {args:List PV} {sz:Nat} {rows:List (List Value)} (A:0<sz) (k:∀F H φ vs,H.n0≤H.nx→cL ⟨F,H,φ,[]⟩ args vs→Ca E O f vs H (fun x H'=>dK H' sz x rows∧Ext H H'∧∀b,aR x b→H.nx≤b)):Fo E O f args sz rows.length (rows.flatten.map .v):=by
 intro F H φ vs S y;refine (k F H φ vs S.wf y).mono ?_;rintro x H' ⟨o,X,c⟩;have d:(rows.flatten.map PV.v).length=rows.length*sz:=by rw [List.length_map,cg o.len]
 obtain ⟨a,n⟩:∃a:Nat,(rows≠[]→x= .slice (some ⟨a,0,none⟩) rows.length rows.length∧H'.get a=some (.cells sz rows.flatten)∧H.nx≤a∧H'.n0≤a):=by
  rcases o.is with⟨_,rfl⟩|⟨a,rfl,u,q⟩
  ·exact ⟨0,fun h=>absurd rfl h⟩
  ·exact ⟨a,fun _=>⟨rfl,q,c a ((bl _ _ _ _ _).2 rfl),u⟩⟩
 have one:∀{b:Nat} {P:PB},[PB.cells sz (rows.flatten.map .v)][b]?=some P→b=0∧P= .cells sz (rows.flatten.map .v):=by
  intro b P e
  cases b with
  |zero=>simp only [aqF,aqH]at e;exact ⟨rfl,e.symm⟩
  |succ b=>simp at e
 have g:∀{b:Nat},aU [PB.cells sz (rows.flatten.map .v)] b→b=0∧rows≠[]:=by
  intro b s;rcases jo s with⟨es,e⟩|⟨z,cs,e,m⟩
  ·have:=(one e).2;cases this
  ·obtain ⟨rfl,l⟩:=one e
   cases l;exact ⟨rfl,by rintro rfl;exact m rfl⟩
 have T:dH 0 qj ⟨F,H,φ,[]⟩ ⟨F,H',fun _=>a,[.cells sz (rows.flatten.map .v)]⟩:=⟨X.n0,X.nx,fun x i=>⟨i,X.old x (S.fz x i)⟩,fun _ _ _ h=>h,fun x i _=>X.old x i,fun b c=>.inl (n (g c).2).2.2.1,fun _=>aq8 _,fun b c=>absurd c (aq6 _),fun b c=>absurd c (aq6 _),fun b c=>absurd c (aq6 _)⟩
 refine ⟨_,_,F,fun _=>a,⟨rfl,rfl,?_,d⟩,?_,⟨X.wf S.wf,fun x i=>aq3 (S.fz x i) X.nx,fun b C s p _=>by rw [(g s).1,(g p).1],fun b z cs e m=>?_,fun b es e=>?_⟩,T⟩
 ·rw [mg];simp
 ·refine .sl ?_ (by simp) (fun z cs e=>?_) (fun _=>?_)
  ·rcases o.is with⟨rfl,w⟩|⟨_,rfl,_⟩
   ·exact ⟨none,0,by rw [w];rfl⟩
   ·exact ⟨_,_,rfl⟩
  ·obtain ⟨_,l⟩:=one e
   cases l;rw [d];simp
  ·by_cases j:rows=[]
   ·subst j
    refine .inl ⟨rfl,rfl,?_⟩;rcases o.is with⟨rfl,_⟩|⟨b,rfl,_⟩
    ·exact ⟨none,rfl,by simp⟩
    ·exact ⟨_,rfl,by rintro e ⟨⟩;rfl⟩
   ·exact .inr ⟨List.length_pos_iff.2 j,by rw [(n j).1];simp⟩
 ·obtain ⟨rfl,l⟩:=one e
  cases l;have j:rows≠[]:=by rintro rfl;exact m rfl
  obtain ⟨_,h2,B,t⟩:=n j;exact ⟨rows.flatten,h2,cL.lits _,t,fun r=>by have:=S.fz _ r;dsimp only at this;omega⟩
 ·have:=(one e).2;cases this
end P
namespace P
open Go Go.RowKit
theorem pF {α:Type} {x:α}:∀{l:List α} {k:Nat},k<l.length→uc l k [x]=l.set k x
 |[],k,h=>by simp at h
 |y::l,0,_=>by simp [uc]
 |y::l,k+1,h=>by simp [uc,pF (l:=l) (k:=k) (by simpa using h)]
@[simp]theorem abe (l:List Int):dE (l.map pi)=true:=by rw [mg];simp
theorem fS (l:List Int):(bg l).flatten.map PV.v=l.map pi:=by
 induction l with
 |nil=>rfl
 |cons a l ih=>simp_all [bg]
theorem IC {l:List Int} (c:l.length≤2^40):Fo E O 27 [lG l] 1 l.length (l.map pi):=by
 have:=Fo.pE (f:=27) (args:=[lG l]) (rows:=bg l) Nat.one_pos (fun F H e g w d=>by
  cases d with|cons a b=>
  cases b
  exact GO w (kX (Ms a)) c)
 rw [fS]at this
 simpa [bg]using this
def Sb (l:List Ev):List (List PV):=l.map fun e=>[pi e.kind,pi e.at_,pi e.val]
def wz (l:List (Int×Int)):List (List PV):=l.map fun e=>[pi e.1,pi e.2]
def itr (l:List wU):List (List PV):=l.map fun it=>pi it.1::iz it.2
def evc (l:List Ev):List PV:=(Sb l).flatten
@[simp]theorem abf:evc []=[]:=rfl
def xq (l:List (Int×Int)):List PV:=(wz l).flatten
@[simp]theorem abg:xq []=[]:=rfl
@[simp]theorem yH (a:(Int×Int)) (l:List (Int×Int)):xq (a::l)=[pi a.1,pi a.2]++xq l:=by simp [xq,wz]
theorem tw (a b:List (Int×Int)):xq (a++b)=xq a++xq b:=by simp [xq,wz]
@[simp]theorem Sc (l:List (Int×Int)):(wz l).length=l.length:=by simp [wz]
@[simp]theorem Az:∀l:List (Int×Int),(xq l).length=l.length*2
 |[]=>rfl
 |a::l=>by rw [yH,aqP,Az l];simp;omega
@[simp]theorem wA:∀l:List (Int×Int),(xq l).all rL=true
 |[]=>rfl
 |a::l=>by rw [yH,List.all_append,wA l];simp [rL]
@[simp]theorem abh (l:List (Int×Int)):dE (xq l)=true:=ts (wA l)
def itc (l:List wU):List PV:=(itr l).flatten
@[simp]theorem abi:itc []=[]:=rfl
open Go Go.RowKit
end P
namespace P
open Go Go.RowKit
open Go Go.RowKit
@[simp]theorem T4 (V:List Vr) (c:fH) (n i a:Int):(jy V c n i a).outs=c.outs:=rfl
@[simp]theorem T5 (V:List Vr) (c:fH) (n i a:Int):(jy V c n i a).todo=c.todo:=rfl
@[simp]theorem OJ (c:fH) (e n:Int):(eY c e n).store=c.store:=rfl
@[simp]theorem Sd (c:fH) (e n:Int):(eY c e n).outs=c.outs:=rfl
@[simp]theorem OK (c:fH) (e n:Int):(eY c e n).trace=c.trace:=rfl
@[simp]theorem Se (c:fH) (e n:Int):(eY c e n).todo=[]:=rfl
section
variable{p:bC} {ps:List Int} {c:fH} {k n:Int} {args:List bQ} {aB aE:List bh} {next:List wU}
end
end P
namespace P
open Go Go.RowKit
set_option maxHeartbeats 1000000
section
variable{p:bC} {ps:List Int} {c:fH} {k n:Int} {args:List bQ} {aB aE:List bh} {next:List wU}
end
end P
namespace P
open Go Go.RowKit
section
variable{A:Nat→Prop} {σ:Nat→Nat} {h bs:PH}
@[simp]theorem aha {b:Nat} {l:List (Int×Int)} (d:A b) (c:h[b]?=some (.cells 2 (xq l))):Vg A σ h bs (.sl 2 b 0 l.length l.length) (.fs 2 (wz l))↔True:=⟨fun _=>trivial,fun _=>wk (pC d c (by decide) (by simp) (by unfold wz;intro r a;obtain ⟨x,_,rfl⟩:=ard.1 a;simp) (mU (wA l)))⟩
@[simp]theorem akf (b:Nat):qj b↔True:=Iff.rfl
def ahb:Option PB→List wU→Prop
 |some (.cells z cs),l=>z=6∧cs.drop 6=itc l∧cs.length=l.length*6+6
 |_,_=>False
@[simp]theorem ahc (z:Nat) (cs:List PV) (l:List wU):ahb (some (.cells z cs)) l↔z=6∧cs.drop 6=itc l∧cs.length=l.length*6+6:=Iff.rfl
def ahd (h:PH):Option PB→List Int→Prop
 |some (.cells z [.sl 1 b 0 n n']),s=>z=1∧n=s.length∧n'=s.length∧h[b]?=some (.cells 1 (s.map pi))
 |_,_=>False
@[simp]theorem ahe (z b n a:Nat) (s:List Int):ahd h (some (.cells z [.sl 1 b 0 n a])) s↔z=1∧n=s.length∧a=s.length∧h[b]?=some (.cells 1 (s.map pi)):=Iff.rfl
end
end P
set_option maxHeartbeats 1000000
namespace P
open Go Go.RowKit
open Go Go.RowKit
end P
namespace P
open Go Go.RowKit
def kY (r:iw):List PV:=[pi r.en,lG r.store,.fs 2 (wz r.outs),.fs 3 (Sb r.trace),pi r.cost,pi r.used,pi r.wh]
open Go Go.RowKit
theorem ID {F:Nat→Prop} {H:AH}:∀{l:List (List Value)} {rs:List (List Value)},kS F H (l.map fun r=>r.map PV.v) rs→rs=l:=by
 have one:∀{r:List Value} {q:List Value},gY F H (r.map PV.v) q→q=r:=by
  intro r
  induction r with
  |nil=>intro q h;cases h;rfl
  |cons a r ih=>intro q h;cases h with|cons a b=>cases a;rw [ih b]
 intro l
 induction l with
 |nil=>intro rs h;cases h;rfl
 |cons a l ih=>intro rs h;cases h with|cons a b=>rw [one a,ih b]
theorem Ct {F:Nat→Prop} {H:AH} {sz:Nat} {rows:List (List PV)} {l:List (List Value)} {x:Value} (e:rows=l.map fun r=>r.map PV.v) (h:RF F H (.fs sz rows) x):Rows H sz x l:=by
 subst e;obtain ⟨rs,a,h2,_⟩:=iO h;rwa [ID h2]at a
end P
namespace P
open Go Go.RowKit
section
variable{T:Type} {enc:TypeId×Value→T} {W:World}
theorem wB:∀{l:List bQ},(∀e∈l,Iz e)→yF l
 |[],_=>trivial
 |e::l,h=>⟨h e (by simp),wB fun x a=>h x (by simp [a])⟩
theorem rM:∀{l:List bh},(∀e∈l,IA e)→tu l
 |[],_=>trivial
 |e::l,h=>⟨h e (by simp),rM fun x a=>h x (by simp [a])⟩
theorem Mu:∀(n:Nat) (cs:List Value) (d:DataW T),Rd enc Tryz.prog W n 117 cs d→xV Tryz.prog 117 d→∃l e,aL W.heap.size cs=some l∧gY (F0 W) (H0 W) (dw e) l∧Iz e:=by
 intro n
 induction n using Nat.strongRecOn with
 |_ n ih=>
  intro cs d h z;obtain ⟨j,m,J,a⟩:=mM Tryz.underlying117 h z;rw [cE]at j;obtain ⟨S,R,Q,P,rfl⟩:=V3 j;obtain ⟨O,f,x⟩:=a 0 _ rfl;obtain ⟨N,c,w⟩:=a 1 _ rfl;obtain ⟨M,h2,u⟩:=a 2 _ rfl;obtain ⟨L,b,g⟩:=a 3 _ rfl;simp only [List.getElem_toArray,List.getElem_cons_zero,List.getElem_cons_succ]at f c h2 b x w u g;rw [cI]at f c h2;rw [cEs]at b;obtain ⟨op,r,I⟩:=jT Tryz.underlying3 f;obtain ⟨i,q,H⟩:=jT Tryz.underlying3 c;obtain ⟨s,p,G⟩:=jT Tryz.underlying3 h2;obtain ⟨v,t,D,o,C,B⟩:=tt dw (ok:=Iz) Tryz.underlying112 (by rw [cE];omega) (by rw [cE];omega) (by decide+kernel) (by simpa using b) g (fun k F E K A y=>ih k (by omega) F E A y);rw [cE]at o;simp at r q p;subst r;subst q;subst p;refine ⟨[.int .i64 op,.int .i64 i,.int .i64 s,v],.mk op i s t,ee (ee (ee D)),.cons (.v _) (.cons (.v _) (.cons (.v _) (.cons (by rw [eX];exact o) .nil))),wf_i64 I,wf_i64 H,wf_i64 G,DJ B (by decide+kernel),wB C⟩
theorem Mv:∀(n:Nat) (cs:List Value) (d:DataW T),Rd enc Tryz.prog W n 114 cs d→xV Tryz.prog 114 d→∃l e,aL W.heap.size cs=some l∧gY (F0 W) (H0 W) (iz e) l∧IA e:=by
 intro n
 induction n using Nat.strongRecOn with
 |_ n ih=>
  intro cs d h U;obtain ⟨y,m,Y,c⟩:=mM Tryz.underlying114 h U;rw [cS]at y;obtain ⟨c0,c1,c2,c3,c4,rfl⟩:=V4 y;obtain ⟨d0,p,G⟩:=c 0 _ rfl;obtain ⟨d1,o,F⟩:=c 1 _ rfl;obtain ⟨d2,h2,s⟩:=c 2 _ rfl;obtain ⟨d3,j,r⟩:=c 3 _ rfl;obtain ⟨Z,i,q⟩:=c 4 _ rfl;simp only [List.getElem_toArray,List.getElem_cons_zero,List.getElem_cons_succ]at p o h2 j i G F s r q;rw [cI]at p o;rw [cEs]at h2;rw [cSs]at j i;obtain ⟨op,B,X⟩:=jT Tryz.underlying3 p;obtain ⟨x,A,V⟩:=jT Tryz.underlying3 o;obtain ⟨J,E,S,w,R,Q⟩:=tt dw (ok:=Iz) Tryz.underlying112 (by rw [cE];omega) (by rw [cE];omega) (by decide+kernel) (by simpa using h2) s (fun k g f z b a=>Mu k g f b a);obtain ⟨H,C,P,u,O,N⟩:=tt iz (ok:=IA) Tryz.underlying23 (by rw [cS];omega) (by rw [cS];omega) (by decide+kernel) (by simpa using j) r (fun k g f z b a=>ih k (by omega) g f b a);obtain ⟨I,D,M,t,L,K⟩:=tt iz (ok:=IA) Tryz.underlying23 (by rw [cS];omega) (by rw [cS];omega) (by decide+kernel) (by simpa using i) q (fun k g f z b a=>ih k (by omega) g f b a);rw [cE]at w;rw [cS]at u t;simp at B A;subst B;subst A;exact ⟨[.int .i64 op,.int .i64 x,J,H,I],.mk op x E C D,ee (ee (lW S (lW P M))),.cons (.v _) (.cons (.v _) (.cons (by rw [eX];exact w) (.cons (by rw [eB];exact u) (.cons (by rw [eB];exact t) .nil)))),wf_i64 X,wf_i64 V,DJ Q (by decide+kernel),DJ N (by decide+kernel),DJ K (by decide+kernel),wB R,rM O,rM L⟩
theorem Sf (n:Nat) (cs:List Value) (d:DataW T) (h:Rd enc Tryz.prog W n 108 cs d) (a:xV Tryz.prog 108 d):∃l y,aL W.heap.size cs=some l∧gY (F0 W) (H0 W) (ni y) l∧y.name.size<2^60:=by
 obtain ⟨l,y,c,rfl,b⟩:=QI n cs d h a;exact ⟨_,y,c,.cons (.v _) (.cons (.v _) (.cons (.v _) .nil)),b⟩
theorem Mw {n:Nat} {c:Value} {d:DataW T} (h:Rd enc Tryz.prog W n 26 [c] d) (g:xV Tryz.prog 26 d):∃v l,aL W.heap.size [c]=some [v]∧RF (F0 W) (H0 W) (lG l) v∧l.length<2^44∧∀n∈l,jR n:=by
 obtain ⟨v,f,q,a,p,o⟩:=tt (fun n:Int=>[pi n]) (ok:=jR) Tryz.underlying26 (by rw [cI];omega) (by rw [cI];omega) (by decide+kernel) h g (fun k u t s i r=>by
  obtain ⟨m,e,b⟩:=jT Tryz.underlying3 i;subst e
  exact ⟨_,m,ee rfl,.cons (.v _) .nil,wf_i64 b⟩)
 rw [cI]at a;refine ⟨v,f,q,a,?_,p⟩;have j:Tryz.prog.bytesOf 3=8:=by kernel_rfl
 rw [j]at o;have:reachBytes<2^47:=reachBytes_lt;omega
theorem Mx (n:Nat) (cs:List Value) (d:DataW T) (h:Rd enc Tryz.prog W n 25 cs d) (G:xV Tryz.prog 25 d):∃l p,aL W.heap.size cs=some l∧gY (F0 W) (H0 W) (aI p) l∧jz p:=by
 obtain ⟨s,m,L,c⟩:=mM Tryz.underlying25 h G;rw [cP]at s;obtain ⟨R,Q,P,rfl⟩:=GM s;obtain ⟨O,f,z⟩:=c 0 _ rfl;obtain ⟨N,e,o⟩:=c 1 _ rfl;obtain ⟨M,h2,j⟩:=c 2 _ rfl;simp only [List.getElem_toArray,List.getElem_cons_zero,List.getElem_cons_succ]at f e h2 z o j;rw [cI]at f;rw [cVs]at e;rw [cSs]at h2;obtain ⟨w,t,I⟩:=jT Tryz.underlying3 f;obtain ⟨J,u,F,r,E,D⟩:=tt ni (ok:=fun y=>y.name.size<2^60) Tryz.underlying22 (by rw [cV];omega) (by rw [cV];omega) (by decide+kernel) (by simpa using e) o (fun k i g H b a=>Sf k i g b a);obtain ⟨K,x,C,q,B,A⟩:=tt iz (ok:=IA) Tryz.underlying23 (by rw [cS];omega) (by rw [cS];omega) (by decide+kernel) (by simpa using h2) j (fun k i g H b a=>Mv k i g b a);rw [cV]at r;rw [cS]at q;simp at t;subst t;exact ⟨_,⟨w,u,x⟩,ee (lW F C),.cons (.v _) (.cons r (.cons (by rw [eB];exact q) .nil)),wf_i64 I,⟨DJ D (by decide+kernel),E⟩,rM B,DJ A (by decide+kernel)⟩
end
end P
namespace P
open Go Go.RowKit
theorem OM {F:Nat→Prop} {H:AH}:∀r:List Value,gY F H (r.map PV.v) r
 |[]=>.nil
 |a::r=>.cons (.v a) (OM r)
theorem ON {F:Nat→Prop} {H:AH}:∀l:List (List Value),kS F H (l.map fun r=>r.map PV.v) l
 |[]=>.nil
 |a::l=>.cons (OM a) (ON l)
theorem AA {F:Nat→Prop} {H:AH} {sz:Nat} {v:Value} {rows:List (List Value)} (h:dK H sz v rows) (j:∀b,aR v b→F b):RF F H (.fs sz (rows.map fun r=>r.map PV.v)) v:=by
 have i:=h.rows;rcases h.is with⟨rfl,rfl⟩|⟨b,rfl,k,g⟩
 ·exact .fs (rows:=[]) (rs:=[]) i (aqK _) (fun d f=>by cases f) .nil
 ·have e:(rows.map fun r=>r.map PV.v).length=rows.length:=List.length_map ..
  have:=RF.fs (F:=F) (H:=H) (sz:=sz) (rows:=rows.map fun r=>r.map PV.v) (a:=some ⟨b,0,none⟩) (c:=rows.length) (rs:=rows) (by rw [e];exact i) (by rw [e];exact aqK _) (fun d f=>by
   cases f;refine ⟨.inl rfl,.inr ⟨j b ((bl _ _ _ _ _).2 rfl),?_⟩⟩
   simp [AH.kD,g]) (ON rows)
  rw [e]at this;exact this
theorem IE {F:Nat→Prop} {H:AH} {n:Nat} {cs:List Value} {r:iw} (h:ly H n cs r) (l:∀vs vo vt,cs=[.int .i64 r.en,vs,vo,vt,.int .i64 r.cost,.int .i64 r.used,.int .i64 r.wh]→∀b,aR vs b∨aR vo b∨aR vt b→F b):gY F H (kY r) cs:=by
 obtain ⟨vs,vo,vt,e,a,b,c,d⟩:=h.is;have k:=l vs vo vt e;have j:=AA a (fun x f=>k x (.inl f));have i:=AA b (fun x f=>k x (.inr (.inl f)));have g:=AA c (fun x f=>k x (.inr (.inr f)));have p:(bg r.store).map (fun r=>r.map PV.v)=ir r.store:=by simp [bg,ir,pi,Function.comp_def]
 have o:(cY r.outs).map (fun r=>r.map PV.v)=wz r.outs:=by simp [cY,Am,wz,pi,Function.comp_def]
 have m:(dB r.trace).map (fun r=>r.map PV.v)=Sb r.trace:=by simp [dB,Ev.row,Sb,pi,Function.comp_def]
 rw [p]at j;rw [o]at i;rw [m]at g;subst e;exact .cons (.v _) (.cons j (.cons i (.cons g (.cons (.v _) (.cons (.v _) (.cons (.v _) .nil))))))
theorem AB {p:bC} {t:gA} {fuel:Int} (u:jz p) (r:wu t):Fz E O 47 [.agg (aI p),pi fuel,.agg (iA t)] (.fF [.agg (kY (lz p fuel t)),pi (gC p fuel t)]):=by
 intro F H j J S g
 cases g with|cons a g=>
 cases g with|cons b g=>
 cases g with|cons c g=>
 cases g;cases b;obtain ⟨M,rfl,D⟩:=tv (by simp) a;obtain ⟨L,rfl,B⟩:=tv (by simp) c;refine (LM S.wf (wy u D) (IB r B)).mono ?_;rintro x I ⟨cs,rfl,m,X⟩;obtain ⟨us,o,ut,e,A,y,w,d⟩:=m.is
 have K:∀{V:Nat→Prop} {x:Nat},¬ im ⟨F,H,j,[]⟩ V x:=by
  rintro V x ⟨b,_,s,_⟩;have:=aQ s;simp at this
 have no:∀{b:Nat} {F:Nat→Prop} {H:AH},¬ aU (Cx.mk F H j []).h b:=fun s=>by have:=aQ s;simp at this
 let n:Nat→Prop:=fun b=>F b∨(H.nx≤b∧(aR us b∨aR o b∨aR ut b))
 have k:gY n I (kY (lz p fuel t)) cs:=IE m (fun R Q P l b i=>by
  rw [e]at l;simp only [List.cons.injEq,true_and,and_true]at l;obtain ⟨rfl,rfl,rfl⟩:=l
  exact .inr ⟨d b i,i⟩)
 refine ⟨_,[],n,j,⟨rfl,rfl,by simp [kY]⟩,?_,?_,?_⟩
 ·exact .fF (.cons (.agg (k.qS (C:=⟨_,_,_,_⟩))) (.cons (.v _) .nil))
 ·exact {
   wf:=X.wf S.wf
   fz:=fun x f=>by
    rcases f with q|⟨_,q|q|q⟩
    ·exact aq3 (S.fz x q) X.nx
    ·exact A.lt q
    ·exact y.lt q
    ·exact w.lt q
   inj:=fun b N s=>absurd s no
   aR:=fun b z cs e=>by simp at e
   yp:=fun b es e=>by simp at e}
 ·exact {
   n0:=X.n0
   nx:=X.nx
   fz:=fun x f=>⟨.inl f,X.old x (S.fz x f)⟩
   fo:=fun x f _ G=>by
    rcases G with q|⟨q,_⟩
    ·exact q
    ·dsimp only at f;omega
   out:=fun x f _=>X.old x f
   loc:=fun b d=>absurd d no
   len:=fun _=>aq8 _
   le:=fun b d=>absurd d (aq6 _)
   uD:=fun b d=>absurd d (aq6 _)
   vY:=fun b d=>absurd d (aq6 _)}
open Go Go.RowKit
theorem My {l:List bh} {m:Int} (ok:tu l) (g:l.length<2^60) (f:0≤m∧m≤1000000):Fz E O 10 [.fs 5 (bW l),pi m] (pb (decide (au l≤m))):=
 Fz.pE fun F H h i w c=>by
  cases c with|cons a c=>
  cases c with|cons b c=>
  cases c;cases b;obtain ⟨rs,e,d,_⟩:=iO (Ms a);exact xE w g e (pD ok d) f
theorem Yj {p:bC} (c:jz p):Fz E O 40 [.agg (aI p)] (pb (bw p)):=
 Fz.pE fun F H e f w b=>by
  cases b with|cons a b=>
  cases b;obtain ⟨g,rfl,d⟩:=tv (by simp) a;exact Qn w (wy c d)
theorem pG {p:bC} (c:jz p):Fz E O 37 [.agg (aI p)] (pi (if bw p=true then 0 else 30)):=
 Fz.pE fun F H e f w b=>by
  cases b with|cons a b=>
  cases b;obtain ⟨g,rfl,d⟩:=tv (by simp) a;exact qc w (wy c d)
theorem yI {p:bC} {t:gA} (e:jz p) (d:wu t):Fz E O 38 [.agg (aI p),.agg (iA t)] (pi (gC p 0 t)):=
 Fz.pE fun F H g h w b=>by
  cases b with|cons a b=>
  cases b with|cons c b=>
  cases b;obtain ⟨j,rfl,f⟩:=tv (by simp) a;obtain ⟨i,rfl,h2⟩:=tv (by simp) c;exact DH w (wy e f) (IB d h2)
theorem Mz {w:Int} {V:List Vr} {l:List Int} (f:V.length<2^60) (e:l.length<2^60):Fz E O 14 [pi w,gk V,lG l] (pb (bB w V l)):=
 Fz.pE fun F H g h i d=>by
  cases d with|cons a d=>
  cases d with|cons b d=>
  cases d with|cons c d=>
  cases d;cases a;refine (Gd (yG (Ms b)) f (kX (Ms c)) e).mono ?_;rintro x j ⟨rfl,rfl⟩;exact ⟨rfl,Ext.refl _⟩
theorem wC {l m:List Int} (d:l.length≤2^60):Fz E O 29 [lG l,lG m] (pb (decide (l=m))):=
 Fz.pE fun F H e f g a=>by
  cases a with|cons b a=>
  cases a with|cons c a=>
  cases a;refine (GP (kX (Ms b)) (kX (Ms c)) d).mono ?_;rintro x h ⟨rfl,rfl⟩;exact ⟨rfl,Ext.refl _⟩
theorem mV {l:List Int} (c:l.length≤2^40):Fo E O 70 [lG l] 1 l.length (l.map pi):=by
 have:=Fo.pE (f:=70) (args:=[lG l]) (rows:=bg l) Nat.one_pos (fun F H e g w d=>by
  cases d with|cons a b=>
  cases b
  exact kl w (kX (Ms a)) c)
 rw [fS]at this
 simpa [bg]using this
end P
section
open Go
def AD (p:bC) (fuel:Int) (s ps:List Int):Int:=(lz p fuel ⟨s,ps⟩).en
def aY (p:bC):Nat:=2^p.w.toNat
def kids (p:bC) (ps:List Int):List (List Int):=(List.range (aY p)).map fun(a:Nat)=>ps++[(a:Int)]
def jX {α:Type}:List (Option (List α))→Option (List α)
 |[]=>some []
 |x::l=>x.bind fun a=>(jX l).map fun b=>a++b
theorem yJ {α:Type} (a b:List (Option (List α))):jX (a++b)=(jX a).bind fun x=>(jX b).map fun y=>x++y:=by
 induction a with
 |nil=>simp [jX]
 |cons x a ih=>
  simp only [List.cons_append,jX,ih]
  cases x with
  |none=>rfl
  |some u=>cases jX a<;>cases jX b<;>simp
def leaves (p:bC) (fuel:Int) (s:List Int):Nat→List Int→Option (List (List Int))
 |0,ps=>if AD p fuel s ps=4 then none else some [ps]
 |d+1,ps=>if AD p fuel s ps=4 then jX ((kids p ps).map fun q=>leaves p fuel s d q)else some [ps]
def under (p:bC) (fuel:Int) (s ps:List Int):Option (List (List Int)):=leaves p fuel s (16- ps.length) ps
theorem mW {p:bC} {fuel:Int} {s ps:List Int} (h:AD p fuel s ps≠4):under p fuel s ps=some [ps]:=by
 unfold under;cases 16- ps.length<;>simp [leaves,h]
theorem tz {p:bC} {fuel:Int} {s ps:List Int} (h:AD p fuel s ps=4) (a:16≤ps.length):under p fuel s ps=none:=by
 unfold under;rw [show 16- ps.length=0 by omega,leaves,if_pos h]
theorem mm {p:bC} {ps q:List Int} (h:q∈kids p ps):q.length=ps.length+1:=by
 simp only [kids,ard]at h;obtain ⟨a,_,rfl⟩:=h;simp
theorem tA {p:bC} {fuel:Int} {s ps:List Int} (h:AD p fuel s ps=4) (c:ps.length<16):under p fuel s ps=jX ((kids p ps).map (under p fuel s)):=by
 unfold under
 obtain ⟨d,b⟩:∃d,16- ps.length=d+1:=⟨15- ps.length,by omega⟩
 rw [b,leaves,if_pos h];congr 1;refine List.map_congr_left fun q a=>?_
 rw [mm a,show 16- (ps.length+1)=d by omega]
def jK (p:bC) (fuel:Int) (s:List Int):Option (List (List Int)):=under p fuel s []
def ofM (p:bC) (fuel:Int) (s:List Int) (most:Nat):Option (List (List Int)):=(jK p fuel s).bind fun l=>if l.length≤most then some l else none
def rest (p:bC) (fuel:Int) (s:List Int) (lH:List (List Int)):Option (List (List Int)):=jX (lH.reverse.map (under p fuel s))
theorem fB {p:bC} {fuel:Int} {s:List Int} (st:List (List Int)) (q:List Int):rest p fuel s (st++[q])=(under p fuel s q).bind fun x=>(rest p fuel s st).map fun y=>x++y:=by
 simp [rest,jX]
theorem uK {p:bC} {fuel:Int} {s:List Int} (st a:List (List Int)):rest p fuel s (st++a.reverse)=(jX (a.map (under p fuel s))).bind fun x=>(rest p fuel s st).map fun y=>x++y:=by
 simp [rest,yJ]
def tB (lH:List (List Int)):Prop:=∀i q,lH[i]?=some q→i≤255*q.length∧q.length≤16∧∀n∈q,0≤n∧n<256
theorem qo {st:List (List Int)} {q:List Int} (h:tB (st++[q])):tB st:=fun i u hi=>h i u (by
 rw [aqT (aqM.1 hi).1];exact hi)
theorem uL {a:List (List Int)} (h:tB a):a.length≤4081:=by
 rcases Nat.eq_zero_or_pos a.length with b|b
 ·omega
 ·have:=h (a.length- 1) (a[a.length- 1]'(by omega)) (aqG (by omega))
  have c:=this.1;have h2:=this.2.1;omega
theorem tC {p:bC} {st:List (List Int)} {q:List Int} (e:aY p≤256) (h:tB (st++[q])) (g:q.length<16):tB (st++(kids p q).reverse):=by
 intro i u hi;have f:=(h st.length q (by simp)).1;rcases Nat.lt_or_ge i st.length with c|c
 ·rw [aqT c]at hi
  exact qo h i u hi
 ·rw [aqX c]at hi
  have b:u∈kids p q:=by
   have:=aqL hi
   simpa using this
  have j:=mm b
  have l:i- st.length<(kids p q).length:=by
   have:=(aqM.1 hi).1
   simpa using this
  have k:(kids p q).length=aY p:=by simp [kids]
  refine ⟨by omega,by omega,fun n d=>?_⟩;simp only [kids,ard,List.mem_range]at b;obtain ⟨a,m,rfl⟩:=b;rcases aq0.1 d with h2|h2
  ·exact (h st.length q (by simp)).2.2 n h2
  ·simp at h2;omega
theorem uM {p:bC} {q:List Int} {j:Nat} (h:j<aY p):(kids p q).reverse.take (j+1)=(kids p q).reverse.take j++[q++[((aY p- 1- j:Nat):Int)]]:=by
 have a:(kids p q).length=aY p:=by simp [kids]
 rw [aq1,List.getElem?_reverse (by omega),a];simp only [kids,ara,List.getElem?_range (show aY p- 1- j<aY p by omega)];rfl
theorem pH {p:bC} {q:List Int}:(kids p q).reverse.take (aY p)=(kids p q).reverse:=aqN (by simp [kids])
def jY (lH:List (List Int)):Nat:=(lH.map fun q=>257^(17- q.length)).sum
theorem fC (a b:List (List Int)):jY (a++b)=jY a+jY b:=by simp [jY]
theorem uN {p:bC} {q:List Int} (a:aY p≤256) (f:q.length<16):jY (kids p q).reverse<257^(17- q.length):=by
 have d:jY (kids p q).reverse=aY p*257^(16- q.length):=by
  have:∀l:List (List Int),(∀u∈l,u.length=q.length+1)→jY l=l.length*257^(16- q.length):=by
   intro l
   induction l with
   |nil=>intro _;simp [jY]
   |cons u l ih=>
    intro h;have e:jY (u::l)=257^(17- u.length)+jY l:=by simp [jY]
    rw [e,ih fun v b=>h v (by simp [b]),h u (by simp),show 17- (q.length+1)=16- q.length by omega,List.length_cons,Nat.succ_mul];omega
  rw [this _ fun u c=>mm (by simpa using c)];simp [kids]
 rw [d,show 17- q.length=(16- q.length)+1 by omega,Nat.pow_succ];have:0<257^(16- q.length):=Nat.pow_pos (by omega)
 calc aY p*257^(16- q.length)≤256*257^(16- q.length):=Nat.mul_le_mul_right _ a
  _<257^(16- q.length)*257:=by omega
theorem qZ {p:bC} (h:bw p=true):1≤p.w∧p.w≤8:=by
 simp only [bw,aA,bA,aqJ,aqS]at h;exact h.1.1
theorem qp {p:bC} (h:bw p=true):aY p≤256:=by
 have a:=qZ h;have:p.w.toNat≤8:=by omega
 exact aq2 (Nat.pow_le_pow_right (by omega) this) (by decide)
end
namespace P
open Go Go.RowKit
def str (l:List gA):List (List PV):=l.map iA
def yK (l:List gA):List PV:=(str l).flatten
@[simp]theorem abj:str []=[]:=rfl
@[simp]theorem abk:yK []=[]:=rfl
@[simp]theorem yL (a:gA) (l:List gA):yK (a::l)=iA a++yK l:=by simp [yK,str]
theorem kZ (a b:List gA):yK (a++b)=yK a++yK b:=by simp [yK,str]
@[simp]theorem AE (l:List gA):(str l).length=l.length:=by simp [str]
@[simp]theorem T6 (t:gA):(iA t).take 2=iA t:=rfl
@[simp]theorem T7 (p:bC):(aI p).take 3=aI p:=rfl
@[simp]theorem OO (p:bC):(aI p).length=3:=rfl
@[simp]theorem OP (t:gA):(iA t).length=2:=rfl
@[simp]theorem AG:∀l:List gA,(yK l).length=l.length*2
 |[]=>rfl
 |a::l=>by rw [yL,aqP,AG l];simp;omega
@[simp]theorem wD:∀l:List gA,(yK l).all rL=true
 |[]=>rfl
 |a::l=>by rw [yL,List.all_append,wD l];simp [rL,iA]
@[simp]theorem abl (l:List gA):dE (yK l)=true:=ts (wD l)
theorem Cu (l:List gA) (i:Nat):(str l)[i]?=(l[i]?).map iA:=by simp [str]
theorem MA (l:List gA):∀r∈str l,r.length=2:=by
 intro r a;simp only [str,ard]at a;obtain ⟨t,_,rfl⟩:=a;rfl
def cM (p:bC) (fuel:Int):Int:=if bw p=false then 30 else if fuel<0∨4096<fuel then 1 else 0
theorem Sg {p:bC} {fuel:Int} (b:jz p):Fz E O 13 [.agg (aI p),pi fuel] (pi (cM p fuel)):=by
 refine Fz.body (F:=Y5) rfl rfl rfl rfl ?_;simp (maxSteps:=9^7)-implicitDefEqProofs+contextual [-getElem?_pos,aqF,Y5,aI];refine bP (Yj b) ?_ ?_ ?_
 iterate 2· simp (maxDischargeDepth:=8)-implicitDefEqProofs [-getElem?_pos,aqF,aI]
 cases h:bw p with
 |false=>
  simp (maxSteps:=9^7)-implicitDefEqProofs+contextual [-getElem?_pos,aqF,cM,h]
 |true=>
  by_cases a:fuel<0
  ·simp (maxSteps:=9^7)-implicitDefEqProofs [-getElem?_pos,aqF,cM,h,a]
  ·by_cases h2:4096<fuel
   ·simp (maxSteps:=9^7)-implicitDefEqProofs [-getElem?_pos,aqF,cM,h,a,h2]
   ·simp (maxSteps:=9^7)-implicitDefEqProofs [-getElem?_pos,aqF,cM,h,a,h2]
theorem yM {t:gA} (a:wu t):Fz E O 44 [.agg (iA t),.agg (iA t)] (pb true):=by
 refine Fz.body (F:=Zh) rfl rfl rfl rfl ?_;simp (maxSteps:=9^7)-implicitDefEqProofs+contextual [-getElem?_pos,aqF,Zh,iA];refine bP (wC (l:=t.store) (m:=t.store) (by have:=a.1;omega)) ?_ ?_ ?_
 iterate 2· simp (maxDischargeDepth:=8)-implicitDefEqProofs [-getElem?_pos,aqF]
 simp (maxSteps:=9^7)-implicitDefEqProofs+contextual [-getElem?_pos,aqF];refine bP (wC (l:=t.cd) (m:=t.cd) (by have:=a.2.1;omega)) ?_ ?_ ?_
 iterate 2· simp (maxDischargeDepth:=8)-implicitDefEqProofs [-getElem?_pos,aqF]
 simp (maxSteps:=9^7)-implicitDefEqProofs+contextual [-getElem?_pos,aqF]
theorem Sh {l:List gA} (ok:∀t∈l,wu t) (g:l.length<2^60):Fz E O 16 [.fs 2 (str l),.fs 2 (str l)] (pb true):=by
 refine Fz.body (F:=Y7) rfl rfl rfl rfl ?_;simp (maxSteps:=9^7)-implicitDefEqProofs+contextual [-getElem?_pos,aqF,Y7];refine jr (fun i a h=>h=[]∧a.get 0= .fs 2 (str l)∧a.get 1= .fs 2 (str l)∧a.get 5=pi i) l.length ?_ ?_
 ·exact ⟨rfl,by simp,by simp,by simp⟩
 rintro i a h hi ⟨rfl,c,b,d⟩;by_cases h:i<l.length
 ·obtain ⟨t,e⟩:∃t,l[i]?=some t:=⟨_,aqG h⟩
  have f:IntKind.i64.wrap ((i:Int)+1)=((i+1:Nat):Int):=ai ⟨by omega,by omega⟩;simp (maxSteps:=9^7)-implicitDefEqProofs+contextual [-getElem?_pos,aqF,c,b,d,h,Cu,e];refine bP (yM (ok t (aqL e))) ?_ ?_ ?_
  iterate 2· simp (maxDischargeDepth:=8)-implicitDefEqProofs [-getElem?_pos,aqF]
  simp (maxSteps:=9^7)-implicitDefEqProofs+contextual [-getElem?_pos,aqF,c,b,d,f];exact .for h ⟨rfl,by simp [c],by simp [b],by simp⟩
 ·obtain rfl:i=l.length:=by omega
  simp (maxSteps:=9^7)-implicitDefEqProofs+contextual [-getElem?_pos,aqF,c,b,d]
end P
end Go.Proofs.YtppcmpmnglaleaaGreatDoor.A
