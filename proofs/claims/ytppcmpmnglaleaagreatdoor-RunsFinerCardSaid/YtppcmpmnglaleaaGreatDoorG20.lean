/- Texts that stand one behind the other: Pm9, Pm10, Pm11, Pm12, Pm13, Pm14, Pm15, Q1, Q2, Q3, Q4, Q5, Q6, Q7, Q8, Q9, Q10, Q11, Q13, Q14, Q15, U1, U2, U3, U4, U5, U6, U7. -/
import Derived.Test.YtppcmpmnglaleaaGreatDoorG19
set_option linter.unusedVariables false
set_option linter.unusedSimpArgs false
namespace Go.Proofs.YtppcmpmnglaleaaGreatDoor.A
namespace P
open Go Go.RowKit
section
variable{E:Env} {O:jk} {n:Nat} {Q:Ex→PF→PH→Prop} {ks:List Kp} {fr:PF} {h:PH}
theorem JD.mono {f:Nat} {args:List PV} {W:Nat→Prop} {R R':PV→PH→Prop} (k:JD E O f args h W R) (i:∀r c,R r c→R' r c):JD E O f args h W R':=fun F H e g S j=>
 (k F H e g S j).mono fun x m ⟨r,c,l,d,a,b⟩=>⟨r,c,l,d,i _ _ a,b⟩
def vI.get (fr:PF) (h:PH):RS→Option PV
 | .tmp t=>some (fr.get t)
 | .cell t _=>Oi h (fr.get t)
 | .cells t n=>vC n h (fr.get t)
def vI.all (fr:PF) (h:PH):List RS→Option (List PV)
 |[]=>some []
 |r::l=>match vI.get fr h r,vI.all fr h l with|some v,some vs=>some (v::vs)|_,_=>none
def oQ:List PV→PV
 |[v]=>v
 |vs=>.gN vs
def Mg (n:Nat) (r:PV) (h:PH) (r2:PV) (h2:PH):Prop:=
 ∀F H φ x,dO ⟨F,H,φ,h⟩→RV ⟨F,H,φ,h⟩ r x→∃F' dy,dO ⟨F',H,dy,h2⟩∧RV ⟨F',H,dy,h2⟩ r2 x∧∀C0:Cx,C0.h.length=n→dq n tI C0 ⟨F,H,φ,h⟩→dq n tI C0 ⟨F',H,dy,h2⟩
def RD (n:Nat) (res:List RS) (R:PV→PH→Prop):Ex→PF→PH→Prop
 | .exit _,_,_=>False
 |_,fr,h=>∃vs,vI.all fr h res=some vs∧∃r2 h2,Mg n (oQ vs) h r2 h2∧R r2 h2
theorem On {C:Cx} (S:dO C) {fr:PF} {d:Fr} (R:mC C fr d):∀{res:List RS} {ps:List PV},vI.all fr C.h res=some ps→∃xs,RS.all d C.H res=some xs∧cH C ps xs
 |[],ps,e=>by cases e;exact ⟨[],rfl,.nil⟩
 |r::l,ps,e=>by
  simp only [vI.all]at e;split at e
  case h_2=>cases e
  rename_i p q g h2;cases e;obtain ⟨xs,o,k⟩:=On S R h2
  obtain ⟨x,j,i⟩:∃x,RS.get d C.H r=some x∧RV C p x:=by
   cases r with
   |tmp t=>cases g;exact ⟨_,rfl,R t⟩
   |cell t _=>
    obtain ⟨y,b,f⟩:=Ok S (R t) g;refine ⟨y,?_,f⟩;simp only [RS.get]
    cases c:d.get t with
    |pointer a=>rw [c]at b;cases a<;>exact b
    |_=>rw [c]at b;cases b
   |cells t m=>
    obtain ⟨y,b,f⟩:=Ah S (R t) g;refine ⟨y,?_,f⟩;simp only [RS.get]
    cases c:d.get t with
    |pointer a=>rw [c]at b;cases a<;>exact b
    |_=>rw [c]at b;cases b
  exact ⟨x::xs,by simp only [RS.all,o,j],.cons i k⟩
theorem RE {C:Cx} {ps:List PV} {xs:List Value} (h:cH C ps xs):RV C (oQ ps) (pZ xs):=by
 cases h with
 |nil=>exact .gN (xs:=[]) .nil
 |cons a b=>
  cases b with
  |nil=>exact a
  |cons b c=>exact .gN (xs:=_::_::_) (.cons a (.cons b c))
theorem tt.body {f:Nat} {F:AF} {args:List PV} {R:PV→PH→Prop} (y:O f=none) (A:E f=some F) (z:args.length=F.np) (k:PK E O h.length (RD h.length F.res R) (.code F.body []) (PF.of args) h):tt E O f args h R:=by
 intro Fz H c a S u;refine Ca.body y A (by rw [←u.length,z]) ?_
 have L:Live ⟨Fz,H,c,h⟩ ⟨Fz,H,c,h⟩:=⟨S,dq.refl _ _ _⟩
 refine (k.sound (C0:=⟨Fz,H,c,h⟩) rfl Fz H c (Fr.of a) L (mC.of u)).mono ?_;intro ex B m q;simp only [UP]at q;obtain ⟨fr,M,K,t,q,p,I⟩:=q
 have key:∀a,vI.all fr t F.res=some a→∀b h2,Mg h.length (oQ a) t b h2→R b h2→∃j,RS.all B m F.res=some j∧∃r l s o,R r l∧RV ⟨s,m,o,l⟩ r (pZ j)∧dO ⟨s,m,o,l⟩∧dq h.length tI ⟨Fz,H,c,h⟩ ⟨s,m,o,l⟩:=by
  intro a e b h2 g d;obtain ⟨j,x,w⟩:=On p.1 I e;obtain ⟨J,v,D,G,C⟩:=g _ _ _ _ p.1 (RE w);exact ⟨j,x,b,h2,J,v,d,G,D,C _ rfl p.2⟩
 cases ex with
 |exit i=>exact q.elim
 |normal=>obtain ⟨a,e,b,h2,g,d⟩:=q;exact key a e b h2 g d
 |ret=>obtain ⟨a,e,b,h2,g,d⟩:=q;exact key a e b h2 g d
@[simp]theorem Xs (f:PF) (a b:Nat) (p:PV):(f.put a p).get b=if b=a then p else f.get b:=rfl
@[simp]theorem aax (l:List PV) (a:Nat):(PF.of l).get a=l.getD a .any:=rfl
@[simp]theorem agq (f:PF) (a:Nat) (p:PV):f.aN (some a) p=f.put a p:=rfl
@[simp]theorem agr (f:PF) (p:PV):f.aN none p=f:=rfl
@[simp]theorem ajS (f:PF) (a:Nat):eW f (.t a)=f.get a:=rfl
@[simp]theorem ajT (f:PF) (v:Value):eW f (.k v)=wE v:=rfl
@[simp]theorem ajU (f:PF) (a:Nat):eW f (.f a)= .fn a [] []:=rfl
@[simp]theorem aay (k:IntKind) (a:Int):wE (.int k a)= .v (.int k a):=rfl
@[simp]theorem Xt (a:Bool):wE (.bool a)= .v (.bool a):=rfl
@[simp]theorem aaz (a:ByteArray):wE (.string a)= .v (.string a):=rfl
@[simp]theorem ags (a:Option Addr) (b c:Nat):wE (.slice a b c)= .v (.slice a b c):=rfl
@[simp]theorem aaA (a:Option Addr):wE (.pointer a)= .v (.pointer a):=rfl
@[simp]theorem aaB (a:Option Nat):wE (.map a)= .v (.map a):=rfl
@[simp]theorem agt:wE .nilFunc= .v .nilFunc:=rfl
@[simp]theorem agu:wE .nilIface= .v .nilIface:=rfl
@[simp]theorem aaC (a:Array Value):wE (.agg a)= .agg (a.toList.map .v):=rfl
@[simp]theorem agv (V:List Nat) (fr:PF) (h:PH):Mp.up .pl V fr h= .pl:=rfl
@[simp]theorem agw (V:List Nat) (fr:PF) (h:PH):Mp.up .d0 V fr h= .d0:=rfl
@[simp]theorem agx (a:List AO) (ck:List (Nat×Nat×Nat)) (acc:List (PF×PH×List Nat)) (W V:List Nat) (fr:PF) (h:PH):Mp.up (.dr a ck acc W) V fr h= .dr a ck ((fr,h,V++W)::acc) (V++W):=rfl
@[simp]theorem aaD:PK E O n Q (.code .skip ks) fr h↔PK E O n Q (.done .normal ks) fr h:=⟨fun k=>by cases k;assumption,.skip⟩
@[simp]theorem agy:PK E O n Q (.code .ret ks) fr h↔PK E O n Q (.done .ret ks) fr h:=⟨fun k=>by cases k;assumption,.ret⟩
@[simp]theorem aaE (i:Nat):PK E O n Q (.code (.exit i) ks) fr h↔PK E O n Q (.done (.exit i) ks) fr h:=⟨fun k=>by cases k;assumption,.exit⟩
@[simp]theorem agz (l:List AO):PK E O n Q (.code (.bG l) ks) fr h↔PK E O n Q (.ops .pl l ks) fr h:=⟨fun k=>by cases k;assumption,.bG⟩
@[simp]theorem aaF (l:List AO) (c:Nat×Nat×Nat) (ck:List (Nat×Nat×Nat)):PK E O n Q (.code (.bQ l (c::ck)) ks) fr h↔PK E O n Q (.ops (.dr l (c::ck) [(fr,h,[])] []) l ks) fr h:=⟨fun k=>by cases k;assumption,.bQ⟩
@[simp]theorem Xu (l:List AO):PK E O n Q (.code (.bQ l []) ks) fr h↔PK E O n Q (.ops .d0 l ks) fr h:=⟨fun k=>by cases k;assumption,.B8⟩
@[simp]theorem agA (a b:AC):PK E O n Q (.code (.seq a b) ks) fr h↔PK E O n Q (.code a (.seq b::ks)) fr h:=⟨fun k=>by cases k;assumption,.seq⟩
@[simp]theorem Xv (i:Nat) (a:AC):PK E O n Q (.code (.block i a) ks) fr h↔PK E O n Q (.code a (.aS i::ks)) fr h:=⟨fun k=>by cases k;assumption,.block⟩
def PC (E:Env) (O:jk) (n:Nat) (Q:Ex→PF→PH→Prop) (p:PV) (a b:AC) (ks:List Kp) (fr:PF) (h:PH):Prop:=∃t,p= .v (.bool t)∧PK E O n Q (.code (bif t then a else b) ks) fr h
@[simp]theorem aaG (x:X) (a b:AC):PK E O n Q (.code (.cond x a b) ks) fr h↔PC E O n Q (eW fr x) a b ks fr h:=⟨fun k=>by cases k with|cond e q=>exact ⟨_,e,q⟩,fun⟨t,e,q⟩=>.cond e q⟩
@[simp]theorem aoo (t:Bool) (a b:AC):PC E O n Q (.v (.bool t)) a b ks fr h↔br (t=true) (PK E O n Q (.code a ks) fr h) (PK E O n Q (.code b ks) fr h):=by
 unfold PC;cases t
 ·simp only [reduceCtorEq,Qh]
  exact ⟨fun⟨t,e,q⟩=>by cases e;exact q,fun q=>⟨_,rfl,q⟩⟩
 ·simp only [Qg]
  exact ⟨fun⟨t,e,q⟩=>by cases e;exact q,fun q=>⟨_,rfl,q⟩⟩
@[simp]theorem agB (ex:Ex):PK E O n Q (.done ex []) fr h↔Q ex fr h:=⟨fun k=>by cases k;assumption,.Ma⟩
@[simp]theorem ajV (b:AC):PK E O n Q (.done .normal (.seq b::ks)) fr h↔PK E O n Q (.code b ks) fr h:=⟨fun k=>by cases k;assumption,.dns⟩
@[simp]theorem ajW (i:Nat):PK E O n Q (.done .normal (.aS i::ks)) fr h↔PK E O n Q (.done .normal ks) fr h:=⟨fun k=>by cases k;assumption,.dnb⟩
@[simp]theorem ajX (i:Nat) (b:AC):PK E O n Q (.done (.exit i) (.seq b::ks)) fr h↔PK E O n Q (.done (.exit i) ks) fr h:=⟨fun k=>by cases k;assumption,.des⟩
@[simp]theorem agC (i:Nat):PK E O n Q (.done (.exit i) (.aS i::ks)) fr h↔PK E O n Q (.done .normal ks) fr h:=⟨fun k=>by cases k with|HX q=>exact q|Mb q=>exact absurd rfl q,.HX⟩
@[simp]theorem ajY (i k:Nat) (I:Nat→PF→PH→Prop):PK E O n Q (.done (.exit i) (.lp I k::ks)) fr h↔PK E O n Q (.done (.exit i) ks) fr h:=⟨fun k=>by cases k;assumption,.del⟩
@[simp]theorem aoq (k:Kp):PK E O n Q (.done .ret (k::ks)) fr h↔PK E O n Q (.done .ret ks) fr h:=⟨fun k=>by cases k;assumption,.Mc⟩
def RG (n:Nat) (I:Nat→PF→PH→Prop) (k:Nat) (fr:PF) (h:PH):Prop:=∃j,j<k∧∃eV h2,Gh n fr h eV h2∧I j eV h2
@[simp]theorem ajZ (I:Nat→PF→PH→Prop) (k:Nat):PK E O n Q (.done .normal (.lp I k::ks)) fr h↔RG n I k fr h:=
 ⟨fun q=>by cases q with|Xr a b c=>exact ⟨_,a,_,_,b,c⟩,fun⟨_,a,_,_,b,c⟩=>.Xr a b c⟩
theorem RG.ofG {I:Nat→PF→PH→Prop} {k j:Nat} {a:PF} {h2:PH} (b:j<k) (g:Gh n fr h a h2) (c:I j a h2):RG n I k fr h:=⟨j,b,a,h2,g,c⟩
def HY (I:Nat→PF→PH→Prop) (N:Nat):Nat→PF→PH→Prop:=fun k fr h=>k≤N∧I (N- k) fr h
theorem RG.for {I:Nat→PF→PH→Prop} {N i:Nat} (hi:i<N) (a:I (i+1) fr h):RG n (HY I N) (N- i) fr h:=
 ⟨N- (i+1),by omega,fr,h,Gh.refl _ _ _,by omega,by rw [show N- (N- (i+1))=i+1 by omega];exact a⟩
theorem RG.xZ {I:Nat→PF→PH→Prop} {N i:Nat} {a:PF} {h2:PH} (hi:i<N) (g:Gh n fr h a h2) (b:I (i+1) a h2):RG n (HY I N) (N- i) fr h:=
 ⟨N- (i+1),by omega,a,h2,g,by omega,by rw [show N- (N- (i+1))=i+1 by omega];exact b⟩
theorem x7 {a:AC} {b:PF} {h2:PH} (I:Nat→PF→PH→Prop) (k:Nat) (g:Gh n fr h b h2) (c:I k b h2) (step:∀k fr h,I k fr h→PK E O n Q (.code a (.lp I k::ks)) fr h):PK E O n Q (.code (.loop a) ks) fr h:=.loop I k step g c
theorem iw {a:AC} {c:PF} {h2:PH} (I:Nat→PF→PH→Prop) (N:Nat) (g:Gh n fr h c h2) (d:I 0 c h2) (step:∀i fr h,i≤N→I i fr h→PK E O n Q (.code a (.lp (HY I N) (N- i)::ks)) fr h):PK E O n Q (.code (.loop a) ks) fr h:=
 x7 (HY I N) N g ⟨aqY _,by rw [Nat.sub_self];exact d⟩ fun k fr h b=>by
  have:=step (N- k) fr h (by omega) b.2;rwa [show N- (N- k)=k by have:=b.1;omega]at this
theorem pL {a:AC} (I:Nat→PF→PH→Prop) (N:Nat) (b:I 0 fr h) (step:∀i fr h,i≤N→I i fr h→PK E O n Q (.code a (.lp (HY I N) (N- i)::ks)) fr h):PK E O n Q (.code (.loop a) ks) fr h:=iw I N (Gh.refl _ _ _) b step
@[simp]theorem agD (res:List RS) (R:PV→PH→Prop):RD n res R .normal fr h=∃vs,vI.all fr h res=some vs∧∃a h2,Mg n (oQ vs) h a h2∧R a h2:=rfl
@[simp]theorem agE (res:List RS) (R:PV→PH→Prop):RD n res R .ret fr h=∃vs,vI.all fr h res=some vs∧∃a h2,Mg n (oQ vs) h a h2∧R a h2:=rfl
variable{m:Mp} {l:List AO} {d:Option Nat}
@[simp]theorem agF:PK E O n Q (.ops .pl [] ks) fr h↔PK E O n Q (.done .normal ks) fr h:=⟨fun k=>by cases k;assumption,.L9⟩
@[simp]theorem aaH:PK E O n Q (.ops .d0 [] ks) fr h↔PK E O n Q (.done .normal ks) fr h:=⟨fun k=>by cases k;assumption,.B9⟩
@[simp]theorem aaI (c:List AO) (ck:List (Nat×Nat×Nat)) (acc:List (PF×PH×List Nat)) (W:List Nat):PK E O n Q (.ops (.dr c ck acc W) [] ks) fr h↔Xp c ck acc=true∧PK E O n Q (.done .normal ks) fr h:=⟨fun k=>by cases k with|xY a b=>exact ⟨a,b⟩,fun⟨a,b⟩=>.xY a b⟩
def PG (E:Env) (O:jk) (n:Nat) (Q:Ex→PF→PH→Prop) (g:PV) (b:Bool) (m:Mp) (d:Option Nat) (p:cl) (l:List AO) (ks:List Kp) (fr:PF) (h:PH):Prop:=∃x,g= .v x∧br (dZ b x=true) (PK E O n Q (.ops m (⟨none,d,p⟩::l) ks) fr h) (PK E O n Q (.ops (m.up [] (fr.aN d (.v undef)) h) l ks) (fr.aN d (.v undef)) h)
@[simp]theorem aor (t:Nat) (b:Bool) (p:cl):PK E O n Q (.ops m (⟨some (t,b),d,p⟩::l) ks) fr h↔PG E O n Q (fr.get t) b m d p l ks fr h:=by
 constructor
 ·intro k
  cases k with
  |Xq e w q=>exact ⟨_,e,fun _=>q,fun k=>absurd w k⟩
  |HW e w q=>exact ⟨_,e,fun k=>(Bool.noConfusion (w.symm.trans k)),fun _=>q⟩
 ·rintro ⟨x,e,q⟩
  cases w:dZ b x with
  |true=>exact .Xq e w (q.1 w)
  |false=>exact .HW e w (q.2 (by simp [w]))
@[simp]theorem aot (t:Bool) (p:cl):PG E O n Q (.v (.bool t)) true m d p l ks fr h↔br (t=true) (PK E O n Q (.ops m (⟨none,d,p⟩::l) ks) fr h) (PK E O n Q (.ops (m.up [] (fr.aN d (.v undef)) h) l ks) (fr.aN d (.v undef)) h):=by
 unfold PG;exact ⟨fun⟨x,e,q⟩=>by cases e;simpa using q,fun q=>⟨_,rfl,by simpa using q⟩⟩
@[simp]theorem aou (t:Bool) (p:cl):PG E O n Q (.v (.bool t)) false m d p l ks fr h↔br (t=true) (PK E O n Q (.ops (m.up [] (fr.aN d (.v undef)) h) l ks) (fr.aN d (.v undef)) h) (PK E O n Q (.ops m (⟨none,d,p⟩::l) ks) fr h):=by
 unfold PG;refine ⟨fun⟨x,e,q⟩=>?_,fun q=>⟨_,rfl,?_⟩⟩
 ·cases e;cases t<;>simpa using q
 ·cases t<;>simpa using q
@[simp]theorem aov (b:Bool) (p:cl):PG E O n Q (.v undef) b m d p l ks fr h↔PK E O n Q (.ops (m.up [] (fr.aN d (.v undef)) h) l ks) (fr.aN d (.v undef)) h:=by
 unfold PG;refine ⟨fun⟨x,e,q⟩=>?_,fun q=>⟨_,rfl,by simpa using q⟩⟩;cases e;simpa using q
def PO (E:Env) (O:jk) (n:Nat) (Q:Ex→PF→PH→Prop) (r:Option (PV×PH)) (V:List Nat) (d:Option Nat) (m:Mp) (l:List AO) (ks:List Kp) (fr:PF):Prop:=∃v h',r=some (v,h')∧PK E O n Q (.ops (m.up V (fr.aN d v) h') l ks) (fr.aN d v) h'
@[simp]theorem Xw (v:PV) (h':PH) (V:List Nat):PO E O n Q (some (v,h')) V d m l ks fr↔PK E O n Q (.ops (m.up V (fr.aN d v) h') l ks) (fr.aN d v) h':=⟨fun⟨_,_,e,q⟩=>by cases e;exact q,fun q=>⟨_,_,rfl,q⟩⟩
@[simp]theorem aow (V:List Nat):PO E O n Q none V d m l ks fr↔False:=⟨fun⟨_,_,e,_⟩=>(by cases e),False.elim⟩
def P1 (E:Env) (O:jk) (n:Nat) (Q:Ex→PF→PH→Prop) (r:Option PV) (d:Option Nat) (m:Mp) (l:List AO) (ks:List Kp) (fr:PF) (h:PH):Prop:=∃v,r=some v∧PK E O n Q (.ops (m.up [] (fr.aN d v) h) l ks) (fr.aN d v) h
@[simp]theorem aox (v:PV):P1 E O n Q (some v) d m l ks fr h↔PK E O n Q (.ops (m.up [] (fr.aN d v) h) l ks) (fr.aN d v) h:=⟨fun⟨_,e,q⟩=>by cases e;exact q,fun q=>⟨_,rfl,q⟩⟩
@[simp]theorem aoy:P1 E O n Q none d m l ks fr h↔False:=⟨fun⟨_,e,_⟩=>(by cases e),False.elim⟩
@[simp]theorem aj1 (c:Prop) [Decidable c] (r:Option PV):P1 E O n Q (if c then r else none) d m l ks fr h↔c∧P1 E O n Q r d m l ks fr h:=by by_cases h:c<;>simp [h]
def PS (E:Env) (O:jk) (n:Nat) (Q:Ex→PF→PH→Prop) (r:Option PH) (V:List Nat) (d:Option Nat) (m:Mp) (l:List AO) (ks:List Kp) (fr:PF):Prop:=∃h',r=some h'∧PK E O n Q (.ops (m.up V (fr.aN d (.v undef)) h') l ks) (fr.aN d (.v undef)) h'
@[simp]theorem aoz (h':PH) (V:List Nat):PS E O n Q (some h') V d m l ks fr↔PK E O n Q (.ops (m.up V (fr.aN d (.v undef)) h') l ks) (fr.aN d (.v undef)) h':=⟨fun⟨_,e,q⟩=>by cases e;exact q,fun q=>⟨_,rfl,q⟩⟩
@[simp]theorem aoA (V:List Nat):PS E O n Q none V d m l ks fr↔False:=⟨fun⟨_,e,_⟩=>(by cases e),False.elim⟩
@[simp]theorem aj2 (c:Prop) [Decidable c] (r:Option PH) (V:List Nat):PS E O n Q (if c then r else none) V d m l ks fr↔c∧PS E O n Q r V d m l ks fr:=by by_cases h:c<;>simp [h]
theorem mQ {p:cl} (a:p.aT=false):PK E O n Q (.ops m (⟨none,d,p⟩::l) ks) fr h↔PO E O n Q (pop p (eW fr) h) (vE p (eW fr)) d m l ks fr:=by
 constructor
 ·intro k
  cases k with
  |op e q=>exact ⟨_,_,e,q⟩
  |call=>cases a
  |callv=>cases a
 ·exact fun⟨_,_,e,q⟩=>.op e q
theorem RH (r:Option PV):PO E O n Q (r.map fun v=>(v,h)) [] d m l ks fr↔P1 E O n Q r d m l ks fr h:=by cases r<;>simp
theorem Cb (r:Option PH) (V:List Nat):PO E O n Q (r.map fun a=>(.v undef,a)) V d m l ks fr↔PS E O n Q r V d m l ks fr:=by cases r<;>simp
theorem mD {p:cl} {r:Option PV} (a:p.aT=false) (e:pop p (eW fr) h=r.map fun v=>(v,h)) (w:vE p (eW fr)=[]):PK E O n Q (.ops m (⟨none,d,p⟩::l) ks) fr h↔P1 E O n Q r d m l ks fr h:=by rw [mQ a,e,w,RH]
@[simp]theorem aj3 (x:X):PK E O n Q (.ops m (⟨none,d,.mv x⟩::l) ks) fr h↔PK E O n Q (.ops (m.up [] (fr.aN d (eW fr x)) h) l ks) (fr.aN d (eW fr x)) h:=by rw [mQ rfl];simp [pop,vE]
@[simp]theorem aaJ (c a b:X):PK E O n Q (.ops m (⟨none,d,.pick c a b⟩::l) ks) fr h↔P1 E O n Q (Hz (eW fr c) (eW fr a) (eW fr b)) d m l ks fr h:=mD rfl rfl rfl
@[simp]theorem Xx (z:List Value):PK E O n Q (.ops m (⟨none,d,.alloc z⟩::l) ks) fr h↔PK E O n Q (.ops (m.up [] (fr.aN d (.ref h.length 0 z.length)) (h++[.cells z.length (z.map .v)])) l ks) (fr.aN d (.ref h.length 0 z.length)) (h++[.cells z.length (z.map .v)]):=by rw [mQ rfl];simp [pop,vE]
@[simp]theorem agG (x:X):PK E O n Q (.ops m (⟨none,d,.box x⟩::l) ks) fr h↔PO E O n Q (LV h (eW fr x)) [] d m l ks fr:=mQ rfl
@[simp]theorem Xy (z:List Value) (ps:List (Nat×Nat×X)):PK E O n Q (.ops m (⟨none,d,.build z ps⟩::l) ks) fr h↔P1 E O n Q ((oM (z.map .v) (ps.map fun p=>(p.1,p.2.1,eW fr p.2.2))).map .agg) d m l ks fr h:=mD rfl (by simp [pop,Option.map_map];rfl) rfl
@[simp]theorem agH (len sz:Nat) (z:List Value) (ps:List (Nat×Nat×X)):PK E O n Q (.ops m (⟨none,d,.bsl len sz z ps⟩::l) ks) fr h↔PO E O n Q (LS len sz z h (ps.map fun p=>(p.1,p.2.1,eW fr p.2.2))) [] d m l ks fr:=mQ rfl
@[simp]theorem aj4 (x:X):PK E O n Q (.ops m (⟨none,d,.ld x⟩::l) ks) fr h↔P1 E O n Q (Oi h (eW fr x)) d m l ks fr h:=mD rfl rfl rfl
@[simp]theorem agI (k:Nat) (x:X):PK E O n Q (.ops m (⟨none,d,.ldn k x⟩::l) ks) fr h↔P1 E O n Q (vC k h (eW fr x)) d m l ks fr h:=mD rfl rfl rfl
@[simp]theorem aj5 (k:Nat) (x v:X):PK E O n Q (.ops m (⟨none,d,.st k x v⟩::l) ks) fr h↔PS E O n Q (Ri k h (eW fr x) (eW fr v)) (vE (.st k x v) (eW fr)) d m l ks fr:=by rw [mQ rfl];exact Cb _ _
@[simp]theorem agJ (op:BinOp) (x y:X):PK E O n Q (.ops m (⟨none,d,.bin op x y⟩::l) ks) fr h↔P1 E O n Q (LN op (eW fr x) (eW fr y)) d m l ks fr h:=mD rfl rfl rfl
@[simp]theorem aj6 (op:UnOp) (x:X):PK E O n Q (.ops m (⟨none,d,.un op x⟩::l) ks) fr h↔P1 E O n Q (pun op (eW fr x)) d m l ks fr h:=mD rfl rfl rfl
@[simp]theorem agK (k:IntKind) (x:X):PK E O n Q (.ops m (⟨none,d,.mF k x⟩::l) ks) fr h↔P1 E O n Q (LQ k (eW fr x)) d m l ks fr h:=mD rfl rfl rfl
@[simp]theorem Xz:PK E O n Q (.ops m (⟨none,d,.mkmap⟩::l) ks) fr h↔PK E O n Q (.ops (m.up [] (fr.aN d (.mp h.length)) (h++[.map []])) l ks) (fr.aN d (.mp h.length)) (h++[.map []]):=by rw [mQ rfl];simp [pop,vE]
@[simp]theorem aj7 (sz:Nat) (x:X) (lo hi mx:Option X):PK E O n Q (.ops m (⟨none,d,.sl sz x lo hi mx⟩::l) ks) fr h↔PO E O n Q (Xi sz h (eW fr x) (lo.map (eW fr)) (hi.map (eW fr)) (mx.map (eW fr))) [] d m l ks fr:=mQ rfl
@[simp]theorem aj8 (off:Nat) (x:X):PK E O n Q (.ops m (⟨none,d,.fa off x⟩::l) ks) fr h↔P1 E O n Q (TP h off (eW fr x)) d m l ks fr h:=mD rfl rfl rfl
@[simp]theorem aj9 (sz:Nat) (x i:X):PK E O n Q (.ops m (⟨none,d,.ia sz x i⟩::l) ks) fr h↔P1 E O n Q (Xh h sz (eW fr x) (eW fr i)) d m l ks fr h:=mD rfl rfl rfl
@[simp]theorem agL (len sz:Nat) (x i:X):PK E O n Q (.ops m (⟨none,d,.pY len sz x i⟩::l) ks) fr h↔P1 E O n Q (HA h len sz (eW fr x) (eW fr i)) d m l ks fr h:=mD rfl rfl rfl
@[simp]theorem aaK (kk:Nat) (z:Value) (x k:X) (ok:Bool):PK E O n Q (.ops m (⟨none,d,.look kk z x k ok⟩::l) ks) fr h↔P1 E O n Q (xT kk z h (eW fr x) (eW fr k) ok) d m l ks fr h:=mD rfl rfl rfl
@[simp]theorem agM (kk:Nat) (x k v:X):PK E O n Q (.ops m (⟨none,d,.mU kk x k v⟩::l) ks) fr h↔PS E O n Q (DV kk h (eW fr x) (eW fr k) (eW fr v)) (vE (.mU kk x k v) (eW fr)) d m l ks fr:=by rw [mQ rfl];exact Cb _ _
@[simp]theorem agN (x:X) (i:Nat):PK E O n Q (.ops m (⟨none,d,.ext x i⟩::l) ks) fr h↔P1 E O n Q (LR (eW fr x) i) d m l ks fr h:=mD rfl rfl rfl
@[simp]theorem agO (sz bytes:Nat) (s x:X):PK E O n Q (.ops m (⟨none,d,.app sz bytes s x⟩::l) ks) fr h↔PO E O n Q (qK sz bytes h (eW fr s) (eW fr x)) (vE (.app sz bytes s x) (eW fr)) d m l ks fr:=mQ rfl
@[simp]theorem aaL (x:X):PK E O n Q (.ops m (⟨none,d,.ey x⟩::l) ks) fr h↔P1 E O n Q (BQ h (eW fr x)) d m l ks fr h:=mD rfl rfl rfl
@[simp]theorem agP (x:X) («as»:List X):PK E O n Q (.ops m (⟨none,d,.mxl x «as»⟩::l) ks) fr h↔P1 E O n Q (Rm Eu (eW fr x) («as».map (eW fr))) d m l ks fr h:=mD rfl rfl rfl
@[simp]theorem agQ (x:X) («as»:List X):PK E O n Q (.ops m (⟨none,d,.mnl x «as»⟩::l) ks) fr h↔P1 E O n Q (Rm Jk (eW fr x) («as».map (eW fr))) d m l ks fr h:=mD rfl rfl rfl
@[simp]theorem agR (neg:Bool) (offs:List (Nat×Nat)) (x y:X):PK E O n Q (.ops m (⟨none,d,.eqs neg offs x y⟩::l) ks) fr h↔P1 E O n Q (LU neg offs (eW fr x) (eW fr y)) d m l ks fr h:=mD rfl rfl rfl
theorem sT {f:Nat} {«as»:List X} {args:List PV} {W:List Nat} (b:«as».map (eW fr)=args) (k:JD E O f args h (· ∈W) (fun r a=>PK E O n Q (.ops (m.up W (fr.aN d r) a) l ks) (fr.aN d r) a)):PK E O n Q (.ops m (⟨none,d,.call f «as»⟩::l) ks) fr h:=
 .call (b▸k) fun _ _ q=>q
end
theorem HZ {sz bytes b n k:Nat} {h:PH} {x:PV} {cs new:List PV} (a:h[b]?=some (.cells sz cs)) (c:n*sz=cs.length) (r:0<sz) (o:oN x=some k) (g:fx h sz k x=some new) (m:new.length=k*sz) (j:gA h x=true) (p:(n+k)*bytes≤2^47) (q:n+k<2^62):
 qK sz bytes h (.sl sz b 0 n n) x=some (.sl sz b 0 (n+k) (n+k),h.set b (.cells sz (cs++new))):=by
 have l:=(aq0.1 a).1;unfold qK;rw [o];simp only;by_cases f:k=0
 ·subst f
  have:new=[]:=arp.1 (by simpa using m);subst this
  have e:h.set b (.cells sz cs)=h:=by
   apply List.ext_getElem?;intro i;rw [List.getElem?_set];by_cases hi:b=i
   ·subst hi;rw [if_pos rfl,if_pos l,a]
   ·rw [if_neg hi]
  simp [j,a,c,e]
 ·rw [if_neg f,g]
  simp only [a];rw [if_pos ⟨trivial,trivial,r,by simpa using c,aqY _,p,q⟩];by_cases d:n=0
  ·subst d
   have:cs=[]:=arp.1 (by simpa using c.symm);subst this;simp
  ·rw [if_neg d,if_neg (by omega),if_pos trivial,aq1 (by omega)]
theorem Ia {sz bytes k:Nat} {h:PH} {x:PV} {new:List PV} (e:0<sz) (b:oN x=some k) (a:fx h sz k x=some new) (f:0<k) (c:k*bytes≤2^47) (d:k<2^62):
 qK sz bytes h (.v (.slice none 0 0)) x=some (.sl sz h.length 0 k k,h++[.cells sz new]):=by
 unfold qK;rw [b];simp only;rw [if_neg (by omega),a];simp only;rw [if_pos ⟨e,c,d⟩]
theorem js {E:Env} {O:jk} {n:Nat} {Q:Ex→PF→PH→Prop} {a:List Kp} {fr:PF} {m:Mp} {l:List AO} {d:Option Nat} {V:List Nat} {sz bytes b j k:Nat} {h:PH} {x:PV} {cs new:List PV} (p:h[b]?=some (.cells sz cs)) (i:oN x=some k) (c:fx h sz k x=some new) (f:j*sz=cs.length) (r:0<sz) (g:new.length=k*sz) (e:gA h x=true) (o:(j+k)*bytes≤2^47) (q:j+k<2^62)
 (next:PK E O n Q (.ops (m.up V (fr.aN d (.sl sz b 0 (j+k) (j+k))) (h.set b (.cells sz (cs++new)))) l a) (fr.aN d (.sl sz b 0 (j+k) (j+k))) (h.set b (.cells sz (cs++new)))):PO E O n Q (qK sz bytes h (.sl sz b 0 j j) x) V d m l a fr:=by
 rw [HZ p f r i c g e o q];exact (Xw _ _ _).2 next
attribute [simp] xU TQ Hz Oi vC Ri BP LN LO LP vD pun LQ Rj TP eT Xh HA pix LR HB oN BQ xT DV Oj Xi fx BR HC LS Rl Rm DW LU LV dw oM tG vE gA qx tH vI.all vI.get oQ
end P
namespace P
open Go Go.RowKit
def add (F:Nat→Prop) (h:PH) (φ:Nat→Nat) (A:Nat→Prop):Nat→Prop:=fun y=>F y∨∃b,A b∧bF h b∧φ b=y
def Vz (A:Nat→Prop) (h:PH) (p q:PV):Prop:=∀F H φ x,dO ⟨F,H,φ,h⟩→RV ⟨F,H,φ,h⟩ p x→RF (add F h φ A) H q x
def Cc (A:Nat→Prop) (h:PH):List PV→List PV→Prop
 |[],[]=>True
 |p::ps,q::qs=>Vz A h p q∧Cc A h ps qs
 |_,_=>False
def Vg (A:Nat→Prop) (σ:Nat→Nat) (h bs:PH) (p q:PV):Prop:=∀F H φ x,dO ⟨F,H,φ,h⟩→RV ⟨F,H,φ,h⟩ p x→RV ⟨add F h φ A,H,fun i=>φ (σ i),bs⟩ q x
def nO (A:Nat→Prop) (σ:Nat→Nat) (h bs:PH):List PV→List PV→Prop
 |[],[]=>True
 |p::ps,q::qs=>Vg A σ h bs p q∧nO A σ h bs ps qs
 |_,_=>False
variable{A:Nat→Prop} {σ:Nat→Nat} {h bs:PH}
theorem Cc.ok:∀{ps c:List PV},Cc A h ps c→∀{F H φ xs},dO ⟨F,H,φ,h⟩→cH ⟨F,H,φ,h⟩ ps xs→gO (add F h φ A) H c xs
 |[],[],_,F,H,φ,_,S,.nil=>.nil
 |p::ps,q::c,⟨a,b⟩,F,H,φ,_,S,.cons r s=>.cons (a F H φ _ S r) (Cc.ok b S s)
theorem nO.ok:∀{ps c:List PV},nO A σ h bs ps c→∀{F H φ xs},dO ⟨F,H,φ,h⟩→cH ⟨F,H,φ,h⟩ ps xs→cH ⟨add F h φ A,H,fun i=>φ (σ i),bs⟩ c xs
 |[],[],_,F,H,φ,_,S,.nil=>.nil
 |p::ps,q::c,⟨a,b⟩,F,H,φ,_,S,.cons r s=>.cons (a F H φ _ S r) (nO.ok b S s)
theorem Ib {F:Nat→Prop} {H:AH} {φ:Nat→Nat} (x:Nat) (a:F x):add F h φ A x∧H.get x=H.get x:=⟨.inl a,rfl⟩
theorem RI (x:Value):Vz A h (.v x) (.v x):=fun F H a y S R=>by cases R;exact .v _
theorem Ic (sz:Nat) (rows:List (List PV)):Vz A h (.fs sz rows) (.fs sz rows):=fun F H a y S R=>by cases R with|fs q=>exact q.mono rfl Ib
theorem Ie (sz:Nat):Vz A h (.v (.slice none 0 0)) (.fs sz []):=fun F H b y S R=>by
 cases R;exact .fs (rows:=[]) (rs:=[]) ⟨_,_,rfl,by simp⟩ (aro _) (fun d a=>by cases a) .nil
theorem kz.of_flat {F:Nat→Prop} {H:AH} {sz:Nat}:∀{rows:List (List PV)} {ys:List Value},gO F H rows.flatten ys→(∀r∈rows,r.length=sz)→∃rs,kz F H rows rs∧rs.flatten=ys∧∀r∈rs,r.length=sz
 |[],ys,h,_=>by cases h;exact ⟨[],.nil,rfl,by simp⟩
 |r::rows,ys,h,e=>by
  rw [List.flatten_cons]at h;have f:gO F H r (ys.take sz):=by have:=h.take r.length;rwa [List.take_left,e r (by simp)]at this
  have h2:gO F H rows.flatten (ys.drop sz):=by have:=h.drop r.length;rwa [List.drop_left,e r (by simp)]at this
  obtain ⟨rs,a,b,c⟩:=kz.of_flat h2 fun q d=>e q (by simp [d])
  refine ⟨ys.take sz::rs,.cons f a,by rw [List.flatten_cons,b,List.take_append_drop],fun q d=>?_⟩;rcases arc.1 d with rfl|d
  ·rw [←f.length,e r (by simp)]
  ·exact c q d
theorem Ig {sz b o n c z:Nat} {cs:List PV} {rows:List (List PV)} (C:A b) (a:h[b]?=some (.cells z cs)) (j:(o+c)*sz=cs.length) (f:0<sz) (u:sz≤z) (B:n≤c) (k:rows.length=n) (y:∀r∈rows,r.length=sz) (v:Cc A h ((cs.drop (o*sz)).take (n*sz)) rows.flatten):Vz A h (.sl sz b o n c) (.fs sz rows):=fun F H K x S R=>by
 rcases sQ R a j with⟨rfl,rfl,d,rfl,Q⟩|⟨T,rfl⟩
 ·obtain rfl:rows=[]:=arp.1 k
  exact .fs (rows:=[]) (rs:=[]) ⟨_,_,rfl,by simp⟩ (aro _) (fun e m=>⟨.inr rfl,.inl rfl⟩) .nil
 ·have p:cs≠[]:=by
   rintro rfl;have:=Nat.mul_pos (show 0<o+c by omega) f;simp at j;omega
  obtain ⟨L,l,g,D⟩:=S.cells (t:=0) a (List.length_pos_iff.2 p);have N:=g.length;obtain ⟨rs,q,J,I⟩:=kz.of_flat (v.ok S ((g.drop (o*sz)).take (n*sz))) y;have w:=q.length;have G:(o+c)*sz=o*sz+c*sz:=Nat.add_mul ..;rw [←k];refine .fs (rs:=rs) ⟨_,_,by rw [w],fun i r hi=>⟨_,_,rfl,?_⟩⟩ (by omega) (fun e m=>?_) q
  ·obtain ⟨E,U⟩:=iu I hi
   have P:=(aq0.1 hi).1;have s:(i+1)*sz≤n*sz:=Nat.mul_le_mul_right _ (by omega);have M:n*sz≤c*sz:=Nat.mul_le_mul_right _ B;rw [Nat.succ_mul]at s;rw [bB l D (by omega),←E,J,List.drop_take,List.drop_drop,List.take_take,Nat.min_eq_left (by omega)]
  ·cases m
   refine ⟨.inl rfl,?_⟩;by_cases O:n=0
   ·left;omega
   ·right
    refine ⟨.inr ⟨b,C,cd a p,rfl⟩,?_⟩;unfold AH.j9;rw [l];simp [u]
theorem vJ {p q:PV} (k:Vz A h p q):Vg A σ h bs p q:=fun F H a x S R=>(k F H a x S R).qw (C:=⟨_,_,_,_⟩)
theorem RJ (p:PV):Vg A σ h bs p .any:=fun F H a x S R=>.any x
@[simp]theorem agS (x:Value):Vg A σ h bs (.v x) (.v x)↔True:=⟨fun _=>trivial,fun _=>vJ (RI x)⟩
@[simp]theorem XA (sz:Nat) (rows:List (List PV)):Vg A σ h bs (.fs sz rows) (.fs sz rows)↔True:=⟨fun _=>trivial,fun _=>vJ (Ic sz rows)⟩
@[simp]theorem RK (sz:Nat):Vg A σ h bs (.v (.slice none 0 0)) (.fs sz [])↔True:=⟨fun _=>trivial,fun _=>vJ (Ie sz)⟩
@[simp]theorem aka (x:Value):Vz A h (.v x) (.v x)↔True:=⟨fun _=>trivial,fun _=>RI x⟩
@[simp]theorem agT (sz:Nat) (rows:List (List PV)):Vz A h (.fs sz rows) (.fs sz rows)↔True:=⟨fun _=>trivial,fun _=>Ic sz rows⟩
@[simp]theorem aaM (sz:Nat):Vz A h (.v (.slice none 0 0)) (.fs sz [])↔True:=⟨fun _=>trivial,fun _=>Ie sz⟩
@[simp]theorem aaN:Cc A h [] []↔True:=Iff.rfl
@[simp]theorem XC (p q:PV) (ps qs:List PV):Cc A h (p::ps) (q::qs)↔Vz A h p q∧Cc A h ps qs:=Iff.rfl
@[simp]theorem aaO:nO A σ h bs [] []↔True:=Iff.rfl
@[simp]theorem Ih (p q:PV) (ps qs:List PV):nO A σ h bs (p::ps) (q::qs)↔Vg A σ h bs p q∧nO A σ h bs ps qs:=Iff.rfl
@[simp]theorem XD (cells:List PV):Vg A σ h bs (.fp cells) (.fp cells)↔True:=⟨fun _=>trivial,fun _ F H d x S R=>by
 cases R with|fp a b c=>exact .fp (.inl a) b (c.mono rfl Ib)⟩
theorem Ii {ps a:List PV} (k:nO A σ h bs ps a):Vg A σ h bs (.agg ps) (.agg a):=fun F H b x S R=>by cases R with|agg r=>exact .agg (k.ok S r)
theorem Aj {ps a:List PV} (k:nO A σ h bs ps a):Vg A σ h bs (.gN ps) (.gN a):=fun F H b x S R=>by cases R with|gN r=>exact .gN (k.ok S r)
theorem XE {f:Nat} {ps b ps' a:List PV} (k:nO A σ h bs ps b) (d:nO A σ h bs ps' a):Vg A σ h bs (.fn f ps ps') (.fn f b a):=fun F H e x S R=>by cases R with|fn r c=>exact .fn (k.ok S r) (d.ok S c)
theorem RL {t:Nat} {p q:PV} (k:Vg A σ h bs p q):Vg A σ h bs (.q8 t p) (.q8 t q):=fun F H a x S R=>by cases R with|q8 r=>exact .q8 (k F H a _ S r)
theorem oR {h:PH} {b T t:Nat} (e:eT h b=some T):At h b t↔T=t:=by
 unfold eT at e;split at e
 ·rename_i z cs a
  cases e;constructor
  ·rintro ⟨c,d,e,rfl⟩;rw [a]at e;cases e;rfl
  ·rintro rfl;exact ⟨z,cs,a,rfl⟩
 ·cases e
theorem oU {h:PH} {b T t:Nat} (e:eT h b=some T):Le h b t↔t≤T:=by
 unfold eT at e;split at e
 ·rename_i z cs a
  cases e;exact ⟨fun k=>k z cs a,fun k c d e=>by rw [a]at e;cases e;exact k⟩
 ·cases e
theorem vK {h:PH} {b T:Nat} (e:eT h b=some T):b<h.length:=by
 unfold eT at e;split at e
 ·rename_i z cs a;exact (aq0.1 a).1
 ·cases e
theorem RM {b i o t T:Nat} (c:eT h b=some T) (h2:eT bs i=some T) (d:σ i=b):Vg A σ h bs (.ref b o t) (.ref i o t):=fun F H g x S R=>by
 cases R with|ref a j e f=>
 subst d;refine .ref a (vK h2) ((oU h2).2 ((oU c).1 e)) fun k=>?_
 exact f ((oR c).2 ((oR h2).1 k))
theorem XF {b i sz o n c T:Nat} (d:eT h b=some T) (h2:eT bs i=some T) (e:σ i=b):Vg A σ h bs (.sl sz b o n c) (.sl sz i o n c):=fun F H j x S R=>by
 cases R with|sl a l f g=>
 subst e;refine .sl a (vK h2) ((oU h2).2 ((oU d).1 f)) fun k=>?_
 exact g ((oR d).2 ((oR h2).1 k))
theorem Mh {sz i z:Nat} (h2:bs[i]?=some (.cells z [])):Vg A σ h bs (.v (.slice none 0 0)) (.sl sz i 0 0 0):=fun F H a x S R=>by
 cases R;have e:eT bs i=some 0:=by unfold eT;rw [h2];rfl
 exact .sl ⟨_,_,rfl⟩ (vK e) ((oU e).2 (by simp)) fun _=>.inl ⟨rfl,rfl,none,rfl,by simp⟩
theorem XG {b i:Nat} {es es':List (Value×PV)} (e:h[b]?=some (.map es)) (h2:bs[i]?=some (.map es')) (c:σ i=b):Vg A σ h bs (.mp b) (.mp i):=fun F H f x S R=>by
 cases R with|mp a g d=>
 subst c;refine .mp a ((aq0.1 h2).1) fun k=>?_
 exact d ⟨es,e⟩
def mR (A:Nat→Prop) (σ:Nat→Nat) (h bs:PH) (o:Option PB):PB→Prop
 | .cells z qs=>qs=[]∨∃ps,o=some (.cells z ps)∧nO A σ h bs ps qs
 | .map fs=>∃es,o=some (.map es)∧es.map (·.1)=fs.map (·.1)∧nO A σ h bs (es.map (·.2)) (fs.map (·.2))
 | .dead=>True
structure lH (A:Nat→Prop) (σ:Nat→Nat) (h bs:PH):Prop where
 aS:∀i P,bs[i]?=some P→mR A σ h bs h[σ i]? P
 inj:∀i j,i<bs.length→j<bs.length→bF bs i→bF bs j→σ i=σ j→i=j
 off:∀i,i<bs.length→bF bs i→¬ A (σ i)
theorem nO.length:∀{ps a:List PV},nO A σ h bs ps a→ps.length=a.length
 |[],[],_=>rfl
 |_::_,_::_,⟨_,b⟩=>by simp [nO.length b]
theorem lH.bF (K:lH A σ h bs) {i:Nat} (s:P.bF bs i):P.bF h (σ i):=by
 rcases jZ s with⟨es,e⟩|⟨z,cs,e,b⟩
 ·obtain ⟨d,a,_⟩:=K.aS i _ e
  exact fC a
 ·rcases K.aS i _ e with q|⟨ps,a,c⟩
  ·exact absurd q b
  ·exact cd a (by rintro rfl;have:=c.length;exact b (arp.1 this.symm))
theorem lH.ok (K:lH A σ h bs) {F:Nat→Prop} {H:AH} {φ:Nat→Nat} (S:dO ⟨F,H,φ,h⟩):dO ⟨add F h φ A,H,fun i=>φ (σ i),bs⟩where
 wf:=S.wf
 fz:=fun x l=>by
  rcases l with l|⟨b,_,f,rfl⟩
  ·exact S.fz x l
  ·exact S.lt f
 inj:=fun i j s t e=>K.inj i j (bO s) (bO t) s t (S.inj _ _ (K.bF s) (K.bF t) e)
 aS:=fun i z y e m=>by
  have s:=cd e m;rcases K.aS i _ e with q|⟨ps,p,k⟩
  ·exact absurd q m
  obtain ⟨u,a,b,c,d⟩:=S.aS (σ i) z ps p (by rintro rfl;have:=k.length;exact m (arp.1 this.symm));refine ⟨u,a,k.ok S b,c,?_⟩;rintro (q|⟨w,n,f,o⟩)
  ·exact d q
  ·exact K.off i (bO s) s (S.inj _ _ f (K.bF s) o▸n)
 Af:=fun i B e=>by
  have s:=fC e;obtain ⟨es,p,v,k⟩:=K.aS i _ e;obtain ⟨r,a,b,c,d,g⟩:=S.Af (σ i) es p;refine ⟨r,a,v.symm.trans b,k.ok S c,d,?_⟩;rintro (q|⟨w,n,f,o⟩)
  ·exact g q
  ·exact K.off i (bO s) s (S.inj _ _ f (K.bF s) o▸n)
theorem lH.none (A:Nat→Prop) (σ:Nat→Nat) (h:PH):lH A σ h []:=⟨fun i P e=>by simp at e,fun i j hi=>by simp at hi,fun i hi=>by simp at hi⟩
mutual
def sh (k:Nat):PV→PV
 | .ref b o t=>.ref (b+k) o t
 | .sl sz b o n c=>.sl sz (b+k) o n c
 | .mp b=>.mp (b+k)
 | .agg cs=>.agg (y6 k cs)
 | .gN cs=>.gN (y6 k cs)
 | .fn f a b=>.fn f (y6 k a) (y6 k b)
 | .q8 t p=>.q8 t (sh k p)
 | .v x=>.v x
 | .fs sz rows=>.fs sz rows
 | .fp cells=>.fp cells
 | .any=>.any
def y6 (k:Nat):List PV→List PV
 |[]=>[]
 |p::ps=>sh k p::y6 k ps
end
def tu (k:Nat):PB→PB
 | .cells z cs=>.cells z (y6 k cs)
 | .map es=>.map (es.map fun e=>(e.1,sh k e.2))
 | .dead=>.dead
theorem iY (k:Nat):∀l:List PV,(y6 k l).length=l.length
 |[]=>rfl
 |_::l=>by simp [y6,iY k l]
theorem Cd (k:Nat):∀es:List (Value×PV),(es.map fun e=>(e.1,sh k e.2)).map (·.2)=y6 k (es.map (·.2))
 |[]=>rfl
 |_::l=>by simp only [List.map_cons,y6,Cd k l]
theorem oV {h bs:PH} (b:Nat):(h++bs.map (tu h.length))[b+h.length]?=(bs[b]?).map (tu h.length):=by
 rw [arb (by omega),Nat.add_sub_cancel,arq]
theorem Ij {h bs:PH} {b t:Nat}:At (h++bs.map (tu h.length)) (b+h.length) t↔At bs b t:=by
 unfold At;rw [oV];constructor
 ·rintro ⟨z,cs,e,rfl⟩
  obtain ⟨P,a,e⟩:=aq4.1 e
  cases P with
  |cells d c=>cases e;exact ⟨_,c,a,(iY _ _).symm⟩
  |_=>cases e
 ·rintro ⟨z,cs,e,rfl⟩
  exact ⟨z,y6 h.length cs,by rw [e];rfl,iY _ _⟩
theorem Oo {h bs:PH} {b t:Nat}:Le (h++bs.map (tu h.length)) (b+h.length) t↔Le bs b t:=by
 unfold Le;rw [oV];constructor
 ·intro k z cs e
  have:=k z (y6 h.length cs) (by rw [e];rfl);rwa [iY]at this
 ·intro k z cs e
  obtain ⟨P,a,e⟩:=aq4.1 e
  cases P with
  |cells d c=>cases e;rw [iY];exact k _ c a
  |_=>cases e
theorem x8 {h bs:PH} {b:Nat}:jY (h++bs.map (tu h.length)) (b+h.length)↔jY bs b:=by
 unfold jY;rw [oV];constructor
 ·rintro ⟨es,e⟩
  obtain ⟨P,c,e⟩:=aq4.1 e
  cases P with
  |map a=>exact ⟨a,c⟩
  |_=>cases e
 ·rintro ⟨es,e⟩
  exact ⟨_,by rw [e];rfl⟩
theorem Ik {h bs:PH} {b:Nat}:bF (h++bs.map (tu h.length)) (b+h.length)↔bF bs b:=by
 unfold bF;simp only [x8,Ij]
def join (h:PH) (φ ψ:Nat→Nat):Nat→Nat:=fun b=>if b<h.length then φ b else ψ (b- h.length)
theorem rh (h:PH) (φ a:Nat→Nat) (b:Nat):join h φ a (b+h.length)=a b:=by
 unfold join;rw [if_neg (by omega),Nat.add_sub_cancel]
theorem vL {h:PH} {φ a:Nat→Nat} {b:Nat} (c:b<h.length):join h φ a b=φ b:=if_pos c
theorem Il {h bs:PH} {b:Nat} (a:b<bs.length):b+h.length<(h++bs.map (tu h.length)).length:=by
 rw [aq3,List.length_map];omega
mutual
theorem Ce {F:Nat→Prop} {H:AH} {φ g:Nat→Nat} {h bs:PH}:∀{p:PV} {x:Value},RV ⟨F,H,g,bs⟩ p x→RV ⟨F,H,join h φ g,h++bs.map (tu h.length)⟩ (sh h.length p) x
 |_,_, .v x=> .v x
 |_,_, .ref a d f e=> .ref a (Il d) (Oo.2 f) fun k=>by
  have:=e (Ij.1 k)
  simpa [rh]using this
 |_,_, .sl a d f e=> .sl a (Il d) (Oo.2 f) fun k=>by
  have:=e (Ij.1 k)
  simpa [rh]using this
 |_,_, .mp a d e=> .mp a (Il d) fun k=>by
  have:=e (x8.1 k)
  simpa [rh]using this
 |_,_, .fs k=> .fs k
 |_,_, .fp a b c=> .fp a b c
 |_,_, .agg k=> .agg (nD k)
 |_,_, .gN k=> .gN (nD k)
 |_,_, .fn a b=> .fn (nD a) (nD b)
 |_,_, .q8 a=> .q8 (Ce a)
 |_,_, .any x=> .any x
theorem nD {F:Nat→Prop} {H:AH} {φ c:Nat→Nat} {h bs:PH}:∀{p:List PV} {x:List Value},cH ⟨F,H,c,bs⟩ p x→cH ⟨F,H,join h φ c,h++bs.map (tu h.length)⟩ (y6 h.length p) x
 |_,_, .nil=> .nil
 |_,_, .cons a b=> .cons (Ce a) (nD b)
end
end P
namespace P
open Go Go.RowKit
variable{E:Env} {O:jk}
def ee (h:PH):List Nat→PH
 |[]=>h
 |b::L=>ee (h.set b .dead) L
theorem iy:∀(L:List Nat) (h:PH),(ee h L).length=h.length
 |[],h=>rfl
 |b::L,h=>by rw [ee,iy L];simp
theorem mj:∀(L:List Nat) (h:PH) (c:Nat),(ee h L)[c]?=if c∈L∧c<h.length then some .dead else h[c]?
 |[],h,c=>by simp [ee]
 |b::L,h,c=>by
  rw [ee,mj L];by_cases d:c<h.length
  ·by_cases a:c∈L
   ·simp [a,d]
   ·by_cases h2:c=b
    ·subst h2;simp [a,d]
    ·rw [if_neg (fun q=>a q.1),if_neg (fun q=>(arc.1 q.1).elim h2 a),fb h2]
  ·rw [if_neg (by simp;omega),if_neg (by simp;omega),arC (by simp;omega),arC (by omega)]
theorem iZ {h:PH} {L:List Nat} {b:Nat} (s:bF (ee h L) b):bF h b∧b∉L:=by
 have d:=bO s;rw [iy]at d;have e:=mj L h b;by_cases a:b∈L
 ·rw [if_pos ⟨a,d⟩]at e
  rcases jZ s with⟨es,c⟩|⟨z,cs,c,_⟩<;>rw [e]at c<;>cases c
 ·rw [if_neg (fun q=>a q.1)]at e
  exact ⟨(eL e).1 s,a⟩
theorem DZ {F:Nat→Prop} {H:AH} {φ:Nat→Nat} {h:PH} (S:dO ⟨F,H,φ,h⟩) (L:List Nat):dO ⟨add F h φ (· ∈L),H,φ,ee h L⟩∧dq h.length (fun _=>False) ⟨F,H,φ,h⟩ ⟨add F h φ (· ∈L),H,φ,ee h L⟩:=by
 have same:∀b,b∉L→(ee h L)[b]?=h[b]?:=fun b f=>by rw [mj,if_neg (fun q=>f q.1)]
 have dead:∀b,b∈L→b<h.length→(ee h L)[b]?=some .dead:=fun b f g=>by rw [mj,if_pos ⟨f,g⟩]
 have T:dq h.length (fun _=>False) ⟨F,H,φ,h⟩ ⟨add F h φ (· ∈L),H,φ,ee h L⟩:={
  n0:=rfl
  nx:=aqY _
  fz:=fun x i=>⟨.inl i,rfl⟩
  fo:=fun x i hi n=>by
   rcases n with n|⟨b,_,s,rfl⟩
   ·exact n
   ·exact absurd ⟨b,trivial,s,rfl⟩ hi
  out:=fun _ _ _=>rfl
  loc:=fun b f=>.inr ⟨(iZ f).1,rfl⟩
  len:=fun k=>by rw [iy];exact k
  le:=fun b _ g t v=>by
   by_cases f:b∈L
   ·intro z cs e;rw [dead b f g]at e;cases e
   ·exact (sO (same b f)).2 v
  wD:=fun b _ g t _ j=>by
   by_cases f:b∈L
   ·obtain ⟨z,cs,e,_⟩:=j;rw [dead b f g]at e;cases e
   ·exact ⟨(sN (same b f)).1 j,rfl⟩
  xS:=fun b _ g j=>by
   by_cases f:b∈L
   ·obtain ⟨es,e⟩:=j;rw [dead b f g]at e;cases e
   ·exact ⟨(iW (same b f)).1 j,rfl⟩}
 have o:∀b,bF h b→b∉L→¬ add F h φ (· ∈L) (φ b):=by
  rintro b s f (q|⟨l,w,m,e⟩)
  ·exact (S.old s).2 q
  ·exact f (S.inj _ _ m s e▸w)
 refine ⟨⟨S.wf,fun x i=>?_,fun b l s m e=>S.inj _ _ (iZ s).1 (iZ m).1 e,fun b z cs e p=>?_,fun b es e=>?_⟩,T⟩
 ·rcases i with i|⟨b,_,s,rfl⟩
  ·exact S.fz x i
  ·exact S.lt s
 ·obtain ⟨s,f⟩:=iZ (cd e p)
  rw [show(ee h L)[b]?=_ from same b f]at e;obtain ⟨u,a,l,c,_⟩:=S.aS b z cs e p;exact ⟨u,a,l.step T,c,o b s f⟩
 ·obtain ⟨s,f⟩:=iZ (fC e)
  rw [show(ee h L)[b]?=_ from same b f]at e;obtain ⟨r,a,l,c,d,_⟩:=S.Af b es e;exact ⟨r,a,l,c.step T,d,o b s f⟩
theorem Cg {F r:Nat→Prop} {H H':AH} {φ i:Nat→Nat} {h f:PH} {W:Nat→Prop} (S:dO ⟨F,H,φ,h⟩) (w:dO ⟨r,H',i,f⟩) (T:dq 0 tI ⟨F,H,φ,[]⟩ ⟨r,H',i,f⟩):
 dO ⟨r,H',join h φ i,h++f.map (tu h.length)⟩∧dq h.length W ⟨F,H,φ,h⟩ ⟨r,H',join h φ i,h++f.map (tu h.length)⟩:=by
 have N:∀{V:Nat→Prop} {x:Nat},¬ im ⟨F,H,φ,[]⟩ V x:=by
  rintro V x ⟨b,_,s,_⟩;have:=bO s;simp at this
 have same:∀x,x<H.nx→H'.get x=H.get x:=fun x n=>T.out x n N
 have fo:∀x,x<H.nx→r x→F x:=fun x n C=>T.fo x n N C
 have lo:∀{b},b<h.length→(h++f.map (tu h.length))[b]?=h[b]?:=fun d=>aq7 d
 have new:∀b,bF f b→H.nx≤i b:=fun b s=>by
  rcases T.loc b s with q|⟨q,_⟩
  ·exact q
  ·have:=bO q;simp at this
 have split:∀b,bF (h++f.map (tu h.length)) b→(b<h.length∧bF h b∧join h φ i b=φ b)∨∃c,b=c+h.length∧bF f c∧join h φ i b=i c:=by
  intro b s;by_cases d:b<h.length
  ·exact .inl ⟨d,(eL (lo d)).1 s,vL d⟩
  ·refine .inr ⟨b- h.length,by omega,?_,?_⟩
   ·rw [show b=(b- h.length)+h.length by omega]at s
    exact Ik.1 s
   ·rw [show b=(b- h.length)+h.length by omega,rh,Nat.add_sub_cancel]
 have L:dq h.length W ⟨F,H,φ,h⟩ ⟨r,H',join h φ i,h++f.map (tu h.length)⟩:={
  n0:=T.n0
  nx:=T.nx
  fz:=T.fz
  fo:=fun x n _ C=>fo x n C
  out:=fun x n _=>same x n
  loc:=fun b d=>by
   rcases split b d with⟨u,h2,a⟩|⟨c,rfl,h2,a⟩
   ·exact .inr ⟨h2,a⟩
   ·left;show _≤join h φ i _;rw [a];exact new c h2
  len:=fun _=>by simp
  le:=fun b d _ t R=>(sO (lo d)).2 R
  wD:=fun b d _ t _ G=>⟨(sN (lo d)).1 G,vL d⟩
  xS:=fun b d _ G=>⟨(iW (lo d)).1 G,vL d⟩}
 refine ⟨⟨w.wf,w.fz,fun b K s M e=>?_,fun b z cs e D=>?_,fun b es e=>?_⟩,L⟩
 ·dsimp only at e
  rcases split b s with⟨u,h2,a⟩|⟨c,rfl,h2,a⟩
  ·rcases split K M with⟨U,p,o⟩|⟨Q,rfl,p,o⟩
   ·rw [a,o]at e;exact S.inj _ _ h2 p e
   ·rw [a,o]at e
    have Y:φ b<H.nx:=S.lt h2;have:=new Q p;omega
  ·rcases split K M with⟨U,p,o⟩|⟨Q,rfl,p,o⟩
   ·rw [a,o]at e
    have Y:φ K<H.nx:=S.lt p;have:=new c h2;omega
   ·rw [a,o]at e
    rw [w.inj _ _ h2 p e]
 ·rcases split b (cd e D)with⟨u,h2,a⟩|⟨c,rfl,h2,a⟩
  ·have g:=e
   rw [show(h++f.map (tu h.length))[b]?=_ from lo u]at g;obtain ⟨A,m,l,k,j⟩:=S.aS b z cs g D;dsimp only;rw [a];exact ⟨A,(same _ (S.lt h2)).trans m,l.step L,T.n0▸k,fun q=>j (fo _ (S.lt h2) q)⟩
  ·have g:=e
   rw [show(h++f.map (tu h.length))[c+h.length]?=_ from oV c]at g;obtain ⟨P,I,v⟩:=aq4.1 g
   cases P with
   |cells Z X=>
    cases v;obtain ⟨A,m,l,k,j⟩:=w.aS c _ X I (by rintro rfl;exact D rfl);dsimp only;rw [a];exact ⟨A,m,nD l,k,j⟩
   |_=>cases v
 ·rcases split b (fC e)with⟨u,h2,a⟩|⟨c,rfl,h2,a⟩
  ·have g:=e
   rw [show(h++f.map (tu h.length))[b]?=_ from lo u]at g;obtain ⟨y,m,l,k,j,B⟩:=S.Af b es g;dsimp only;rw [a];exact ⟨y,(same _ (S.lt h2)).trans m,l,k.step L,T.n0▸j,fun q=>B (fo _ (S.lt h2) q)⟩
  ·have g:=e
   rw [show(h++f.map (tu h.length))[c+h.length]?=_ from oV c]at g;obtain ⟨P,I,v⟩:=aq4.1 g
   cases P with
   |map J=>
    cases v;obtain ⟨y,m,l,k,j,B⟩:=w.Af c J I;dsimp only;rw [a];refine ⟨y,m,?_,?_,j,B⟩
    ·rw [←l];simp [List.map_map,Function.comp_def]
    ·rw [Cd];exact nD k
   |_=>cases v
theorem tt.pure {f:Nat} {args d:List PV} {h:PH} (L:List Nat) {R:PV→PH→Prop} (k:tt E O f d [] R) (j:nO (· ∈L) id h [] args d):
 JD E O f args h (· ∈[]) (fun r n=>∃a b,R a b∧r=sh h.length a∧n=ee h L++b.map (tu h.length)):=by
 intro F H φ i S u;obtain ⟨s,o⟩:=DZ S L;have t:=(lH.none (· ∈L) id h).ok S;refine (k _ H _ i t (j.ok S u)).mono ?_;rintro x y ⟨a,b,v,w,m,l,p,T⟩;obtain ⟨g,e⟩:=Cg (W:=(· ∈[])) s p T;have c:=iy L h;rw [c]at g e;refine ⟨_,_,v,_,⟨a,b,m,rfl,rfl⟩,?_,g,(o.trans e (by exact aqY _) (fun _ q=>q.elim) (fun _ q=>q))⟩;have:=Ce (φ:=φ) (h:=ee h L) l;rw [c]at this;exact this
mutual
def sU:PV→Bool
 | .v _=>true
 | .agg cs=>kB cs
 | .gN cs=>kB cs
 | .q8 _ p=>sU p
 |_=>false
def kB:List PV→Bool
 |[]=>true
 |p::ps=>sU p&&kB ps
end
mutual
theorem x9 {C D:Cx}:∀{p:PV} {x:Value},sU p=true→RV C p x→RV D p x
 |_,_,_,.v x=>.v x
 |_,_,k,.agg r=>.agg (mm (by simpa [sU]using k) r)
 |_,_,k,.gN r=>.gN (mm (by simpa [sU]using k) r)
 |_,_,k,.q8 r=>.q8 (x9 (by simpa [sU]using k) r)
theorem mm {C D:Cx}:∀{p:List PV} {x:List Value},kB p=true→cH C p x→cH D p x
 |_,_,_,.nil=>.nil
 |_,_,k,.cons a b=>by
  simp only [kB,aqX]at k;exact .cons (x9 k.1 a) (mm k.2 b)
end
def lI (A:Nat→Prop) (σ:Nat→Nat) (h bs:PH):Nat→PH→Prop
 |_,[]=>True
 |i,P::l=>mR A σ h bs h[σ i]? P∧lI A σ h bs (i+1) l
@[simp]theorem TU (A:Nat→Prop) (a:Nat→Nat) (h b:PH) (i:Nat):lI A a h b i []↔True:=Iff.rfl
@[simp]theorem RN (A:Nat→Prop) (a:Nat→Nat) (h b:PH) (i:Nat) (P:PB) (l:PH):lI A a h b i (P::l)↔mR A a h b h[a i]? P∧lI A a h b (i+1) l:=Iff.rfl
theorem lI.ok {A:Nat→Prop} {a:Nat→Nat} {h b:PH}:∀{l:PH} {i:Nat},lI A a h b i l→∀j P,l[j]?=some P→mR A a h b h[a (i+j)]? P
 |[],i,_,j,P,e=>by simp at e
 |Q::l,i,k,0,P,e=>by simp at e;subst e;exact k.1
 |Q::l,i,k,j+1,P,e=>by
  have:=lI.ok k.2 j P (by simpa using e);rwa [show i+1+j=i+(j+1) by omega]at this
theorem lH.at {A:Nat→Prop} {h bs:PH} (L:List Nat) (l:L.length=bs.length) (a:L.Nodup) (g:∀b∈L,¬ A b) (k:lI A (fun i=>L.getD i 0) h bs 0 bs):lH A (fun i=>L.getD i 0) h bs:=by
 refine ⟨fun i P e=>by simpa using k.ok i P e,fun i j hi c _ _ e=> ?_,fun i hi _=>g _ ?_⟩
 · rw [List.getD_eq_getElem?_getD,List.getD_eq_getElem?_getD,aqU (by omega),aqU (by omega)]at e
   have f:i<L.length:=by omega
   have d:j<L.length:=by omega
   simp only [Option.getD_some]at e
   have key:∀(L:List Nat),L.Nodup→∀(i j:Nat) (hi:i<L.length) (c:j<L.length),L[i]=L[j]→i=j:=by
    intro L
    induction L with
    |nil=>intro _ i j hi;simp at hi
    |cons x L ih=>
     intro a i j hi c e;rw [List.nodup_cons]at a
     cases i with
     |zero=>cases j with
      |zero=>rfl
      |succ j=>simp only [List.getElem_cons_zero,List.getElem_cons_succ]at e;exact absurd (e▸List.getElem_mem _) a.1
     |succ i=>cases j with
      |zero=>simp only [List.getElem_cons_zero,List.getElem_cons_succ]at e;exact absurd (e▸List.getElem_mem _) a.1
      |succ j=>
       simp only [List.getElem_cons_succ]at e;rw [ih a.2 i j (by simpa using hi) (by simpa using c) e]
   exact key L a i j f d e
 · rw [List.getD_eq_getElem?_getD,aqU (by omega)]
   exact List.getElem_mem _
@[simp]theorem Oq (A:Nat→Prop) (b:Nat→Nat) (h d:PH) (z c:Nat) (ps a:List PV):mR A b h d (some (.cells z ps)) (.cells c a)↔a=[]∨(z=c∧nO A b h d ps a):=by
 unfold mR;constructor
 ·rintro (q|⟨f,e,k⟩)
  ·exact .inl q
  ·cases e;exact .inr ⟨rfl,k⟩
 ·rintro (q|⟨rfl,k⟩)
  ·exact .inl q
  ·exact .inr ⟨_,rfl,k⟩
@[simp]theorem RO (A:Nat→Prop) (a:Nat→Nat) (h b:PH) (o:Option PB):mR A a h b o .dead↔True:=Iff.rfl
@[simp]theorem RP (A:Nat→Prop) (a:Nat→Nat) (h b:PH) (o:Option PB) (z:Nat):mR A a h b o (.cells z [])↔True:=⟨fun _=>trivial,fun _=>.inl rfl⟩
@[simp]theorem TV (A:Nat→Prop) (a:Nat→Nat) (h b:PH) (es fs:List (Value×PV)):mR A a h b (some (.map es)) (.map fs)↔es.map (·.1)=fs.map (·.1)∧nO A a h b (es.map (·.2)) (fs.map (·.2)):=by
 unfold mR;constructor
 ·rintro ⟨c,e,k⟩;cases e;exact k
 ·exact fun k=>⟨_,rfl,k⟩
def Mi:Option PB→Option PB→Prop
 |some (.cells _ cs),some (.cells _ dk)=>cs.length=dk.length
 |_,_=>False
@[simp]theorem akc (z b:Nat) (cs a:List PV):Mi (some (.cells z cs)) (some (.cells b a))↔cs.length=a.length:=Iff.rfl
theorem yd {h g:PH} {A:Nat→Prop} {f:Nat→Nat} (K:lH A f h g) {F:Nat→Prop} {H:AH} {φ:Nat→Nat} {C0:Cx} (k:C0.h.length=0) (T:dq 0 tI C0 ⟨F,H,φ,h⟩):dq 0 tI C0 ⟨add F h φ A,H,fun i=>φ (f i),g⟩:=by
 have j:C0.h=[]:=arp.1 k;have no:∀{b:Nat},¬ bF C0.h b:=fun s=>by have:=bO s;omega
 refine ⟨T.n0,T.nx,fun y c=>⟨.inl (T.fz y c).1,(T.fz y c).2⟩,fun y c hi d=>?_,T.out,fun b a=>?_,fun _=>aro _,fun b a=>absurd a (arl _),fun b a=>absurd a (arl _),fun b a=>absurd a (arl _)⟩
 ·rcases d with d|⟨b,_,s,e⟩
  ·exact T.fo y c hi d
  ·rcases T.loc b s with q|⟨q,_⟩
   ·dsimp only at q;omega
   ·exact absurd q no
 ·rcases T.loc _ (K.bF a)with q|⟨q,_⟩
  ·exact .inl q
  ·exact absurd q no
theorem Im {r b:PV} {h bs:PH} (A:Nat→Prop) (a:Nat→Nat) (K:lH A a h bs) (V:Vg A a h bs r b):Mg 0 r h b bs:=by
 intro F H c x S R;exact ⟨_,_,K.ok S,V F H c x S R,fun e d T=>yd K d T⟩
theorem Io {n:Nat} {r u:PV} {h bs:PH} (i:Nat→Nat) (K:lH (fun _=>False) i h bs) (V:Vg (fun _=>False) i h bs r u) (A:n≤bs.length) (k:∀b,b<n→i b=b∧(eT bs b=none∨eT bs b=eT h b)∧(jY bs b→jY h b)) (h2:∀b,n≤b→b<bs.length→n≤i b) (B:∀b,b<n→∀t,Le h b t→Le bs b t):Mg n r h u bs:=by
 intro F H w x S R;refine ⟨_,_,K.ok S,V F H w x S R,fun G D T=>?_⟩
 have s:∀{h:PH} {b t:Nat},At h b t↔eT h b=some t:=by
  intro h b t;constructor
  ·rintro ⟨z,cs,e,rfl⟩;unfold eT;rw [e]
  ·intro e;exact (oR e).2 rfl
 refine ⟨T.n0,T.nx,fun y j=>⟨.inl (T.fz y j).1,(T.fz y j).2⟩,fun y j hi o=>?_,T.out,fun b a=>?_,fun _=>A,fun b a f t m=>B b a t (T.le b a f t m),fun b a f t m c=>?_,fun b a f c=>?_⟩
 ·rcases o with o|⟨b,q,_⟩
  ·exact T.fo y j hi o
  ·exact q.elim
 ·rcases T.loc _ (K.bF a)with q|⟨q,e⟩
  ·exact .inl q
  ·by_cases v:b<n
   ·rw [(k b v).1]at q e
    exact .inr ⟨q,by dsimp only;rw [(k b v).1];exact e⟩
   ·have:=h2 b (by omega) (bO a)
    have:=bO q;omega
 ·obtain ⟨p,g,_⟩:=k b a
  rw [s]at c
  have e:eT h b=some t:=by
   rcases g with g|g
   ·rw [g]at c;cases c
   ·rw [←g];exact c
  obtain ⟨l,d⟩:=T.wD b a f t m (s.2 e);exact ⟨l,by dsimp only at d⊢;rw [p];exact d⟩
 ·obtain ⟨p,_,C⟩:=k b a
  obtain ⟨l,d⟩:=T.xS b a f (C c);exact ⟨l,by dsimp only at d⊢;rw [p];exact d⟩
def Ch (h bs:PH) (b:Nat):Prop:=bs[b]?=some .dead∨Mi h[b]? bs[b]?
theorem Ip {n:Nat} {r o:PV} {h bs:PH} (L:List Nat) (F:L.length+n=bs.length) (a:L.Nodup) (l:∀b∈L,n≤b) (k:∀b,b<n→Ch h bs b) (K:lI (fun _=>False) (fun i=>if i<n then i else L.getD (i- n) 0) h bs 0 bs) (V:Vg (fun _=>False) (fun i=>if i<n then i else L.getD (i- n) 0) h bs r o):Mg n r h o bs:=by
 have getD:∀i,n≤i→i<bs.length→L[i- n]?=some (L.getD (i- n) 0):=fun i d h2=>by
  rw [List.getD_eq_getElem?_getD,aqU (by omega)];rfl
 have A:lH (fun _=>False) (fun i=>if i<n then i else L.getD (i- n) 0) h bs:=by
  refine ⟨fun i P e=>by simpa using K.ok i P e,fun i j hi p _ _ e=> ?_,fun _ _ _ q=>q⟩;by_cases d:i<n
  · rw [if_pos d]at e
    by_cases h2:j<n
    · rwa [if_pos h2]at e
    · rw [if_neg h2]at e
      have:=l _ (aqZ (getD j (by omega) p));omega
  · rw [if_neg d]at e
    by_cases h2:j<n
    · rw [if_pos h2]at e
      have:=l _ (aqZ (getD i (by omega) hi));omega
    · rw [if_neg h2]at e
      have s:=getD i (by omega) hi;have y:=getD j (by omega) p;rw [e]at s
      have key:∀(L:List Nat),L.Nodup→∀(i j b:Nat),L[i]?=some b→L[j]?=some b→i=j:=by
       intro L
       induction L with
       |nil=>intro _ i j b e;simp at e
       |cons x L ih=>
        intro a i j b e g;rw [List.nodup_cons]at a
        cases i with
        |zero=>cases j with
         |zero=>rfl
         |succ j=>simp at e g;subst e;exact absurd (aqZ g) a.1
        |succ i=>cases j with
         |zero=>simp at e g;subst g;exact absurd (aqZ e) a.1
         |succ j=>rw [ih a.2 i j b (by simpa using e) (by simpa using g)]
      have:=key L a _ _ _ s y;omega
 refine Io _ A V (by omega) (fun b c=>⟨if_pos c, ?_, ?_⟩) (fun b d h2=> ?_) (fun b c t u=> ?_)
 · rcases k b c with q|q
   · left;unfold eT;rw [q]
   · right
     unfold Mi at q;split at q
     · rename_i z cs D G m f
       unfold eT;rw [m,f];simp only [q]
     · exact q.elim
 · rintro ⟨es,e⟩
   rcases k b c with q|q
   · rw [q]at e;cases e
   · rw [e]at q;unfold Mi at q;split at q
     · rename_i f;cases f
     · exact q.elim
 · rw [if_neg (by omega)]
   exact l _ (aqZ (getD b d h2))
 · intro z cs e
   rcases k b c with q|q
   · rw [q]at e;cases e
   · rw [e]at q
     unfold Mi at q;split at q
     · rename_i C w B v m f
       cases f;have:=u _ _ m;omega
     · exact q.elim
theorem cn {r a:PV} {h:PH} (V:Vg tI id h [] r a):Mg 0 r h a []:=Im _ _ (lH.none _ _ _) V
def PF.y7:List (Nat×PV)→PF
 |[]=>⟨fun _=>.any⟩
 |(t,p)::l=>⟨fun a=>if a=t then p else(PF.y7 l).g a⟩
@[simp]theorem aaP (a:Nat):(PF.y7 []).get a= .any:=rfl
@[simp]theorem yf (t a:Nat) (p:PV) (l:List (Nat×PV)):(PF.y7 ((t,p)::l)).get a=if a=t then p else(PF.y7 l).get a:=rfl
def pM (A:Nat→Prop) (σ:Nat→Nat) (h bs:PH) (fr:PF):List (Nat×PV)→Prop
 |[]=>True
 |(t,p)::l=>Vg A σ h bs (fr.get t) p∧pM A σ h bs fr l
@[simp]theorem XI (A:Nat→Prop) (a:Nat→Nat) (h c:PH) (b:PF):pM A a h c b []↔True:=Iff.rfl
@[simp]theorem TW (A:Nat→Prop) (a:Nat→Nat) (h c:PH) (b:PF) (t:Nat) (p:PV) (l:List (Nat×PV)):pM A a h c b ((t,p)::l)↔Vg A a h c (b.get t) p∧pM A a h c b l:=Iff.rfl
theorem pM.ok {A:Nat→Prop} {b:Nat→Nat} {h d:PH} {c:PF}:∀{l:List (Nat×PV)},pM A b h d c l→∀t,Vg A b h d (c.get t) ((PF.y7 l).get t)
 |[],_,t=>RJ _
 |(a,p)::l,k,t=>by
  rw [yf];split
  ·rename_i e;subst e;exact k.1
  ·exact pM.ok k.2 t
theorem RQ {b:PF} {h h2:PH} (A:Nat→Prop) (a:Nat→Nat) (l:List (Nat×PV)) (K:lH A a h h2) (V:pM A a h h2 b l):Gh 0 b h (PF.y7 l) h2:=by
 intro F H c e S R;exact ⟨_,_,K.ok S,fun t=>V.ok t F H c _ S (R t),fun f d T=>yd K d T⟩
end P
namespace P
open Go Go.RowKit
mutual
def qL:PV→Bool
 | .v _=>true
 | .fs _ _=>true
 | .fp _=>true
 | .agg cs=>ef cs
 | .gN cs=>ef cs
 | .fn _ a b=>ef a&&ef b
 | .q8 _ p=>qL p
 |_=>false
def ef:List PV→Bool
 |[]=>true
 |p::ps=>qL p&&ef ps
end
attribute [simp] sh y6 sU kB
@[simp]theorem akd (x:Value):qL (.v x)=true↔True:=⟨fun _=>trivial,fun _=>rfl⟩
@[simp]theorem agU (sz:Nat) (rows:List (List PV)):qL (.fs sz rows)=true↔True:=⟨fun _=>trivial,fun _=>rfl⟩
@[simp]theorem aaQ (cs:List PV):qL (.agg cs)=true↔ef cs=true:=by rw [qL]
@[simp]theorem aaR (cs:List PV):qL (.gN cs)=true↔ef cs=true:=by rw [qL]
@[simp]theorem aaS (t:Nat) (p:PV):qL (.q8 t p)=true↔qL p=true:=by rw [qL]
@[simp]theorem agV:ef []=true↔True:=⟨fun _=>trivial,fun _=>rfl⟩
@[simp]theorem pN (p:PV) (ps:List PV):ef (p::ps)=true↔qL p=true∧ef ps=true:=by rw [ef,aqX]
theorem lJ:∀l:List PV,ef l=l.all qL
 |[]=>rfl
 |p::l=>by simp [ef,lJ l]
theorem aZ (a b:List PV):ef (a++b)=true↔ef a=true∧ef b=true:=by simp [lJ]
theorem yg {p:PV} (a:qL p=true):∀{l:List PV} {k:Nat},ef l=true→ef (l.set k p)=true
 |[],k,_=>rfl
 |q::l,0,h=>by rw [pN]at h;exact (pN _ _).2 ⟨a,h.2⟩
 |q::l,k+1,h=>by rw [pN]at h;exact (pN _ _).2 ⟨h.1,yg a h.2⟩
attribute [simp] yg
mutual
theorem Ak (k:Nat):∀{p:PV},qL p=true→sh k p=p
 | .v _,_=>rfl
 | .fs _ _,_=>rfl
 | .fp _,_=>rfl
 | .agg cs,h=>by rw [sh,jt k (by simpa using h)]
 | .gN cs,h=>by rw [sh,jt k (by simpa using h)]
 | .fn f a b,h=>by
  simp only [qL,aqX]at h;rw [sh,jt k h.1,jt k h.2]
 | .q8 t p,h=>by rw [sh,Ak k (by simpa using h)]
theorem jt (k:Nat):∀{l:List PV},ef l=true→y6 k l=l
 |[],_=>rfl
 |p::l,h=>by
  simp only [ef,aqX]at h;rw [y6,Ak k h.1,jt k h.2]
end
section
variable{A:Nat→Prop} {σ:Nat→Nat} {h bs:PH}
mutual
theorem sV:∀{p:PV},qL p=true→Vg A σ h bs p p
 | .v _,_=>(agS _).2 trivial
 | .fs _ _,_=>(XA _ _).2 trivial
 | .fp _,_=>(XD _).2 trivial
 | .agg cs,h=>Ii (kC (by simpa using h))
 | .gN cs,h=>Aj (kC (by simpa using h))
 | .fn f a b,h=>by
  simp only [qL,aqX]at h;exact XE (kC h.1) (kC h.2)
 | .q8 t p,h=>RL (sV (by simpa using h))
theorem kC:∀{l:List PV},ef l=true→nO A σ h bs l l
 |[],_=>trivial
 |p::l,h=>by
  simp only [ef,aqX]at h;exact ⟨sV h.1,kC h.2⟩
end
@[simp]theorem XJ {l:List PV} (k:ef l=true):nO A σ h bs l l↔True:=⟨fun _=>trivial,fun _=>kC k⟩
@[simp]theorem aaT {p:PV} (k:qL p=true):Vg A σ h bs p p↔True:=⟨fun _=>trivial,fun _=>sV k⟩
theorem Ci {b i:Nat} (k:Mi h[b]? bs[i]?):∃T,eT h b=some T∧eT bs i=some T:=by
 unfold Mi at k;split at k
 ·rename_i z cs d e c a
  exact ⟨cs.length,by unfold eT;rw [c],by unfold eT;rw [a,k]⟩
 ·exact k.elim
@[simp]theorem agW {b i sz o n c:Nat} (a:σ i=b) (k:Mi h[b]? bs[i]?):Vg A σ h bs (.sl sz b o n c) (.sl sz i o n c)↔True:=⟨fun _=>trivial,fun _=>by
 obtain ⟨T,d,h2⟩:=Ci k
 exact XF d h2 a⟩
@[simp]theorem aaU {b i o t:Nat} (a:σ i=b) (k:Mi h[b]? bs[i]?):Vg A σ h bs (.ref b o t) (.ref i o t)↔True:=⟨fun _=>trivial,fun _=>by
 obtain ⟨T,c,h2⟩:=Ci k
 exact RM c h2 a⟩
def isVoid (bs:PH) (i:Nat):Bool:=match bs[i]? with
 |some (.cells _ [])=>true
 |_=>false
@[simp]theorem XL {sz i:Nat} (k:isVoid bs i=true):Vg A σ h bs (.v (.slice none 0 0)) (.sl sz i 0 0 0)↔True:=⟨fun _=>trivial,fun _=>by
 unfold isVoid at k;split at k
 ·rename_i z e;exact Mh e
 ·cases k⟩
@[simp]theorem aaV (ps a:List PV) (k:nO A σ h bs ps a):Vg A σ h bs (.agg ps) (.agg a)↔True:=⟨fun _=>trivial,fun _=>Ii k⟩
@[simp]theorem aaW (ps a:List PV) (k:nO A σ h bs ps a):Vg A σ h bs (.gN ps) (.gN a)↔True:=⟨fun _=>trivial,fun _=>Aj k⟩
def y8:PV→Bool
 | .v _=>true
 | .fs _ _=>true
 |_=>false
theorem RR {p:PV} (k:y8 p=true):Vz A h p p:=by
 cases p<;>first
  |exact RI _
  |exact Ic _ _
  |cases k
theorem oW:∀{l:List PV},l.all y8=true→Cc A h l l
 |[],_=>trivial
 |p::l,k=>by
  simp only [List.all_cons,aqX]at k;exact ⟨RR k.1,oW k.2⟩
theorem Mj {p:PV} (k:y8 p=true):qL p=true:=by cases p<;>first|rfl|cases k
theorem yh {l:List PV} (k:l.all y8=true):ef l=true:=by
 rw [lJ,ara]at*;exact fun p a=>Mj (k p a)
end
section
variable{E:Env} {O:jk} {n:Nat} {Q:Ex→PF→PH→Prop} {ks:List Kp} {fr:PF} {h:PH} {m:Mp} {l:List AO} {d:Option Nat}
def Fz (E:Env) (O:jk) (f:Nat) (args:List PV) (r:PV):Prop:=tt E O f args [] (fun r' h'=>r'=r∧h'=[]∧qL r=true)
def Fo (E:Env) (O:jk) (f:Nat) (args:List PV) (sz k:Nat) (cs:List PV):Prop:=tt E O f args [] (fun r' h'=>r'= .sl sz 0 0 k k∧h'=[.cells sz cs]∧ef cs=true∧cs.length=k*sz)
def Mk (res:List RS) (r:PV):Ex→PF→PH→Prop
 | .exit _,_,_=>False
 |_,fr,h=>(vI.all fr h res).map oQ=some r
@[simp]theorem agX (res:List RS) (r:PV):Mk res r .normal fr h=((vI.all fr h res).map oQ=some r):=rfl
@[simp]theorem agY (res:List RS) (r:PV):Mk res r .ret fr h=((vI.all fr h res).map oQ=some r):=rfl
theorem PK.XM {Q i:Ex→PF→PH→Prop} (j:∀ex fr h,Q ex fr h→i ex fr h) {f:Cf} {fr:PF} {h:PH} (k:PK E O n Q f fr h):PK E O n i f fr h:=by
 induction k with
 |skip _ ih=>exact .skip ih
 |ret _ ih=>exact .ret ih
 |exit _ ih=>exact .exit ih
 |bG _ ih=>exact .bG ih
 |bQ _ ih=>exact .bQ ih
 |seq _ ih=>exact .seq ih
 |block _ ih=>exact .block ih
 |cond e _ ih=>exact .cond e ih
 |loop I k _ g o ih=>exact .loop I k ih g o
 |L9 _ ih=>exact .L9 ih
 |xY e _ ih=>exact .xY e ih
 |B8 _ ih=>exact .B8 ih
 |B9 _ ih=>exact .B9 ih
 |op e _ ih=>exact .op e ih
 |Xq e w _ ih=>exact .Xq e w ih
 |HW e w _ ih=>exact .HW e w ih
 |call c _ ih=>exact .call c ih
 |callv e c _ ih=>exact .callv e c ih
 |Ma q=>exact .Ma (j _ _ _ q)
 |dns _ ih=>exact .dns ih
 |dnb _ ih=>exact .dnb ih
 |Xr a b c=>exact .Xr a b c
 |des _ ih=>exact .des ih
 |HX _ ih=>exact .HX ih
 |Mb e _ ih=>exact .Mb e ih
 |del _ ih=>exact .del ih
 |Mc _ ih=>exact .Mc ih
theorem Fz.body {f:Nat} {F:AF} {args:List PV} {r:PV} (o:O f=none) (s:E f=some F) (p:args.length=F.np) (c:qL r=true) (k:PK E O 0 (Mk F.res r) (.code F.body []) (PF.of args) []):Fz E O f args r:=by
 refine tt.body o s p (PK.XM ?_ k);intro ex fr h q
 have:∀ex,Mk F.res r ex fr h→(∀i,ex≠ .exit i)→∃a,vI.all fr h F.res=some a∧∃b h2,Mg 0 (oQ a) h b h2∧b=r∧h2=[]∧qL r=true:=by
  intro ex q j
  have g:(vI.all fr h F.res).map oQ=some r:=by
   cases ex with
   |exit i=>exact absurd rfl (j i)
   |normal=>exact q
   |ret=>exact q
  obtain ⟨a,e,t⟩:=aq4.1 g;exact ⟨a,e,r,[],by rw [t];exact cn (sV c),rfl,rfl,c⟩
 cases ex with
 |exit i=>exact q
 |normal=>exact this _ q (fun i=>by simp)
 |ret=>exact this _ q (fun i=>by simp)
def Cj (h:PH) (sz k:Nat) (cs:List PV):PV→Prop
 | .sl fY b o n' c=>fY=sz∧o=0∧n'=k∧c=k∧h[b]?=some (.cells sz cs)
 | .v (.slice none 0 0)=>k=0∧cs=[]
 |_=>False
def XN (res:List RS) (sz k:Nat) (cs:List PV):Ex→PF→PH→Prop
 | .exit _,_,_=>False
 |_,fr,h=>∃vs,vI.all fr h res=some vs∧Cj h sz k cs (oQ vs)
@[simp]theorem agZ (res:List RS) (sz k:Nat) (cs:List PV):XN res sz k cs .normal fr h=∃vs,vI.all fr h res=some vs∧Cj h sz k cs (oQ vs):=rfl
@[simp]theorem ag0 (res:List RS) (sz k:Nat) (cs:List PV):XN res sz k cs .ret fr h=∃vs,vI.all fr h res=some vs∧Cj h sz k cs (oQ vs):=rfl
theorem Fz.call {f:Nat} {args b:List PV} {r:PV} (k:Fz E O f b r) (L:List Nat) (e:nO (· ∈L) id h [] args b):JD E O f args h (· ∈[]) (fun r' a=>r'=r∧a=ee h L):=
 (tt.pure L k e).mono (by
  rintro r' a ⟨g,i,⟨rfl,rfl,c⟩,rfl,rfl⟩
  exact ⟨Ak _ c,by simp⟩)
theorem bJ {f:Nat} {«as»:List X} {args:List PV} {r:PV} (k:Fz E O f args r) (b:«as».map (eW fr)=args) (a:ef args=true) (next:PK E O n Q (.ops (m.up [] (fr.aN d r) h) l ks) (fr.aN d r) h):PK E O n Q (.ops m (⟨none,d,.call f «as»⟩::l) ks) fr h:=
 sT (W:=[]) b ((k.call [] (kC a)).mono (by rintro c e ⟨rfl,rfl⟩;exact next))
theorem pO {f:Nat} {«as»:List X} {args:List PV} {r:PV} (L:List Nat) (k:Fz E O f args r) (a:nO (· ∈L) id h [] («as».map (eW fr)) args) (next:PK E O n Q (.ops (m.up [] (fr.aN d r) (ee h L)) l ks) (fr.aN d r) (ee h L)):PK E O n Q (.ops m (⟨none,d,.call f «as»⟩::l) ks) fr h:=
 sT (W:=[]) rfl ((k.call L a).mono (by rintro b c ⟨rfl,rfl⟩;exact next))
end
@[simp]theorem ag1:IntKind.i64.wrap 1=1:=ai ⟨by omega,by omega⟩
abbrev pi (n:Int):PV:=.v (.int .i64 n)
abbrev pb (b:Bool):PV:=.v (.bool b)
abbrev ps (s:ByteArray):PV:=.v (.string s)
abbrev dM:PV:=.v (.slice none 0 0)
def ir (l:List Int):List (List PV):=l.map fun n=>[pi n]
@[simp]theorem TX (l:List Int):(ir l).length=l.length:=by simp [ir]
@[simp]theorem Ml (l:List Int):(ir l).flatten=l.map pi:=by
 induction l with
 |nil=>rfl
 |cons a l ih=>simp_all [ir]
abbrev nE (l:List Int):PV:=.fs 1 (ir l)
theorem ri {A:Nat→Prop} {h:PH} {sz b n:Nat} {rows:List (List PV)} (j:A b) (f:h[b]?=some (.cells sz rows.flatten)) (g:0<sz) (c:rows.length=n) (a:∀r∈rows,r.length=sz) (d:Cc A h rows.flatten rows.flatten):Vz A h (.sl sz b 0 n n) (.fs sz rows):=by
 have e:rows.flatten.length=n*sz:=by
  rw [←c];clear f d c
  induction rows with
  |nil=>simp
  |cons r rows ih=>
   have:=a r (by simp);rw [List.flatten_cons,aq3,ih (fun q i=>a q (by simp [i])),List.length_cons,Nat.succ_mul];omega
 exact Ig j f (by rw [Nat.zero_add,e]) g (aqY _) (aqY _) c a (by rw [Nat.zero_mul,List.drop_zero,←e,List.take_length];exact d)
theorem Iq {A:Nat→Prop} {h:PH} {b:Nat} {l:List Int} (c:A b) (a:h[b]?=some (.cells 1 (l.map pi))):Vz A h (.sl 1 b 0 l.length l.length) (nE l):=
 ri c (by rw [Ml];exact a) Nat.one_pos (by simp) (by simp [ir]) (oW (by simp [y8]))
attribute [simp] Xp pck HM Rx DY L8 xX vG Rw LK
attribute [simp] isVoid Cj
end P
namespace P
open Go Go.RowKit
variable{E:Env} {O:jk}
mutual
def ren (τ:Nat→Nat):PV→PV
 | .ref b o t=>.ref (τ b) o t
 | .sl sz b o n c=>.sl sz (τ b) o n c
 | .mp b=>.mp (τ b)
 | .agg cs=>.agg (Al τ cs)
 | .gN cs=>.gN (Al τ cs)
 | .fn f a b=>.fn f (Al τ a) (Al τ b)
 | .q8 t p=>.q8 t (ren τ p)
 | .v x=>.v x
 | .fs sz rows=>.fs sz rows
 | .fp cells=>.fp cells
 | .any=>.any
def Al (τ:Nat→Nat):List PV→List PV
 |[]=>[]
 |p::ps=>ren τ p::Al τ ps
end
attribute [simp] ren Al
def RT (τ:Nat→Nat):PB→PB
 | .cells z cs=>.cells z (Al τ cs)
 | .map es=>.map (es.map fun e=>(e.1,ren τ e.2))
 | .dead=>.dead
section
variable{τ:Nat→Nat} {bs h:PH}
end
def Am:PH→List Nat→PH→PH
 |h,[],_=>h
 |h,_::_,[]=>h
 |h,b::L,P::Ps=>Am (h.set b P) L Ps
def tau (L:List Nat) (m:Nat):Nat→Nat:=fun i=>if i<L.length then L.getD i 0 else m+(i- L.length)
def merge (h:PH) (L:List Nat) (hs:PH):PH:=Am h L ((hs.take L.length).map (RT (tau L h.length)))++(hs.drop L.length).map (RT (tau L h.length))
def Mm:Option PB→Option PB→Prop
 |some (.cells _ cs),some (.cells _ dk)=>cs.length=dk.length
 |some (.map _),some (.map _)=>True
 |_,_=>False
@[simp]theorem ag3 (z b:Nat) (cs a:List PV):Mm (some (.cells z cs)) (some (.cells b a))↔cs.length=a.length:=Iff.rfl
@[simp]theorem ag4 (es es':List (Value×PV)):Mm (some (.map es)) (some (.map es'))↔True:=Iff.rfl
def szL (h hs:PH):Nat→List Nat→Prop
 |_,[]=>True
 |i,b::L=>Mm h[b]? hs[i]?∧szL h hs (i+1) L
@[simp]theorem aaZ (h a:PH) (i:Nat):szL h a i []↔True:=Iff.rfl
@[simp]theorem XO (h a:PH) (i b:Nat) (L:List Nat):szL h a i (b::L)↔Mm h[b]? a[i]?∧szL h a (i+1) L:=Iff.rfl
section
variable{n:Nat} {Q:Ex→PF→PH→Prop} {ks:List Kp} {fr:PF} {h:PH} {m:Mp} {l:List AO} {d:Option Nat}
end
attribute [simp] tau merge Am RT
end P
namespace P
open Go Go.RowKit
variable{E:Env} {O:jk}
theorem pM.list {A:Nat→Prop} {a:Nat→Nat} {h c:PH} {b:PF}:∀{l:List (Nat×PV)},pM A a h c b l→nO A a h c (l.map fun e=>b.get e.1) (l.map (·.2))
 |[],_=>trivial
 |(t,p)::l,k=>⟨k.1,pM.list k.2⟩
theorem Ck {C:Cx} {b:Fr}:∀{l:List (Nat×PV)},cH C (l.map (·.2)) (l.map fun e=>b.get e.1)→mC C (PF.y7 l) b
 |[],_,t=>.any _
 |(a,p)::l,k,t=>by
  cases k with|cons d c=>
  rw [yf];split
  ·rename_i e;subst e;exact d
  ·exact Ck c t
theorem Ir {C:Cx} {b:PF} {c:Fr} (R:mC C b c):∀l:List (Nat×PV),cH C (l.map fun e=>b.get e.1) (l.map fun e=>c.get e.1)
 |[]=>.nil
 |(a,p)::l=>.cons (R a) (Ir R l)
theorem eU {n:Nat} {c:PF} {h h2:PH} (L:List Nat) (l:List (Nat×PV)) (p:L.length+n=h2.length) (j:L.Nodup) (o:∀b∈L,n≤b) (m:∀b,b<n→Ch h h2 b) (K:lI (fun _=>False) (fun i=>if i<n then i else L.getD (i- n) 0) h h2 0 h2) (V:pM (fun _=>False) (fun i=>if i<n then i else L.getD (i- n) 0) h h2 c l):Gh n c h (PF.y7 l) h2:=by
 intro F H g a S R;obtain ⟨s,f,q,d,T⟩:=Ip L p j o m K (Aj V.list) F H g (.tuple (l.map fun e=>a.get e.1).toArray) S (.gN (Ir R l));refine ⟨s,f,q,?_,T⟩;generalize k:(Value.tuple (l.map fun e=>a.get e.1).toArray)=v at d
 cases d with|gN r=>
 rename_i xs
 have:xs=l.map fun e=>a.get e.1:=by
  have:=Value.tuple.inj k;exact (congrArg Array.toList this).symm
 subst this;exact Ck r
theorem tt.ag5 {f:Nat} {args w:List PV} {h:PH} {sz k:Nat} {cs:List PV} (q:Fo E O f w sz k cs) (I:kB cs=true) (D:nO tI id h [] args w):
 JD E O f args h (· ∈[]) (fun r J=>r= .sl sz h.length 0 k k∧J=h++[.cells sz cs]):=by
 intro F H φ n S Q;have P:=(lH.none tI id h).ok S;refine (q _ H _ n P (D.ok S Q)).mono ?_;rintro x m ⟨r,U,X,j,⟨rfl,rfl,o,R⟩,G,u,T⟩
 have y:∀{V:Nat→Prop} {x:Nat} {F:Nat→Prop} {φ:Nat→Nat},¬ im ⟨F,H,φ,[]⟩ V x:=by
  rintro V x F φ ⟨b,_,s,_⟩;have:=bO s;simp at this
 have no:∀{b:Nat} {F:Nat→Prop} {φ:Nat→Nat},¬ bF (Cx.mk F H φ []).h b:=fun s=>by have:=bO s;simp at this
 have same:∀x,x<H.nx→m.get x=H.get x:=fun x i=>T.out x i y
 have new:∀b,bF [PB.cells sz cs] b→H.nx≤j b:=fun b g=>by
  rcases T.loc b g with q|⟨q,_⟩
  ·exact q
  ·exact absurd q no
 have t:dO ⟨F,m,j,[.cells sz cs]⟩:={
  wf:=u.wf
  fz:=fun x i=>ari (S.fz x i) T.nx
  inj:=u.inj
  aS:=fun b z K e v=>by
   obtain ⟨n,C,B,A,_⟩:=u.aS b z K e v;refine ⟨n,C,?_,A,fun q=>?_⟩
   ·cases b with
    |zero=>simp at e;obtain ⟨_,rfl⟩:=e;exact mm I B
    |succ b=>simp at e
   ·have:=S.fz _ q
    have:=new b (cd e v);dsimp only at*;omega
  Af:=fun b es e=>by
   cases b with
   |zero=>simp at e
   |succ b=>simp at e}
 have M:dq 0 tI ⟨F,H,φ,[]⟩ ⟨F,m,j,[.cells sz cs]⟩:={
  n0:=T.n0
  nx:=T.nx
  fz:=fun x i=>⟨i,same x (S.fz x i)⟩
  fo:=fun _ _ _ h=>h
  out:=fun x i _=>same x i
  loc:=fun b g=>.inl (new b g)
  len:=fun _=>aro _
  le:=fun b g=>absurd g (arl _)
  wD:=fun b g=>absurd g (arl _)
  xS:=fun b g=>absurd g (arl _)}
 obtain ⟨N,L⟩:=Cg (W:=(· ∈[])) S t M
 have p:RV ⟨F,m,j,[.cells sz cs]⟩ (.sl sz 0 0 k k) x:=by
  cases G with|sl a b c d=>exact .sl a b c d
 have l:=Ce (φ:=φ) (h:=h) p;refine ⟨_,_,F,join h φ j,⟨rfl,rfl⟩,?_,?_,?_⟩
 ·have e:sh h.length (.sl sz 0 0 k k)= .sl sz h.length 0 k k:=by simp
  rw [e]at l
  simpa [tu,jt _ o]using l
 ·simpa [tu,jt _ o]using N
 ·simpa [tu,jt _ o]using L
section
variable{n:Nat} {Q:Ex→PF→PH→Prop} {ks:List Kp} {fr:PF} {h:PH} {m:Mp} {l:List AO} {d:Option Nat}
theorem An {f:Nat} {«as»:List X} {args:List PV} {sz k:Nat} {cs:List PV} (q:Fo E O f args sz k cs) (a:nO tI id h [] («as».map (eW fr)) args) (b:kB cs=true) (next:PK E O n Q (.ops (m.up [] (fr.aN d (.sl sz h.length 0 k k)) (h++[.cells sz cs])) l ks) (fr.aN d (.sl sz h.length 0 k k)) (h++[.cells sz cs])):PK E O n Q (.ops m (⟨none,d,.call f «as»⟩::l) ks) fr h:=
 sT (W:=[]) rfl ((tt.ag5 q b a).mono (by rintro c e ⟨rfl,rfl⟩;exact next))
end
end P
namespace P
open Go Go.RowKit
section
variable{T:Type} {enc:TypeId×Value→T} {P:Program} {W:World}
def F0 (W:World):Nat→Prop:=fun b=>b<W.heap.size
theorem st0 (W:World) (φ:Nat→Nat):dO ⟨F0 W,H0 W,φ,[]⟩where
 wf:=aqY _
 fz:=fun x a=>a
 inj:=fun b c s=>by have:=bO s;simp at this
 aS:=fun b z cs e=>by simp at e
 Af:=fun b es e=>by simp at e
def SlC (v:Value):Prop:=∃a n c,v= .slice a n c∧n≤c∧(c=0∨∀x,a=some x→x.spot=none)
theorem D5 {e:Nat} {c v:Value} (h:c= .slice none 0 0∨∃a len cap,c= .slice (some a) len cap∧len≤cap) (b:aU e c=some v):SlC v:=by
 rcases h with rfl|⟨a,len,cap,rfl,g⟩
 ·simp [aU,flat]at b;subst b;exact ⟨_,_,_,rfl,aqY _,.inl rfl⟩
 ·simp only [aU]at b
  cases d:(decide (a.block<e)&&a.spot.isNone)with
  |true=>rw [d]at b;simp only [cond_true,aqV]at b;subst b;exact ⟨_,_,_,rfl,g,.inr fun x f=>by cases f;simp only [aqX]at d;exact Option.isNone_iff_eq_none.1 d.2⟩
  |false=>
   rw [d]at b;simp only [cond_false]at b
   cases h2:Nat.beq len 0 with
   |true=>rw [h2]at b;simp only [cond_true,aqV]at b;subst b;exact ⟨_,_,_,rfl,aqY _,.inl rfl⟩
   |false=>rw [h2]at b;simp at b
theorem ag6 {b z:Nat} {c:List Value} (h:(H0 W).get b=some (.cells z c)):z=1048576:=by
 have h2:tR W b=some (.cells z c):=by
  rw [AH.eA (AH.aQ h)]at h;rw [←zz];exact h
 unfold tR at h2;split at h2
 ·cases h2;rfl
 ·cases h2
theorem ag7 {b o sz:Nat} {r:List Value} (h:(H0 W).ldn ⟨b,o,none⟩ sz=some r) (a:sz≤1048576):F0 W b∧(H0 W).j9 b sz=true:=by
 unfold AH.ldn at h;split at h
 ·rename_i z c _ e
  have:=ag6 e;refine ⟨AH.aQ e,?_⟩;unfold AH.j9;rw [show(H0 W).get b=_ from e];exact decide_eq_true (by omega)
 ·cases h
theorem Ao {α:Type} {F:Nat→Prop} {H:AH} {d:α→List PV} {ok:α→Prop}:∀{rows:List (List Value)} {ys:List α},fj (fun l y=>gO F H (d y) l∧ok y) rows ys→kz F H (ys.map d) rows∧∀y∈ys,ok y
 |_,_, .nil=>⟨.nil,by simp⟩
 |_,_, .cons a b=>⟨.cons a.1 (Ao b).1,fun y c=>by
    rcases arc.1 c with rfl|c
    · exact a.2
    · exact (Ao b).2 y c⟩
theorem ug {α:Type} (g:α→List PV) {ok:α→Prop} {t e:TypeId} {fuel:Nat} {c:Value} {d:DataW T} (u:P.underlying t=some (.slice e)) (L:0<P.cellsOf e) (j:P.cellsOf e≤1048576) (p:0<P.bytesOf e)
 (h:Rd enc P W fuel t [c] d) (F:vi P t d) (rd:∀m B A,m<fuel→Rd enc P W m e B A→vi P e A→∃l y,aK W.heap.size B=some l∧gO (F0 W) (H0 W) (g y) l∧ok y):
 ∃(v:Value) (ys:List α),aK W.heap.size [c]=some [v]∧RF (F0 W) (H0 W) (.fs (P.cellsOf e) (ys.map g)) v∧(∀y∈ys,ok y)∧ys.length*P.bytesOf e≤reachBytes:=by
 obtain ⟨v,rows,ys,f,z,s,N⟩:=Lj (C:=fun l y=>gO (F0 W) (H0 W) (g y) l∧ok y) u L p h F rd;obtain ⟨E,D⟩:=Ao s
 have H:SlC v:=by
  obtain ⟨ps,h⟩:=h;simp only [aK]at f
  cases h2:aU W.heap.size c with
  |none=>rw [h2]at f;simp at f
  |some x=>
   rw [h2]at f;simp only [aqV,List.cons.injEq,and_true]at f;subst f;refine D5 ?_ h2;rcases DataW.trod_slice u h with⟨e,_⟩|⟨a,len,cap,_,_,_,_,e,_,_,K,_⟩
   ·simp only [List.cons.injEq,and_true]at e;exact .inl e
   ·simp only [List.cons.injEq,and_true]at e;exact .inr ⟨a,len,cap,e,K⟩
 refine ⟨v,ys,f,?_,D,by rw [←s.length];exact N⟩;obtain ⟨a,n,S,rfl,J,G⟩:=H;have O:=z;obtain ⟨V,U,e,k⟩:=z.is;cases e;have i:(ys.map g).length=rows.length:=by rw [List.length_map,s.length]
 have:RF (F0 W) (H0 W) (.fs (P.cellsOf e) (ys.map g)) (.slice a (ys.map g).length S):=by
  refine .fs (by rw [i];exact O) (by rw [i];exact J) (fun d w=>⟨?_,?_⟩) E
  ·rcases G with q|q
   ·exact .inr q
   ·exact .inl (q d w)
  ·rw [i]
   by_cases M:rows.length=0
   ·exact .inl M
   ·obtain ⟨r,I⟩:∃r,rows[0]?=some r:=⟨_,aqU (by omega)⟩
    obtain ⟨b,o,R,Q⟩:=k 0 r I;subst R;cases w;exact .inr (ag7 Q j)
 rw [i]at this;exact this
end
end P
set_option maxRecDepth 10000
namespace P
open Go Go.RowKit
mutual
def kQ:bV→List PV
 | .mk op n cp args=>[pi op,pi n,pi cp,.fs 4 (ie args)]
def ie:List bV→List (List PV)
 |[]=>[]
 |e::l=>kQ e::ie l
end
mutual
def tJ:bE→List PV
 | .mk op n args aB aE=>[pi op,pi n,.fs 4 (ie args),.fs 5 (mS aB),.fs 5 (mS aE)]
def mS:List bE→List (List PV)
 |[]=>[]
 |e::l=>tJ e::mS l
end
theorem pP:∀l:List bV,ie l=l.map kQ
 |[]=>rfl
 |_::l=>by simp [ie,pP l]
theorem mq:∀l:List bE,mS l=l.map tJ
 |[]=>rfl
 |_::l=>by simp [mS,mq l]
def Ap (v:Vr):List PV:=[ps v.name,pi v.level,pi v.cells]
abbrev sW (l:List Vr):PV:=.fs 3 (l.map Ap)
def aO (p:bw):List PV:=[pi p.w,sW p.vars,.fs 5 (mS p.body)]
def hU (t:eY):List PV:=[nE t.store,nE t.bM]
abbrev ag8 (l:List (List Int)):PV:=.fs 1 (l.map fun s=>[nE s])
@[simp]theorem XP (p:bw):ef (aO p)=true:=rfl
@[simp]theorem XQ (p:eY):ef (hU p)=true:=rfl
@[simp]theorem TY (p:List Vr):qL (sW p)=true:=rfl
@[simp]theorem XR (p:List (List Int)):qL (ag8 p)=true:=rfl
mutual
def Ot:bV→Prop
 | .mk op n cp args=>jG op∧jG n∧jG cp∧args.length<2^60∧D6 args
def D6:List bV→Prop
 |[]=>True
 |e::l=>Ot e∧D6 l
end
mutual
def Mn:bE→Prop
 | .mk op n args aB aE=>jG op∧jG n∧args.length<2^60∧aB.length<2^60∧aE.length<2^60∧D6 args∧yi aB∧yi aE
def yi:List bE→Prop
 |[]=>True
 |e::l=>Mn e∧yi l
end
def kD (p:bw):Prop:=jG p.w∧nj p.vars∧yi p.body∧p.body.length<2^60
def Aq (t:eY):Prop:=t.store.length<2^60∧t.bM.length<2^60∧(∀n∈t.store,jG n)∧∀n∈t.bM,jG n
section
variable{F:Nat→Prop} {H:AH}
theorem iz {sz:Nat} {rows:List (List PV)} {x:Value} (h:RF F H (.fs sz rows) x):∃rs,Rows H sz x rs∧kz F H rows rs∧∃a c,x= .slice a rows.length c:=by
 cases h with|fs d e f b=>exact ⟨_,d,b,_,_,rfl⟩
mutual
theorem RU:∀{e:bV} {c:List Value},Ot e→gO F H (kQ e) c→oh H c e
 | .mk op n i args,c,ok,h=>by
  simp only [kQ]at h
  cases h with|cons g h=>
  cases h with|cons f h=>
  cases h with|cons h2 h=>
  cases h with|cons d h=>
  cases h;cases g;cases f;cases h2;obtain ⟨rs,b,a,_⟩:=iz d;simp only [Ot]at ok;exact .mk ok.1 ok.2.1 ok.2.2.1 ok.2.2.2.1 b (vM ok.2.2.2.2 a)
theorem vM:∀{l:List bV} {rs:List (List Value)},D6 l→kz F H (ie l) rs→fU H rs l
 |[],rs,_,h=>by cases h;exact .nil
 |e::l,rs,ok,h=>by
  simp only [ie]at h
  cases h with|cons a b=>
  exact .cons (RU ok.1 a) (vM ok.2 b)
end
mutual
theorem RW:∀{e:bE} {c:List Value},Mn e→gO F H (tJ e) c→nk H c e
 | .mk op n args o r,c,ok,h=>by
  simp only [tJ]at h
  cases h with|cons m h=>
  cases h with|cons l h=>
  cases h with|cons h2 h=>
  cases h with|cons k h=>
  cases h with|cons j h=>
  cases h;cases m;cases l;obtain ⟨q,i,f,_⟩:=iz h2;obtain ⟨rt,a,b,_⟩:=iz k;obtain ⟨p,g,d,_⟩:=iz j;simp only [Mn]at ok;exact .mk ok.1 ok.2.1 ok.2.2.1 ok.2.2.2.1 ok.2.2.2.2.1 i (vM ok.2.2.2.2.2.1 f) a (oX ok.2.2.2.2.2.2.1 b) g (oX ok.2.2.2.2.2.2.2 d)
theorem oX:∀{l:List bE} {rs:List (List Value)},yi l→kz F H (mS l) rs→gE H rs l
 |[],rs,_,h=>by cases h;exact .nil
 |e::l,rs,ok,h=>by
  simp only [mS]at h
  cases h with|cons a b=>
  exact .cons (RW ok.1 a) (oX ok.2 b)
end
theorem oY {l:List Int} {x:Value} (h:RF F H (nE l) x):fT H x l:=by
 obtain ⟨rs,d,e,_⟩:=iz h
 have:∀{l:List Int} {rs:List (List Value)},kz F H (ir l) rs→rs=l.map fun n=>[.int .i64 n]:=by
  intro l
  induction l with
  |nil=>intro rs h;cases h;rfl
  |cons a l ih=>
   intro rs h;simp only [ir,List.map_cons]at h
   cases h with|cons a b=>
   cases a with|cons a c=>
   cases a;cases c;rw [ih b];rfl
 rw [this e]at d;exact d
theorem Is {l:List Vr} {x:Value} (h:RF F H (sW l) x):de H x l:=by
 obtain ⟨rs,c,d,_⟩:=iz h
 have:∀{l:List Vr} {rs:List (List Value)},kz F H (l.map Ap) rs→rs=l.map Vr.row:=by
  intro l
  induction l with
  |nil=>intro rs h;cases h;rfl
  |cons a l ih=>
   intro rs h;simp only [Ap,List.map_cons]at h
   cases h with|cons h b=>
   cases h with|cons f h=>
   cases h with|cons e h=>
   cases h with|cons h2 h=>
   cases h;cases f;cases e;cases h2;rw [ih b];rfl
 rw [this d]at c;exact c
theorem vN {p:bw} {c:List Value} (ok:kD p) (h:gO F H (aO p) c):pD H c p:=by
 simp only [aO]at h
 cases h with|cons e h=>
 cases h with|cons d h=>
 cases h with|cons h2 h=>
 cases h;cases e;obtain ⟨rs,b,a,_⟩:=iz h2;exact ⟨_,_,_,rfl,ok.1,Is d,ok.2.1,b,oX ok.2.2.1 a,ok.2.2.2⟩
theorem It {t:eY} {c:List Value} (ok:Aq t) (h:gO F H (hU t) c):xj H c t:=by
 simp only [hU]at h
 cases h with|cons b h=>
 cases h with|cons a h=>
 cases h;exact ⟨_,_,rfl,oY b,oY a,ok⟩
theorem TZ {C:Cx} {sz:Nat} {rows:List (List PV)} {x:Value} (h:RV C (.fs sz rows) x):RF C.F C.H (.fs sz rows) x:=by cases h;assumption
theorem Ou {C:Cx}:∀{ps:List PV} {xs:List Value},ps.all y8=true→cH C ps xs→gO C.F C.H ps xs
 |[],_,_,.nil=>.nil
 |p::ps,_,h,.cons a b=>by
  simp only [List.all_cons,aqX]at h;refine .cons ?_ (Ou h.2 b)
  cases p<;>first
   |(simp [y8]at h;done)
   |(cases a;exact .v _)
   |exact TZ a
theorem sX {C:Cx} {ps:List PV} {x:Value} (b:ps.all y8=true) (h:RV C (.agg ps) x):∃c,x= .agg c.toArray∧gO C.F C.H ps c:=by
 cases h with|agg a=>exact ⟨_,rfl,Ou b a⟩
end
@[simp]theorem XS (p:bw):(aO p).all y8=true:=rfl
@[simp]theorem XT (p:eY):(hU p).all y8=true:=rfl
theorem Fz.sY {f:Nat} {args:List PV} {y:Value} (k:∀F H φ vs,H.n0≤H.nx→cH ⟨F,H,φ,[]⟩ args vs→Ca E O f vs H (fun x H'=>x=y∧Ext H H')):Fz E O f args (.v y):=by
 intro F H φ vs S d;refine (k F H φ vs S.wf d).mono ?_;rintro x H' ⟨rfl,X⟩
 have T:dq 0 tI ⟨F,H,φ,[]⟩ ⟨F,H',φ,[]⟩:=⟨X.n0,X.nx,fun x c=>⟨c,X.old x (S.fz x c)⟩,fun _ _ _ h=>h,fun x c _=>X.old x c,fun b a=>absurd (bO a) (arl _),fun _=>aqY _,fun b a=>absurd a (arl _),fun b a=>absurd a (arl _),fun b a=>absurd a (arl _)⟩
 exact ⟨_,[],F,φ,⟨rfl,rfl,rfl⟩,.v _,⟨X.wf S.wf,fun x c=>ari (S.fz x c) X.nx,fun b g s=>absurd (bO s) (arl _),fun b z cs e=>by simp at e,fun b es e=>by simp at e⟩,T⟩
theorem Fo.sY {f:Nat} {args:List PV} {sz:Nat} {rows:List (List Value)} (A:0<sz) (k:∀F H φ vs,H.n0≤H.nx→cH ⟨F,H,φ,[]⟩ args vs→Ca E O f vs H (fun x H'=>dE H' sz x rows∧Ext H H'∧∀b,aS x b→H.nx≤b)):Fo E O f args sz rows.length (rows.flatten.map .v):=by
 intro F H φ vs S y;refine (k F H φ vs S.wf y).mono ?_;rintro x H' ⟨o,X,c⟩;have d:(rows.flatten.map PV.v).length=rows.length*sz:=by rw [List.length_map,bZ o.len]
 obtain ⟨a,n⟩:∃a:Nat,(rows≠[]→x= .slice (some ⟨a,0,none⟩) rows.length rows.length∧H'.get a=some (.cells sz rows.flatten)∧H.nx≤a∧H'.n0≤a):=by
  rcases o.is with⟨_,rfl⟩|⟨a,rfl,u,q⟩
  ·exact ⟨0,fun h=>absurd rfl h⟩
  ·exact ⟨a,fun _=>⟨rfl,q,c a ((ba _ _ _ _ _).2 rfl),u⟩⟩
 have one:∀{b:Nat} {P:PB},[PB.cells sz (rows.flatten.map .v)][b]?=some P→b=0∧P= .cells sz (rows.flatten.map .v):=by
  intro b P e
  cases b with
  |zero=>simp only [aqT,aqV]at e;exact ⟨rfl,e.symm⟩
  |succ b=>simp at e
 have g:∀{b:Nat},bF [PB.cells sz (rows.flatten.map .v)] b→b=0∧rows≠[]:=by
  intro b s;rcases jZ s with⟨es,e⟩|⟨z,cs,e,m⟩
  ·have:=(one e).2;cases this
  ·obtain ⟨rfl,l⟩:=one e
   cases l;exact ⟨rfl,by rintro rfl;exact m rfl⟩
 have T:dq 0 tI ⟨F,H,φ,[]⟩ ⟨F,H',fun _=>a,[.cells sz (rows.flatten.map .v)]⟩:=⟨X.n0,X.nx,fun x i=>⟨i,X.old x (S.fz x i)⟩,fun _ _ _ h=>h,fun x i _=>X.old x i,fun b c=>.inl (n (g c).2).2.2.1,fun _=>aro _,fun b c=>absurd c (arl _),fun b c=>absurd c (arl _),fun b c=>absurd c (arl _)⟩
 refine ⟨_,_,F,fun _=>a,⟨rfl,rfl,?_,d⟩,?_,⟨X.wf S.wf,fun x i=>ari (S.fz x i) X.nx,fun b C s p _=>by rw [(g s).1,(g p).1],fun b z cs e m=>?_,fun b es e=>?_⟩,T⟩
 ·rw [lJ];simp
 ·refine .sl ?_ (by simp) (fun z cs e=>?_) (fun _=>?_)
  ·rcases o.is with⟨rfl,w⟩|⟨_,rfl,_⟩
   ·exact ⟨none,0,by rw [w];rfl⟩
   ·exact ⟨_,_,rfl⟩
  ·obtain ⟨_,l⟩:=one e
   cases l;rw [d];simp
  ·by_cases j:rows=[]
   ·subst j
    refine .inl ⟨rfl,rfl,?_⟩;rcases o.is with⟨rfl,_⟩|⟨b,rfl,_⟩
    ·exact ⟨none,rfl,by simp⟩
    ·exact ⟨_,rfl,by rintro e ⟨⟩;rfl⟩
   ·exact .inr ⟨List.length_pos_iff.2 j,by rw [(n j).1];simp⟩
 ·obtain ⟨rfl,l⟩:=one e
  cases l;have j:rows≠[]:=by rintro rfl;exact m rfl
  obtain ⟨_,h2,B,t⟩:=n j;exact ⟨rows.flatten,h2,cH.lits _,t,fun r=>by have:=S.fz _ r;dsimp only at this;omega⟩
 ·have:=(one e).2;cases this
end P
namespace P
open Go Go.RowKit
theorem oZ {α:Type} {x:α}:∀{l:List α} {k:Nat},k<l.length→tG l k [x]=l.set k x
 |[],k,h=>by simp at h
 |y::l,0,_=>by simp [tG]
 |y::l,k+1,h=>by simp [tG,oZ (l:=l) (k:=k) (by simpa using h)]
@[simp]theorem aa1 (l:List Int):ef (l.map pi)=true:=by rw [lJ];simp
theorem iv (l:List Int):(bI l).flatten.map PV.v=l.map pi:=by
 induction l with
 |nil=>rfl
 |cons a l ih=>simp_all [bI]
theorem Cm (b:Bool):Fz E O 63 [pb b] (pi (if b then 1 else 0)):=by
 refine Fz.body (F:=P8) rfl rfl rfl rfl ?_;cases b
 ·simp (maxSteps:=9^7)-implicitDefEqProofs+contextual [-getElem?_pos,aqT,P8]
 ·simp (maxSteps:=9^7)-implicitDefEqProofs+contextual [-getElem?_pos,aqT,P8]
def RX (l:List Ev):List (List PV):=l.map fun e=>[pi e.kind,pi e.at_,pi e.val]
def vO (l:List (Int×Int)):List (List PV):=l.map fun e=>[pi e.1,pi e.2]
def itr (l:List vn):List (List PV):=l.map fun it=>pi it.1::tJ it.2
def evc (l:List Ev):List PV:=(RX l).flatten
@[simp]theorem aa2:evc []=[]:=rfl
def wW (l:List (Int×Int)):List PV:=(vO l).flatten
@[simp]theorem aa3:wW []=[]:=rfl
@[simp]theorem yj (a:(Int×Int)) (l:List (Int×Int)):wW (a::l)=[pi a.1,pi a.2]++wW l:=by simp [wW,vO]
theorem sZ (a b:List (Int×Int)):wW (a++b)=wW a++wW b:=by simp [wW,vO]
@[simp]theorem RY (l:List (Int×Int)):(vO l).length=l.length:=by simp [vO]
@[simp]theorem Ar:∀l:List (Int×Int),(wW l).length=l.length*2
 |[]=>rfl
 |a::l=>by rw [yj,aq3,Ar l];simp;omega
@[simp]theorem vP:∀l:List (Int×Int),(wW l).all y8=true
 |[]=>rfl
 |a::l=>by rw [yj,List.all_append,vP l];simp [y8]
@[simp]theorem aa4 (l:List (Int×Int)):ef (wW l)=true:=yh (vP l)
def itc (l:List vn):List PV:=(itr l).flatten
@[simp]theorem aa5:itc []=[]:=rfl
open Go Go.RowKit
end P
namespace P
open Go Go.RowKit
open Go Go.RowKit
@[simp]theorem T0 (V:List Vr) (c:eZ) (n i a:Int):(iU V c n i a).outs=c.outs:=rfl
@[simp]theorem T3 (V:List Vr) (c:eZ) (n i a:Int):(iU V c n i a).todo=c.todo:=rfl
@[simp]theorem Ov (c:eZ) (e n:Int):(eJ c e n).store=c.store:=rfl
@[simp]theorem RZ (c:eZ) (e n:Int):(eJ c e n).outs=c.outs:=rfl
@[simp]theorem Ow (c:eZ) (e n:Int):(eJ c e n).trace=c.trace:=rfl
@[simp]theorem R3 (c:eZ) (e n:Int):(eJ c e n).todo=[]:=rfl
section
variable{p:bw} {ps:List Int} {c:eZ} {k n:Int} {args:List bV} {aB aE:List bE} {next:List vn}
end
end P
namespace P
open Go Go.RowKit
set_option maxHeartbeats 1000000
section
variable{p:bw} {ps:List Int} {c:eZ} {k n:Int} {args:List bV} {aB aE:List bE} {next:List vn}
end
end P
namespace P
open Go Go.RowKit
section
variable{A:Nat→Prop} {σ:Nat→Nat} {h bs:PH}
@[simp]theorem ahb {b:Nat} {l:List (Int×Int)} (d:A b) (c:h[b]?=some (.cells 2 (wW l))):Vg A σ h bs (.sl 2 b 0 l.length l.length) (.fs 2 (vO l))↔True:=⟨fun _=>trivial,fun _=>vJ (ri d c (by decide) (by simp) (by unfold vO;intro r a;obtain ⟨x,_,rfl⟩:=aru.1 a;simp) (oW (vP l)))⟩
@[simp]theorem akg (b:Nat):tI b↔True:=Iff.rfl
def ahc:Option PB→List vn→Prop
 |some (.cells z cs),l=>z=6∧cs.drop 6=itc l∧cs.length=l.length*6+6
 |_,_=>False
@[simp]theorem ahd (z:Nat) (cs:List PV) (l:List vn):ahc (some (.cells z cs)) l↔z=6∧cs.drop 6=itc l∧cs.length=l.length*6+6:=Iff.rfl
def ahe (h:PH):Option PB→List Int→Prop
 |some (.cells z [.sl 1 b 0 n n']),s=>z=1∧n=s.length∧n'=s.length∧h[b]?=some (.cells 1 (s.map pi))
 |_,_=>False
@[simp]theorem ahf (z b n a:Nat) (s:List Int):ahe h (some (.cells z [.sl 1 b 0 n a])) s↔z=1∧n=s.length∧a=s.length∧h[b]?=some (.cells 1 (s.map pi)):=Iff.rfl
end
end P
set_option maxHeartbeats 1000000
namespace P
open Go Go.RowKit
open Go Go.RowKit
end P
namespace P
open Go Go.RowKit
def lK (r:eK):List PV:=[pi r.en,nE r.store,.fs 2 (vO r.outs),.fs 3 (RX r.trace),pi r.cost,pi r.used,pi r.wh]
open Go Go.RowKit
theorem Iu {F:Nat→Prop} {H:AH}:∀{l:List (List Value)} {rs:List (List Value)},kz F H (l.map fun r=>r.map PV.v) rs→rs=l:=by
 have one:∀{r:List Value} {q:List Value},gO F H (r.map PV.v) q→q=r:=by
  intro r
  induction r with
  |nil=>intro q h;cases h;rfl
  |cons a r ih=>intro q h;cases h with|cons a b=>cases a;rw [ih b]
 intro l
 induction l with
 |nil=>intro rs h;cases h;rfl
 |cons a l ih=>intro rs h;cases h with|cons a b=>rw [one a,ih b]
theorem Cn {F:Nat→Prop} {H:AH} {sz:Nat} {rows:List (List PV)} {l:List (List Value)} {x:Value} (e:rows=l.map fun r=>r.map PV.v) (h:RF F H (.fs sz rows) x):Rows H sz x l:=by
 subst e;obtain ⟨rs,a,h2,_⟩:=iz h;rwa [Iu h2]at a
end P
namespace P
open Go Go.RowKit
section
variable{T:Type} {enc:TypeId×Value→T} {W:World}
theorem vQ:∀{l:List bV},(∀e∈l,Ot e)→D6 l
 |[],_=>trivial
 |e::l,h=>⟨h e (by simp),vQ fun x a=>h x (by simp [a])⟩
theorem rj:∀{l:List bE},(∀e∈l,Mn e)→yi l
 |[],_=>trivial
 |e::l,h=>⟨h e (by simp),rj fun x a=>h x (by simp [a])⟩
theorem Mo:∀(n:Nat) (cs:List Value) (d:DataW T),Rd enc Tryz.prog W n 117 cs d→vi Tryz.prog 117 d→∃l e,aK W.heap.size cs=some l∧gO (F0 W) (H0 W) (kQ e) l∧Ot e:=by
 intro n
 induction n using Nat.strongRecOn with
 |_ n ih=>
  intro cs d h z;obtain ⟨j,m,J,a⟩:=mc Tryz.underlying117 h z;rw [cE]at j;obtain ⟨S,R,Q,P,rfl⟩:=VW j;obtain ⟨O,f,x⟩:=a 0 _ rfl;obtain ⟨N,c,w⟩:=a 1 _ rfl;obtain ⟨M,h2,u⟩:=a 2 _ rfl;obtain ⟨L,b,g⟩:=a 3 _ rfl;simp only [List.getElem_toArray,List.getElem_cons_zero,List.getElem_cons_succ]at f c h2 b x w u g;rw [cI]at f c h2;rw [cEs]at b;obtain ⟨op,r,I⟩:=gu Tryz.underlying3 f;obtain ⟨i,q,H⟩:=gu Tryz.underlying3 c;obtain ⟨s,p,G⟩:=gu Tryz.underlying3 h2;obtain ⟨v,t,D,o,C,B⟩:=ug kQ (ok:=Ot) Tryz.underlying112 (by rw [cE];omega) (by rw [cE];omega) (by decide+kernel) (by simpa using b) g (fun k F E K A y=>ih k (by omega) F E A y);rw [cE]at o;simp at r q p;subst r;subst q;subst p;refine ⟨[.int .i64 op,.int .i64 i,.int .i64 s,v],.mk op i s t,eG (eG (eG D)),.cons (.v _) (.cons (.v _) (.cons (.v _) (.cons (by rw [pP];exact o) .nil))),wf_i64 I,wf_i64 H,wf_i64 G,DD B (by decide+kernel),vQ C⟩
theorem Mq:∀(n:Nat) (cs:List Value) (d:DataW T),Rd enc Tryz.prog W n 114 cs d→vi Tryz.prog 114 d→∃l e,aK W.heap.size cs=some l∧gO (F0 W) (H0 W) (tJ e) l∧Mn e:=by
 intro n
 induction n using Nat.strongRecOn with
 |_ n ih=>
  intro cs d h U;obtain ⟨y,m,Y,c⟩:=mc Tryz.underlying114 h U;rw [cS]at y;obtain ⟨c0,c1,c2,c3,c4,rfl⟩:=VX y;obtain ⟨d0,p,G⟩:=c 0 _ rfl;obtain ⟨d1,o,F⟩:=c 1 _ rfl;obtain ⟨d2,h2,s⟩:=c 2 _ rfl;obtain ⟨d3,j,r⟩:=c 3 _ rfl;obtain ⟨Z,i,q⟩:=c 4 _ rfl;simp only [List.getElem_toArray,List.getElem_cons_zero,List.getElem_cons_succ]at p o h2 j i G F s r q;rw [cI]at p o;rw [cEs]at h2;rw [cSs]at j i;obtain ⟨op,B,X⟩:=gu Tryz.underlying3 p;obtain ⟨x,A,V⟩:=gu Tryz.underlying3 o;obtain ⟨J,E,S,w,R,Q⟩:=ug kQ (ok:=Ot) Tryz.underlying112 (by rw [cE];omega) (by rw [cE];omega) (by decide+kernel) (by simpa using h2) s (fun k g f z b a=>Mo k g f b a);obtain ⟨H,C,P,u,O,N⟩:=ug tJ (ok:=Mn) Tryz.underlying23 (by rw [cS];omega) (by rw [cS];omega) (by decide+kernel) (by simpa using j) r (fun k g f z b a=>ih k (by omega) g f b a);obtain ⟨I,D,M,t,L,K⟩:=ug tJ (ok:=Mn) Tryz.underlying23 (by rw [cS];omega) (by rw [cS];omega) (by decide+kernel) (by simpa using i) q (fun k g f z b a=>ih k (by omega) g f b a);rw [cE]at w;rw [cS]at u t;simp at B A;subst B;subst A;exact ⟨[.int .i64 op,.int .i64 x,J,H,I],.mk op x E C D,eG (eG (ly S (ly P M))),.cons (.v _) (.cons (.v _) (.cons (by rw [pP];exact w) (.cons (by rw [mq];exact u) (.cons (by rw [mq];exact t) .nil)))),wf_i64 X,wf_i64 V,DD Q (by decide+kernel),DD N (by decide+kernel),DD K (by decide+kernel),vQ R,rj O,rj L⟩
theorem R7 (n:Nat) (cs:List Value) (d:DataW T) (h:Rd enc Tryz.prog W n 108 cs d) (a:vi Tryz.prog 108 d):∃l y,aK W.heap.size cs=some l∧gO (F0 W) (H0 W) (Ap y) l∧y.name.size<2^60:=by
 obtain ⟨l,y,c,rfl,b⟩:=QA n cs d h a;exact ⟨_,y,c,.cons (.v _) (.cons (.v _) (.cons (.v _) .nil)),b⟩
theorem Mr (n:Nat) (cs:List Value) (d:DataW T) (h:Rd enc Tryz.prog W n 25 cs d) (G:vi Tryz.prog 25 d):∃l p,aK W.heap.size cs=some l∧gO (F0 W) (H0 W) (aO p) l∧kD p:=by
 obtain ⟨s,m,L,c⟩:=mc Tryz.underlying25 h G;rw [cP]at s;obtain ⟨R,Q,P,rfl⟩:=GM s;obtain ⟨O,f,z⟩:=c 0 _ rfl;obtain ⟨N,e,o⟩:=c 1 _ rfl;obtain ⟨M,h2,j⟩:=c 2 _ rfl;simp only [List.getElem_toArray,List.getElem_cons_zero,List.getElem_cons_succ]at f e h2 z o j;rw [cI]at f;rw [cVs]at e;rw [cSs]at h2;obtain ⟨w,t,I⟩:=gu Tryz.underlying3 f;obtain ⟨J,u,F,r,E,D⟩:=ug Ap (ok:=fun y=>y.name.size<2^60) Tryz.underlying22 (by rw [cV];omega) (by rw [cV];omega) (by decide+kernel) (by simpa using e) o (fun k i g H b a=>R7 k i g b a);obtain ⟨K,x,C,q,B,A⟩:=ug tJ (ok:=Mn) Tryz.underlying23 (by rw [cS];omega) (by rw [cS];omega) (by decide+kernel) (by simpa using h2) j (fun k i g H b a=>Mq k i g b a);rw [cV]at r;rw [cS]at q;simp at t;subst t;exact ⟨_,⟨w,u,x⟩,eG (ly F C),.cons (.v _) (.cons r (.cons (by rw [mq];exact q) .nil)),wf_i64 I,⟨DD D (by decide+kernel),E⟩,rj B,DD A (by decide+kernel)⟩
end
end P
namespace P
open Go Go.RowKit
theorem Ox {F:Nat→Prop} {H:AH}:∀r:List Value,gO F H (r.map PV.v) r
 |[]=>.nil
 |a::r=>.cons (.v a) (Ox r)
theorem Oy {F:Nat→Prop} {H:AH}:∀l:List (List Value),kz F H (l.map fun r=>r.map PV.v) l
 |[]=>.nil
 |a::l=>.cons (Ox a) (Oy l)
theorem As {F:Nat→Prop} {H:AH} {sz:Nat} {v:Value} {rows:List (List Value)} (h:dE H sz v rows) (j:∀b,aS v b→F b):RF F H (.fs sz (rows.map fun r=>r.map PV.v)) v:=by
 have i:=h.rows;rcases h.is with⟨rfl,rfl⟩|⟨b,rfl,k,g⟩
 ·exact .fs (rows:=[]) (rs:=[]) i (aqY _) (fun d f=>by cases f) .nil
 ·have e:(rows.map fun r=>r.map PV.v).length=rows.length:=List.length_map ..
  have:=RF.fs (F:=F) (H:=H) (sz:=sz) (rows:=rows.map fun r=>r.map PV.v) (a:=some ⟨b,0,none⟩) (c:=rows.length) (rs:=rows) (by rw [e];exact i) (by rw [e];exact aqY _) (fun d f=>by
   cases f;refine ⟨.inl rfl,.inr ⟨j b ((ba _ _ _ _ _).2 rfl),?_⟩⟩
   simp [AH.j9,g]) (Oy rows)
  rw [e]at this;exact this
theorem Iv {F:Nat→Prop} {H:AH} {n:Nat} {cs:List Value} {r:eK} (h:kP H n cs r) (l:∀vs vo vt,cs=[.int .i64 r.en,vs,vo,vt,.int .i64 r.cost,.int .i64 r.used,.int .i64 r.wh]→∀b,aS vs b∨aS vo b∨aS vt b→F b):gO F H (lK r) cs:=by
 obtain ⟨vs,vo,vt,e,a,b,c,d⟩:=h.is;have k:=l vs vo vt e;have j:=As a (fun x f=>k x (.inl f));have i:=As b (fun x f=>k x (.inr (.inl f)));have g:=As c (fun x f=>k x (.inr (.inr f)));have p:(bI r.store).map (fun r=>r.map PV.v)=ir r.store:=by simp [bI,ir,pi,Function.comp_def]
 have o:(cQ r.outs).map (fun r=>r.map PV.v)=vO r.outs:=by simp [cQ,Ad,vO,pi,Function.comp_def]
 have m:(du r.trace).map (fun r=>r.map PV.v)=RX r.trace:=by simp [du,Ev.row,RX,pi,Function.comp_def]
 rw [p]at j;rw [o]at i;rw [m]at g;subst e;exact .cons (.v _) (.cons j (.cons i (.cons g (.cons (.v _) (.cons (.v _) (.cons (.v _) .nil))))))
theorem Au {p:bw} {t:eY} {fuel:Int} (u:kD p) (r:Aq t):Fz E O 47 [.agg (aO p),pi fuel,.agg (hU t)] (.gN [.agg (lK (jD p fuel t)),pi (fV p fuel t)]):=by
 intro F H j J S g
 cases g with|cons a g=>
 cases g with|cons b g=>
 cases g with|cons c g=>
 cases g;cases b;obtain ⟨M,rfl,D⟩:=sX (by simp) a;obtain ⟨L,rfl,B⟩:=sX (by simp) c;refine (LI S.wf (vN u D) (It r B)).mono ?_;rintro x I ⟨cs,rfl,m,X⟩;obtain ⟨us,o,ut,e,A,y,w,d⟩:=m.is
 have K:∀{V:Nat→Prop} {x:Nat},¬ im ⟨F,H,j,[]⟩ V x:=by
  rintro V x ⟨b,_,s,_⟩;have:=bO s;simp at this
 have no:∀{b:Nat} {F:Nat→Prop} {H:AH},¬ bF (Cx.mk F H j []).h b:=fun s=>by have:=bO s;simp at this
 let n:Nat→Prop:=fun b=>F b∨(H.nx≤b∧(aS us b∨aS o b∨aS ut b))
 have k:gO n I (lK (jD p fuel t)) cs:=Iv m (fun R Q P l b i=>by
  rw [e]at l;simp only [List.cons.injEq,true_and,and_true]at l;obtain ⟨rfl,rfl,rfl⟩:=l
  exact .inr ⟨d b i,i⟩)
 refine ⟨_,[],n,j,⟨rfl,rfl,by simp [lK]⟩,?_,?_,?_⟩
 ·exact .gN (.cons (.agg (k.qw (C:=⟨_,_,_,_⟩))) (.cons (.v _) .nil))
 ·exact {
   wf:=X.wf S.wf
   fz:=fun x f=>by
    rcases f with q|⟨_,q|q|q⟩
    ·exact ari (S.fz x q) X.nx
    ·exact A.lt q
    ·exact y.lt q
    ·exact w.lt q
   inj:=fun b N s=>absurd s no
   aS:=fun b z cs e=>by simp at e
   Af:=fun b es e=>by simp at e}
 ·exact {
   n0:=X.n0
   nx:=X.nx
   fz:=fun x f=>⟨.inl f,X.old x (S.fz x f)⟩
   fo:=fun x f _ G=>by
    rcases G with q|⟨q,_⟩
    ·exact q
    ·dsimp only at f;omega
   out:=fun x f _=>X.old x f
   loc:=fun b d=>absurd d no
   len:=fun _=>aro _
   le:=fun b d=>absurd d (arl _)
   wD:=fun b d=>absurd d (arl _)
   xS:=fun b d=>absurd d (arl _)}
open Go Go.RowKit
theorem Ms {l:List bE} {m:Int} (ok:yi l) (g:l.length<2^60) (f:0≤m∧m≤1000000):Fz E O 10 [.fs 5 (mS l),pi m] (pb (decide (au l≤m))):=
 Fz.sY fun F H h i w c=>by
  cases c with|cons a c=>
  cases c with|cons b c=>
  cases c;cases b;obtain ⟨rs,e,d,_⟩:=iz (TZ a);exact xg w g e (oX ok d) f
theorem XU {p:bw} (c:kD p):Fz E O 40 [.agg (aO p)] (pb (bj p)):=
 Fz.sY fun F H e f w b=>by
  cases b with|cons a b=>
  cases b;obtain ⟨g,rfl,d⟩:=sX (by simp) a;exact Qf w (vN c d)
theorem pd {p:bw} (c:kD p):Fz E O 37 [.agg (aO p)] (pi (if bj p=true then 0 else 30)):=
 Fz.sY fun F H e f w b=>by
  cases b with|cons a b=>
  cases b;obtain ⟨g,rfl,d⟩:=sX (by simp) a;exact pF w (vN c d)
theorem Iw {p:bw} {t:eY} (e:kD p) (d:Aq t):Fz E O 38 [.agg (aO p),.agg (hU t)] (pi (fV p 0 t)):=
 Fz.sY fun F H g h w b=>by
  cases b with|cons a b=>
  cases b with|cons c b=>
  cases b;obtain ⟨j,rfl,f⟩:=sX (by simp) a;obtain ⟨i,rfl,h2⟩:=sX (by simp) c;exact DB w (vN e f) (It d h2)
theorem Co {l m:List Int} (d:l.length≤2^60):Fz E O 29 [nE l,nE m] (pb (decide (l=m))):=
 Fz.sY fun F H e f g a=>by
  cases a with|cons b a=>
  cases a with|cons c a=>
  cases a;refine (GO (oY (TZ b)) (oY (TZ c)) d).mono ?_;rintro x h ⟨rfl,rfl⟩;exact ⟨rfl,Ext.refl _⟩
theorem vR {l:List Int} (c:l.length≤2^40):Fo E O 70 [nE l] 1 l.length (l.map pi):=by
 have:=Fo.sY (f:=70) (args:=[nE l]) (rows:=bI l) Nat.one_pos (fun F H e g w d=>by
  cases d with|cons a b=>
  cases b
  exact jU w (oY (TZ a)) c)
 rw [iv]at this
 simpa [bI]using this
end P
section
open Go
def D7 (p:bw) (fuel:Int) (s ps:List Int):Int:=(jD p fuel ⟨s,ps⟩).en
def bU (p:bw):Nat:=2^p.w.toNat
def kids (p:bw) (ps:List Int):List (List Int):=(List.range (bU p)).map fun(a:Nat)=>ps++[(a:Int)]
def kE {α:Type}:List (Option (List α))→Option (List α)
 |[]=>some []
 |x::l=>x.bind fun a=>(kE l).map fun b=>a++b
theorem yk {α:Type} (a b:List (Option (List α))):kE (a++b)=(kE a).bind fun x=>(kE b).map fun y=>x++y:=by
 induction a with
 |nil=>simp [kE]
 |cons x a ih=>
  simp only [List.cons_append,kE,ih]
  cases x with
  |none=>rfl
  |some u=>cases kE a<;>cases kE b<;>simp
def leaves (p:bw) (fuel:Int) (s:List Int):Nat→List Int→Option (List (List Int))
 |0,ps=>if D7 p fuel s ps=4 then none else some [ps]
 |d+1,ps=>if D7 p fuel s ps=4 then kE ((kids p ps).map fun q=>leaves p fuel s d q)else some [ps]
def under (p:bw) (fuel:Int) (s ps:List Int):Option (List (List Int)):=leaves p fuel s (16- ps.length) ps
theorem uh {p:bw} {fuel:Int} {s ps:List Int} (h:D7 p fuel s ps≠4):under p fuel s ps=some [ps]:=by
 unfold under;cases 16- ps.length<;>simp [leaves,h]
theorem Av {p:bw} {fuel:Int} {s ps:List Int} (h:D7 p fuel s ps=4) (a:16≤ps.length):under p fuel s ps=none:=by
 unfold under;rw [show 16- ps.length=0 by omega,leaves,if_pos h]
theorem lL {p:bw} {ps q:List Int} (h:q∈kids p ps):q.length=ps.length+1:=by
 simp only [kids,aru]at h;obtain ⟨a,_,rfl⟩:=h;simp
theorem Aw {p:bw} {fuel:Int} {s ps:List Int} (h:D7 p fuel s ps=4) (c:ps.length<16):under p fuel s ps=kE ((kids p ps).map (under p fuel s)):=by
 unfold under
 obtain ⟨d,b⟩:∃d,16- ps.length=d+1:=⟨15- ps.length,by omega⟩
 rw [b,leaves,if_pos h];congr 1;refine List.map_congr_left fun q a=>?_
 rw [lL a,show 16- (ps.length+1)=d by omega]
def mr (p:bw) (fuel:Int) (s:List Int):Option (List (List Int)):=under p fuel s []
def ofM (p:bw) (fuel:Int) (s:List Int) (most:Nat):Option (List (List Int)):=(mr p fuel s).bind fun l=>if l.length≤most then some l else none
def rest (p:bw) (fuel:Int) (s:List Int) (pk:List (List Int)):Option (List (List Int)):=kE (pk.reverse.map (under p fuel s))
theorem mu {p:bw} {fuel:Int} {s:List Int} (st:List (List Int)) (q:List Int):rest p fuel s (st++[q])=(under p fuel s q).bind fun x=>(rest p fuel s st).map fun y=>x++y:=by
 simp [rest,kE]
theorem D9 {p:bw} {fuel:Int} {s:List Int} (st a:List (List Int)):rest p fuel s (st++a.reverse)=(kE (a.map (under p fuel s))).bind fun x=>(rest p fuel s st).map fun y=>x++y:=by
 simp [rest,yk]
def ui (pk:List (List Int)):Prop:=∀i q,pk[i]?=some q→i≤255*q.length∧q.length≤16∧∀n∈q,0≤n∧n<256
theorem uj {st:List (List Int)} {q:List Int} (h:ui (st++[q])):ui st:=fun i u hi=>h i u (by
 rw [aq7 (aq0.1 hi).1];exact hi)
theorem Ea {a:List (List Int)} (h:ui a):a.length≤4081:=by
 rcases Nat.eq_zero_or_pos a.length with b|b
 ·omega
 ·have:=h (a.length- 1) (a[a.length- 1]'(by omega)) (aqU (by omega))
  have c:=this.1;have h2:=this.2.1;omega
theorem Ax {p:bw} {st:List (List Int)} {q:List Int} (e:bU p≤256) (h:ui (st++[q])) (g:q.length<16):ui (st++(kids p q).reverse):=by
 intro i u hi;have f:=(h st.length q (by simp)).1;rcases Nat.lt_or_ge i st.length with c|c
 ·rw [aq7 c]at hi
  exact uj h i u hi
 ·rw [arb c]at hi
  have b:u∈kids p q:=by
   have:=aqZ hi
   simpa using this
  have j:=lL b
  have l:i- st.length<(kids p q).length:=by
   have:=(aq0.1 hi).1
   simpa using this
  have k:(kids p q).length=bU p:=by simp [kids]
  refine ⟨by omega,by omega,fun n d=>?_⟩;simp only [kids,aru,List.mem_range]at b;obtain ⟨a,m,rfl⟩:=b;rcases are.1 d with h2|h2
  ·exact (h st.length q (by simp)).2.2 n h2
  ·simp at h2;omega
theorem Eb {p:bw} {q:List Int} {j:Nat} (h:j<bU p):(kids p q).reverse.take (j+1)=(kids p q).reverse.take j++[q++[((bU p- 1- j:Nat):Int)]]:=by
 have a:(kids p q).length=bU p:=by simp [kids]
 rw [arf,List.getElem?_reverse (by omega),a];simp only [kids,arq,List.getElem?_range (show bU p- 1- j<bU p by omega)];rfl
theorem ta {p:bw} {q:List Int}:(kids p q).reverse.take (bU p)=(kids p q).reverse:=aq1 (by simp [kids])
def mE (pk:List (List Int)):Nat:=(pk.map fun q=>257^(17- q.length)).sum
theorem lM (a b:List (List Int)):mE (a++b)=mE a+mE b:=by simp [mE]
theorem Ec {p:bw} {q:List Int} (a:bU p≤256) (f:q.length<16):mE (kids p q).reverse<257^(17- q.length):=by
 have d:mE (kids p q).reverse=bU p*257^(16- q.length):=by
  have:∀l:List (List Int),(∀u∈l,u.length=q.length+1)→mE l=l.length*257^(16- q.length):=by
   intro l
   induction l with
   |nil=>intro _;simp [mE]
   |cons u l ih=>
    intro h;have e:mE (u::l)=257^(17- u.length)+mE l:=by simp [mE]
    rw [e,ih fun v b=>h v (by simp [b]),h u (by simp),show 17- (q.length+1)=16- q.length by omega,List.length_cons,Nat.succ_mul];omega
  rw [this _ fun u c=>lL (by simpa using c)];simp [kids]
 rw [d,show 17- q.length=(16- q.length)+1 by omega,Nat.pow_succ];have:0<257^(16- q.length):=Nat.pow_pos (by omega)
 calc bU p*257^(16- q.length)≤256*257^(16- q.length):=Nat.mul_le_mul_right _ a
  _<257^(16- q.length)*257:=by omega
theorem qB {p:bw} (h:bj p=true):1≤p.w∧p.w≤8:=by
 simp only [bj,aA,bl,aqX,aq6]at h;exact h.1.1
theorem uk {p:bw} (h:bj p=true):bU p≤256:=by
 have a:=qB h;have:p.w.toNat≤8:=by omega
 exact arh (Nat.pow_le_pow_right (by omega) this) (by decide)
end
namespace P
open Go Go.RowKit
def str (l:List eY):List (List PV):=l.map hU
def yl (l:List eY):List PV:=(str l).flatten
@[simp]theorem aa6:str []=[]:=rfl
@[simp]theorem aa7:yl []=[]:=rfl
@[simp]theorem ym (a:eY) (l:List eY):yl (a::l)=hU a++yl l:=by simp [yl,str]
theorem kF (a b:List eY):yl (a++b)=yl a++yl b:=by simp [yl,str]
@[simp]theorem Ay (l:List eY):(str l).length=l.length:=by simp [str]
@[simp]theorem T4 (t:eY):(hU t).take 2=hU t:=rfl
@[simp]theorem T5 (p:bw):(aO p).take 3=aO p:=rfl
@[simp]theorem OA (p:bw):(aO p).length=3:=rfl
@[simp]theorem OB (t:eY):(hU t).length=2:=rfl
@[simp]theorem Az:∀l:List eY,(yl l).length=l.length*2
 |[]=>rfl
 |a::l=>by rw [ym,aq3,Az l];simp;omega
@[simp]theorem vT:∀l:List eY,(yl l).all y8=true
 |[]=>rfl
 |a::l=>by rw [ym,List.all_append,vT l];simp [y8,hU]
@[simp]theorem aa8 (l:List eY):ef (yl l)=true:=yh (vT l)
theorem vU (l:List eY) (i:Nat):(str l)[i]?=(l[i]?).map hU:=by simp [str]
theorem Mu (l:List eY):∀r∈str l,r.length=2:=by
 intro r a;simp only [str,aru]at a;obtain ⟨t,_,rfl⟩:=a;rfl
def cx (p:bw) (fuel:Int):Int:=if bj p=false then 30 else if fuel<0∨4096<fuel then 1 else 0
theorem R8 {p:bw} {fuel:Int} (b:kD p):Fz E O 13 [.agg (aO p),pi fuel] (pi (cx p fuel)):=by
 refine Fz.body (F:=YQ) rfl rfl rfl rfl ?_;simp (maxSteps:=9^7)-implicitDefEqProofs+contextual [-getElem?_pos,aqT,YQ,aO];refine bJ (XU b) ?_ ?_ ?_
 iterate 2· simp (maxDischargeDepth:=8)-implicitDefEqProofs [-getElem?_pos,aqT,aO]
 cases h:bj p with
 |false=>
  simp (maxSteps:=9^7)-implicitDefEqProofs+contextual [-getElem?_pos,aqT,cx,h]
 |true=>
  by_cases a:fuel<0
  ·simp (maxSteps:=9^7)-implicitDefEqProofs [-getElem?_pos,aqT,cx,h,a]
  ·by_cases h2:4096<fuel
   ·simp (maxSteps:=9^7)-implicitDefEqProofs [-getElem?_pos,aqT,cx,h,a,h2]
   ·simp (maxSteps:=9^7)-implicitDefEqProofs [-getElem?_pos,aqT,cx,h,a,h2]
theorem yp {t:eY} (a:Aq t):Fz E O 44 [.agg (hU t),.agg (hU t)] (pb true):=by
 refine Fz.body (F:=Y0) rfl rfl rfl rfl ?_;simp (maxSteps:=9^7)-implicitDefEqProofs+contextual [-getElem?_pos,aqT,Y0,hU];refine bJ (Co (l:=t.store) (m:=t.store) (by have:=a.1;omega)) ?_ ?_ ?_
 iterate 2· simp (maxDischargeDepth:=8)-implicitDefEqProofs [-getElem?_pos,aqT]
 simp (maxSteps:=9^7)-implicitDefEqProofs+contextual [-getElem?_pos,aqT];refine bJ (Co (l:=t.bM) (m:=t.bM) (by have:=a.2.1;omega)) ?_ ?_ ?_
 iterate 2· simp (maxDischargeDepth:=8)-implicitDefEqProofs [-getElem?_pos,aqT]
 simp (maxSteps:=9^7)-implicitDefEqProofs+contextual [-getElem?_pos,aqT]
theorem R9 {l:List eY} (ok:∀t∈l,Aq t) (g:l.length<2^60):Fz E O 16 [.fs 2 (str l),.fs 2 (str l)] (pb true):=by
 refine Fz.body (F:=YR) rfl rfl rfl rfl ?_;simp (maxSteps:=9^7)-implicitDefEqProofs+contextual [-getElem?_pos,aqT,YR];refine pL (fun i a h=>h=[]∧a.get 0= .fs 2 (str l)∧a.get 1= .fs 2 (str l)∧a.get 5=pi i) l.length ?_ ?_
 ·exact ⟨rfl,by simp,by simp,by simp⟩
 rintro i a h hi ⟨rfl,c,b,d⟩;by_cases h:i<l.length
 ·obtain ⟨t,e⟩:∃t,l[i]?=some t:=⟨_,aqU h⟩
  have f:IntKind.i64.wrap ((i:Int)+1)=((i+1:Nat):Int):=ai ⟨by omega,by omega⟩;simp (maxSteps:=9^7)-implicitDefEqProofs+contextual [-getElem?_pos,aqT,c,b,d,h,vU,e];refine bJ (yp (ok t (aqZ e))) ?_ ?_ ?_
  iterate 2· simp (maxDischargeDepth:=8)-implicitDefEqProofs [-getElem?_pos,aqT]
  simp (maxSteps:=9^7)-implicitDefEqProofs+contextual [-getElem?_pos,aqT,c,b,d,f];exact .for h ⟨rfl,by simp [c],by simp [b],by simp⟩
 ·obtain rfl:i=l.length:=by omega
  simp (maxSteps:=9^7)-implicitDefEqProofs+contextual [-getElem?_pos,aqT,c,b,d]
open Go Go.RowKit
def tc (l:List (List Int)):List PV:=l.map fun q=>nE q
@[simp]theorem Sa (l:List (List Int)):(tc l).length=l.length:=by simp [tc]
theorem gC (a b:List (List Int)):tc (a++b)=tc a++tc b:=by simp [tc]
@[simp]theorem Mv:∀l:List (List Int),ef (tc l)=true
 |[]=>rfl
 |a::l=>by
  show ef (nE a::tc l)=true;rw [pN];exact ⟨rfl,Mv l⟩
@[simp]theorem aa9:tc []=[]:=rfl
@[simp]theorem XV (a:List Int) (l:List (List Int)):tc (a::l)=nE a::tc l:=rfl
@[simp]theorem XW (l:List (List Int)):(tc l).tail=tc l.tail:=by cases l<;>rfl
theorem Mw (l:List (List Int)) (i:Nat):(tc l)[i]?=(l[i]?).map fun q=>nE q:=by simp [tc]
theorem Ix {b:Nat} {h:PH} {x v:PV} {xs ys:List PV} (d:h[b]?=some (.cells 1 (xs++ys))) (c:oN x=some 1) (a:fx h 1 1 x=some [v]) (f:gA h x=true) (g:xs.length<2^40):
 qK 1 24 h (.sl 1 b 0 xs.length (xs.length+ys.length)) x=some (.sl 1 b 0 (xs.length+1) ((xs++[v]).length+(ys.drop 1).length),h.set b (.cells 1 ((xs++[v])++ys.drop 1))):=by
 unfold qK;rw [c];simp only [Nat.one_ne_zero,if_false,a,d];rw [if_pos ⟨trivial,trivial,Nat.one_pos,by simp,by omega,by omega,by omega⟩]
 cases ys with
 |nil=>
  cases xs with
  |nil=>simp
  |cons u us=>simp
 |cons y ys=>
  rw [if_neg (by simp),if_pos (by simp)]
  have e:tG (xs++y::ys) ((0+xs.length)*1) [v]=xs++[v]++ys:=by
   rw [oZ (by simp),Nat.zero_add,Nat.mul_one];simp
  rw [e];simp;omega
@[simp]theorem Ed:∀l:List Int,kB (l.map pi)=true
 |[]=>rfl
 |a::l=>by simp [Ed l]
theorem Cp {A:Nat→Prop} {d:Nat→Nat} {h e:PH}:∀{a b c:List PV},ef a=true→(nO A d h e (a++b) (a++c)↔nO A d h e b c)
 |[],_,_,_=>Iff.rfl
 |p::a,b,c,k=>by
  rw [pN]at k;simp only [List.cons_append,Ih,Cp k.2];exact ⟨fun q=>q.2,fun q=>⟨sV k.1,q⟩⟩
attribute [simp] Cp
theorem pQ {a:PF} {h h2:PH} (Z L:List Nat) (l:List (Nat×PV)) (e:L.length=h2.length) (c:L.Nodup) (d:∀b∈L,b∉Z) (K:lI (· ∈Z) (fun i=>L.getD i 0) h h2 0 h2) (V:pM (· ∈Z) (fun i=>L.getD i 0) h h2 a l):Gh 0 a h (PF.y7 l) h2:=
 RQ _ _ l (lH.at L e c d K) V
def isI (o:Option PB) (l:List Int):Prop:=match o with
 |some (.cells z cs)=>z=1∧cs=l.map pi
 |_=>False
@[simp]theorem aki (z:Nat) (cs:List PV) (l:List Int):isI (some (.cells z cs)) l↔z=1∧cs=l.map pi:=Iff.rfl
@[simp]theorem aba {A:Nat→Prop} {c:Nat→Nat} {h g:PH} {b n:Nat} {l:List Int} (d:l.length=n) (f:A b) (a:isI h[b]? l):Vg A c h g (.sl 1 b 0 n n) (nE l)↔True:=⟨fun _=>trivial,fun _=>by
 subst d;unfold isI at a;split at a
 ·rename_i z cs e
  obtain ⟨rfl,rfl⟩:=a;exact vJ (Iq f e)
 ·exact a.elim⟩
theorem Sb {A:Nat→Prop} {h:PH} {b:Nat} {l:List eY} (c:A b) (a:h[b]?=some (.cells 2 (yl l))):Vz A h (.sl 2 b 0 l.length l.length) (.fs 2 (str l)):=
 ri c a (by omega) (Ay l) (Mu l) (oW (vT l))
@[simp]theorem ahh {A:Nat→Prop} {a:Nat→Nat} {h f:PH} {b n:Nat} {l:List eY} (c:l.length=n) (e:A b) (d:h[b]?=some (.cells 2 (yl l))):Vg A a h f (.sl 2 b 0 n n) (.fs 2 (str l))↔True:=⟨fun _=>trivial,fun _=>c▸vJ (Sb e d)⟩
def qC (s:List Int) (l:List (List Int)):List eY:=l.map fun ps=>⟨s,ps⟩
@[simp]theorem abb (s:List Int):qC s []=[]:=rfl
@[simp]theorem ahi:ir []=[]:=rfl
@[simp]theorem abc {A:Nat→Prop} {a:Nat→Nat} {h b:PH}:Vg A a h b (.v (.slice none 0 0)) (nE [])↔True:=⟨fun _=>trivial,fun _=>(RK 1).2 trivial⟩
@[simp]theorem Sc (s:List Int) (l:List (List Int)):(qC s l).length=l.length:=by simp [qC]
theorem td (s:List Int) (a b:List (List Int)):qC s (a++b)=qC s a++qC s b:=by simp [qC]
def AA (s:List Int):Option (List (List Int))→List PV
 |some l=>[.fs 2 (str (qC s l)),pi 0]
 |none=>[dM,pi 5]
theorem Mx {E:Env} {O:jk} {n:Nat} {Q:Ex→PF→PH→Prop} {a:List Kp} {fr:PF} {m:Mp} {l:List AO} {d:Option Nat} {V:List Nat} {b j c:Nat} {h:PH} {x v:PV} {xs ys:List PV} (p:h[b]?=some (.cells 1 (xs++ys))) (i:j=xs.length) (k:c=xs.length+ys.length) (g:oN x=some 1) (e:fx h 1 1 x=some [v]) (f:gA h x=true) (o:xs.length<2^40)
 (next:PK E O n Q (.ops (m.up V (fr.aN d (.sl 1 b 0 (xs.length+1) ((xs++[v]).length+(ys.drop 1).length))) (h.set b (.cells 1 ((xs++[v])++ys.drop 1)))) l a) (fr.aN d (.sl 1 b 0 (xs.length+1) ((xs++[v]).length+(ys.drop 1).length))) (h.set b (.cells 1 ((xs++[v])++ys.drop 1)))):PO E O n Q (qK 1 24 h (.sl 1 b 0 j c) x) V d m l a fr:=by
 subst i k;rw [Ix p g e f o];exact (Xw _ _ _).2 next
def OH (p:bw) (s:List Int) (out pk junk:List (List Int)):PH:=[.cells 3 (aO p),.cells 2 (yl (qC s out)),.cells 1 (tc pk++tc junk)]
def OL (p:bw) (s:List Int) (fuel:Int) (most:Nat) (out pk junk:List (List Int)):List (Nat×PV):=[(1,pi fuel),(2,nE s),(3,pi most),(4,.ref 0 0 3),(10,.sl 2 1 0 out.length out.length),(11,.sl 1 2 0 pk.length (pk.length+junk.length))]
def OI (p:bw) (s:List Int) (fuel:Int) (most:Nat) (k:Nat) (fr:PF) (h:PH):Prop:=∃out pk junk,k=mE pk∧ui pk∧out.length≤most∧mr p fuel s=(rest p fuel s pk).map (fun x=>out++x)∧h=OH p s out pk junk∧∀t∈OL p s fuel most out pk junk,fr.get t.1=t.2
theorem yq {k n c:Nat} (h:n≤c):bm k c none (some (.int .i64 (n:Int))) none=some (0,n,c):=by
 simp [bm,gW,h]
def WI (p:bw) (s:List Int) (fuel:Int) (most:Nat) (out st:List (List Int)) (q:List Int) (junk:List (List Int)) (j:Nat) (fr:PF) (h:PH):Prop:=
 h=OH p s out (st++(kids p q).reverse.take j) ((q::junk).drop j)∧∀t∈(12,nE q)::(15,pi ((bU p:Int)- 1- j))::OL p s fuel most out (st++(kids p q).reverse.take j) ((q::junk).drop j),fr.get t.1=t.2
theorem Iy {p:bw} {s:List Int} {fuel:Int} {most:Nat} {out st:List (List Int)} {q:List Int} {junk:List (List Int)} {j:Nat}:
 WI p s fuel most out st q junk j (PF.y7 ((12,nE q)::(15,pi ((bU p:Int)- 1- j))::OL p s fuel most out (st++(kids p q).reverse.take j) ((q::junk).drop j))) (OH p s out (st++(kids p q).reverse.take j) ((q::junk).drop j)):=by
 refine ⟨rfl,fun t a=>?_⟩;simp only [OL,arc,arx,or_false]at a;rcases a with rfl|rfl|rfl|rfl|rfl|rfl|rfl|rfl<;>simp [OL]
theorem AB {p:bw} {s:List Int} {fuel:Int} {most:Nat} {out a junk:List (List Int)} (t:Nat×PV) (b:t∈OL p s fuel most out a junk):(PF.y7 (OL p s fuel most out a junk)).get t.1=t.2:=by
 simp only [OL,arc,arx,or_false]at b;rcases b with rfl|rfl|rfl|rfl|rfl|rfl<;>simp [OL]
theorem XY {p:bw} {s:List Int} {fuel:Int} {most:Nat} (ja:kD p) (N:bj p=true) (hs:s.length≤2^40) (OC:∀n∈s,jG n) (hm:most≤16384):
 Fz E O 39 [.agg (aO p),pi fuel,nE s,pi most] (.gN (AA s (ofM p fuel s most))):=by
 refine tt.body (F:=YZ) rfl rfl rfl ?_;have L:=qB N;simp (maxSteps:=9^7)-implicitDefEqProofs+contextual [-getElem?_pos,aqT,YZ,aO];refine x7 (OI p s fuel most) (mE [[]]) (eU (h2:=OH p s [] [[]] []) [0,9,1] (OL p s fuel most [] [[]] []) ?_ ?_ ?_ ?_ ?_ ?_) ⟨[],[[]],[],rfl,?_,aro _,?_,rfl,?_⟩ ?_
 ·simp [OH,OL,aO,tc]
 iterate 2· simp
 ·intro b hb;omega
 iterate 2· simp (maxDischargeDepth:=8)-implicitDefEqProofs [aZ,aqT,OH,OL,aO,tc]
 ·intro i q h
  cases i with
  |zero=>simp at h;subst h;simp
  |succ i=>simp at h
 ·cases h:under p fuel s []<;>simp [rest,kE,mr,h]
 ·exact AB
 rintro k fr h ⟨out,pk,junk,rfl,z,P,r,rfl,y⟩;simp only [OL,arc,arx,or_false,forall_eq_or_imp,forall_eq]at y;obtain ⟨g,d,c,f,f10,f11⟩:=y;have t:=Ea z;rcases List.eq_nil_or_concat pk with rfl|⟨st,q,rfl⟩
 ·
  have e:ofM p fuel s most=some out:=by
   unfold ofM;rw [r];simp [rest,kE,P]
  rw [e];simp (maxSteps:=9^7)-implicitDefEqProofs+contextual [-getElem?_pos,aqT,g,d,c,f,f10,f11,OH];refine ⟨_,_,cn ?_,rfl,rfl,by simp [AA]⟩;simp (maxDischargeDepth:=8)-implicitDefEqProofs [AA]
 rw [List.concat_eq_append]at*;have M:=z st.length q (by simp);have hql:=M.2.1;simp only [aq3,List.length_singleton]at t;have Z:IntKind.i64.wrap (st.length:Int)=st.length:=ai ⟨by omega,by omega⟩
 obtain ⟨T,R⟩:∃T:eY,T=⟨s,q⟩:=⟨_,rfl⟩
 have Aq:Aq T:=by subst R;exact ⟨by show s.length<_;omega,by show q.length<_;omega,OC,fun n hn=>by have:=M.2.2 n hn;exact ⟨by omega,by omega⟩⟩
 have hg:(tc (st++[q])++tc junk)[st.length]?=some (nE q):=by rw [aq7 (by simp),Mw];simp
 have ab:bm (st.length+1) (st.length+1+junk.length) none (some (.int .i64 (st.length:Int))) none=some (0,st.length,st.length+1+junk.length):=yq (by omega);have c1:0<st.length+1+junk.length∧(st.length:Int)<st.length+1:=by omega
 have c2:st.length≤st.length+1+junk.length:=by omega
 have B:st.length+(junk.length+1)=st.length+1+junk.length:=by omega
 simp (maxSteps:=9^7)-implicitDefEqProofs+contextual [-getElem?_pos,aqT,g,d,c,f,f10,f11,OH,Z,hg,ab,c1,c2];subst R;refine bJ (Au (fuel:=fuel) ja Aq) ?_ ?_ ?_
 iterate 2· simp (maxDischargeDepth:=8)-implicitDefEqProofs [-getElem?_pos,aqT,hU]
 have A:D7 p fuel s q=(jD p fuel ⟨s,q⟩).en:=rfl;by_cases m:(jD p fuel ⟨s,q⟩).en=4
 ·by_cases hl:q.length=16
  ·have e:ofM p fuel s most=none:=by
    unfold ofM;rw [r,mu,Av (by rw [A];exact m) (by omega)];rfl
   rw [e];simp (maxSteps:=9^7)-implicitDefEqProofs+contextual [-getElem?_pos,aqT,lK,m,hl];refine ⟨_,_,cn ?_,rfl,rfl,by simp [AA]⟩;simp (maxDischargeDepth:=8)-implicitDefEqProofs [AA]
  ·have ED:¬ (q.length:Int)=16:=by omega
   have S:=uk N;have nc:=jo L;have D:(2:Int)^p.w.toNat=(bU p:Int):=by simp [bU]
   have X:IntKind.i64.wrap ((bU p:Int)- 1)=(bU p:Int)- 1:=ai ⟨by omega,by omega⟩;have o:=xz L;rw [D]at o;have g0:(aO p)[0]?=some (pi p.w):=rfl;simp (maxSteps:=9^7)-implicitDefEqProofs+contextual [-getElem?_pos,aqT,lK,m,ED,f,o,X,g0];refine iw (WI p s fuel most out st q junk) (bU p) (pQ (h2:=OH p s out (st++(kids p q).reverse.take 0) ((q::junk).drop 0)) [] [0,1,2] ((12,nE q)::(15,pi ((bU p:Int)- 1- (0:Nat)))::OL p s fuel most out (st++(kids p q).reverse.take 0) ((q::junk).drop 0)) ?_ ?_ ?_ ?_ ?_) Iy ?_
   ·simp [OH,OL,gC,g,d,c,f,f10,B]
   iterate 2· simp
   iterate 2· simp (maxDischargeDepth:=8)-implicitDefEqProofs [aZ,aqT,OH,OL,gC,g,d,c,f,f10,B]
   clear g d c f f10 f11;rintro j fr h hj ⟨rfl,y⟩;simp only [OL,arc,arx,or_false,forall_eq_or_imp,forall_eq]at y;obtain ⟨f12,f15,g,d,c,f,f10,f11⟩:=y
   obtain ⟨a,ha⟩:∃a:Int,(bU p:Int)- 1- j=a:=⟨_,rfl⟩
   rw [ha]at f15
   have Q7:(st++(kids p q).reverse.take j).length≤5000:=by
    have:(kids p q).length=bU p:=by simp [kids]
    simp;omega
   by_cases x:j<bU p
   ·have J0:0≤a:=by omega
    have V:IntKind.i64.wrap (a- 1)=a- 1:=ai ⟨by omega,by omega⟩;have u:=Eb (q:=q) x;have C:(((bU p- 1- j:Nat):Int))=a:=by omega
    rw [C]at u
    obtain ⟨K,H⟩:∃K,st++(kids p q).reverse.take j=K:=⟨_,rfl⟩
    obtain ⟨J,U⟩:∃J,(q::junk).drop j=J:=⟨_,rfl⟩
    have G:st++(kids p q).reverse.take (j+1)=K++[q++[a]]:=by rw [u,←ark,H]
    have I:(q::junk).drop (j+1)=J.drop 1:=by rw [←U,List.drop_drop]
    rw [H]at Q7;rw [H,U]at f11⊢;simp (maxSteps:=9^7)-implicitDefEqProofs+contextual [-getElem?_pos,aqT,f12,f15,f11,J0,OH];refine An (vR (l:=q) (by omega)) ?_ ?_ ?_
    iterate 2· simp (maxDischargeDepth:=8)-implicitDefEqProofs [-getElem?_pos,aqT]
    simp (maxSteps:=9^7)-implicitDefEqProofs+contextual [-getElem?_pos,aqT,f15];apply js
    iterate 9· first|rfl|omega|(simp-implicitDefEqProofs [-getElem?_pos,aqT];first|done|rfl|omega)
    simp (maxSteps:=9^7)-implicitDefEqProofs+contextual [-getElem?_pos,aqT];refine Mx (xs:=tc K) (ys:=tc J) (v:=.sl 1 3 0 (q.length+1) (q.length+1)) ?_ ?_ ?_ ?_ ?_ ?_ ?_ ?_
    iterate 6· first|rfl|(simp;done)
    ·simp;omega
    simp (maxSteps:=9^7)-implicitDefEqProofs+contextual [-getElem?_pos,aqT,f15,V];have e1:(bU p:Int)- 1- ((j+1:Nat):Int)=a- 1:=by omega
    have W:=Iy (p:=p) (s:=s) (fuel:=fuel) (most:=most) (out:=out) (st:=st) (q:=q) (junk:=junk) (j:=j+1);rw [G,I,e1]at W;refine .xZ x (pQ (h2:=OH p s out (K++[q++[a]]) (J.drop 1)) [3] [0,1,2] ((12,nE q)::(15,pi (a- 1))::OL p s fuel most out (K++[q++[a]]) (J.drop 1)) ?_ ?_ ?_ ?_ ?_) W
    ·simp [OH,OL,gC,g,d,c,f,f10,f12]
    iterate 2· simp
    iterate 2· simp (maxDischargeDepth:=8)-implicitDefEqProofs [aZ,aqT,OH,OL,gC,g,d,c,f,f10,f12]
   ·obtain rfl:j=bU p:=by omega
    have db:¬ 0≤a:=by omega
    have aoL:(kids p q).length=bU p:=by simp [kids]
    rw [ta]at f11;simp (maxSteps:=9^7)-implicitDefEqProofs+contextual [-getElem?_pos,aqT,f15,db,OH];refine .ofG ?_ (pQ (h2:=OH p s out (st++(kids p q).reverse) ((q::junk).drop (bU p))) [] [0,1,2] (OL p s fuel most out (st++(kids p q).reverse) ((q::junk).drop (bU p))) ?_ ?_ ?_ ?_ ?_) ⟨out,st++(kids p q).reverse,(q::junk).drop (bU p),rfl,Ax S z (by omega),P,?_,rfl,AB⟩
    ·rw [lM,lM]
     have:=Ec (q:=q) S (by omega);simp only [mE,List.map_cons,List.map_nil,List.sum_cons,List.sum_nil,Nat.add_zero]at*;omega
    ·simp [OH,OL,ta,g,d,c,f,f10,f11]
    iterate 2· simp
    iterate 2· simp (maxDischargeDepth:=8)-implicitDefEqProofs [aZ,aqT,OH,OL,ta,g,d,c,f,f10,f11]
    ·rw [r,mu,D9,Aw (by rw [A];exact m) (by omega)]
 ·by_cases Q:out.length=most
  ·have e:ofM p fuel s most=none:=by
    unfold ofM;rw [r,mu,uh (by rw [A];exact m)];cases rest p fuel s st<;>simp [Q]
   rw [e];simp (maxSteps:=9^7)-implicitDefEqProofs+contextual [-getElem?_pos,aqT,lK,m,Q,c,f10];refine ⟨_,_,cn ?_,rfl,rfl,by simp [AA]⟩;simp (maxDischargeDepth:=8)-implicitDefEqProofs [AA]
  ·have Y:¬ (out.length:Int)=(most:Int):=by omega
   simp (maxSteps:=9^7)-implicitDefEqProofs+contextual [-getElem?_pos,aqT,lK,m,d,c,f10,Y];refine An (vR (l:=s) hs) ?_ ?_ ?_
   iterate 2· simp (maxDischargeDepth:=8)-implicitDefEqProofs [-getElem?_pos,aqT]
   simp (maxSteps:=9^7)-implicitDefEqProofs+contextual [-getElem?_pos,aqT,d];refine An (vR (l:=q) (by omega)) ?_ ?_ ?_
   iterate 2· simp (maxDischargeDepth:=8)-implicitDefEqProofs [-getElem?_pos,aqT]
   simp (maxSteps:=9^7)-implicitDefEqProofs+contextual [-getElem?_pos,aqT,f10];apply js
   iterate 9· first|rfl|omega|(simp-implicitDefEqProofs [-getElem?_pos,aqT];first|done|rfl|omega)
   simp (maxSteps:=9^7)-implicitDefEqProofs+contextual [-getElem?_pos,aqT];refine .ofG ?_ (pQ (h2:=OH p s (out++[q]) st (q::junk)) [4,5] [0,1,2] (OL p s fuel most (out++[q]) st (q::junk)) ?_ ?_ ?_ ?_ ?_) ⟨out++[q],st,q::junk,rfl,uj z,?_,?_,rfl,?_⟩
   ·rw [lM]
    have:0<mE [q]:=by simp [mE];exact Nat.pow_pos (by omega)
    omega
   ·simp [OH,OL,td,kF,gC,hU,qC,g,d,c,f,B]
   iterate 2· simp
   iterate 2· simp (maxDischargeDepth:=8)-implicitDefEqProofs [aZ,aqT,OH,OL,td,kF,gC,hU,qC,g,d,c,f,B]
   ·simp;omega
   ·rw [r,mu,uh (by rw [A];exact m)]
    cases rest p fuel s st<;>simp
   ·exact AB
end P
namespace P
open Go Go.RowKit
theorem My {p:bw} {s:List Int}:iO p ⟨s,[]⟩=bK p.w p.vars s:=by simp [iO]
theorem Mz {s:List Int} (a:s.length<2^60) (c:∀n∈s,jG n):Aq ⟨s,[]⟩:=⟨a,by show(0:Nat)<_;omega,c,fun n b=>by cases b⟩
theorem yr {p:bw} {s:List Int} (h:bj p=true) (a:bK p.w p.vars s=true):s.length≤48:=by
 simp only [bj,aA,aqX,aq6]at h;simp only [bK,aqX,aq6]at a;have b:=h.1.2.2.2.2;have h2:=a.1;omega
def Ee (p:bw) (fuel:Int) (s:List Int):List PV:=
 if cx p fuel≠0 then [dM,pi (cx p fuel)]else if bK p.w p.vars s=false then [dM,pi 1]else AA s (ofM p fuel s 16384)
theorem MA (p:bw) (fuel:Int) (s:List Int):ef (Ee p fuel s)=true:=by
 unfold Ee;split
 ·simp
 ·split
  ·simp
  ·cases ofM p fuel s 16384<;>simp [AA]
theorem ahj {p:bw} {fuel:Int} {s:List Int} (b:kD p) (g:s.length<2^60) (d:∀n∈s,jG n):Fz E O 12 [.agg (aO p),pi fuel,nE s] (.gN (Ee p fuel s)):=by
 refine Fz.body (F:=a12) rfl rfl rfl (by simp [MA]) ?_;have f:Aq ⟨s,[]⟩:=Mz g d;simp (maxSteps:=9^7)-implicitDefEqProofs+contextual [-getElem?_pos,aqT,a12];refine bJ (pd b) ?_ ?_ ?_
 iterate 2· simp (maxDischargeDepth:=8)-implicitDefEqProofs [-getElem?_pos,aqT]
 cases h:bj p with
 |false=>
  have e:Ee p fuel s=[dM,pi 30]:=by simp [Ee,cx,h]
  rw [e];simp (maxSteps:=9^7)-implicitDefEqProofs+contextual [-getElem?_pos,aqT,h]
 |true=>
  by_cases a:fuel<0
  ·have e:Ee p fuel s=[dM,pi 1]:=by simp [Ee,cx,h,a]
   rw [e];simp (maxSteps:=9^7)-implicitDefEqProofs [-getElem?_pos,aqT,h,a]
  ·by_cases h2:4096<fuel
   ·have e:Ee p fuel s=[dM,pi 1]:=by simp [Ee,cx,h,a,h2]
    rw [e];simp (maxSteps:=9^7)-implicitDefEqProofs [-getElem?_pos,aqT,h,a,h2]
   ·have i:cx p fuel=0:=by simp [cx,h];omega
    have k:Ee p fuel s=if bK p.w p.vars s=false then [dM,pi 1]else AA s (ofM p fuel s 16384):=by simp [Ee,i]
    simp (maxSteps:=9^7)-implicitDefEqProofs [-getElem?_pos,aqT,h,a,h2];refine pO [] (Iw b f) ?_ ?_
    ·simp (maxDischargeDepth:=8)-implicitDefEqProofs [hU]
    have j:fV p 0 ⟨s,[]⟩=if bK p.w p.vars s=false then 50 else 0:=by simp [fV,h,My]
    rw [j,k]
    cases c:bK p.w p.vars s with
    |false=>
     simp (maxSteps:=9^7)-implicitDefEqProofs [-getElem?_pos,aqT,c,ee]
    |true=>
     simp (maxSteps:=9^7)-implicitDefEqProofs [-getElem?_pos,aqT,c,ee];have m:=yr h c;refine bJ (XY (fuel:=fuel) (most:=16384) b h (s:=s) (by omega) d (aqY _)) ?_ ?_ ?_
     iterate 2· simp (maxDischargeDepth:=8)-implicitDefEqProofs [-getElem?_pos,aqT]
     cases o:ofM p fuel s 16384 with
     |none=>
      simp (maxSteps:=9^7)-implicitDefEqProofs [-getElem?_pos,aqT,AA]
     |some l=>
      simp (maxSteps:=9^7)-implicitDefEqProofs [-getElem?_pos,aqT,AA]
open Go Go.RowKit
end P
namespace P
open Go Go.RowKit
def fP (p:bw):Int:=df (p.vars.map (·.cells))
theorem yu:∀(l:List Int) (a:Int),(∀c∈l,1≤c∧c≤8)→0≤a→a+8*l.length≤10000→a+l.length≤l.foldl (fun a c=>IntKind.i64.wrap (a+c)) a∧l.foldl (fun a c=>IntKind.i64.wrap (a+c)) a≤a+8*l.length
 |[],a,_,_,_=>by simp
 |c::l,a,h,g,f=>by
  have d:=h c (by simp);simp only [List.length_cons]at*;have e:IntKind.i64.wrap (a+c)=a+c:=ai ⟨by omega,by omega⟩;have:=yu l (a+c) (fun x b=>h x (by simp [b])) (by omega) (by omega);simp only [List.foldl_cons,e];omega
theorem my {p:bw} (h:bj p=true):1≤fP p∧fP p≤48:=by
 simp only [bj,aA,aqX,aq6,ara]at h;obtain ⟨⟨_,g,h2,f,d⟩,_⟩:=h
 have:=yu (p.vars.map (·.cells)) 0 (fun c a=>by
  simp only [aru]at a;obtain ⟨v,b,rfl⟩:=a;obtain ⟨i,hi,e⟩:=List.mem_iff_getElem.1 b;have:=f i (by simpa using hi);rw [aqU hi,e]at this
  exact qn this) (Int.le_refl _) (by simp;omega)
 simp only [List.length_map]at this;exact ⟨by unfold fP df;omega,d⟩
theorem pR {p:bw} (h:kD p):p.vars.length<2^60:=h.2.1.1
theorem um {V:List Vr} {i:Nat} {y:Vr} (a:V[i]?=some y):df ((V.map (·.cells)).take (i+1))=IntKind.i64.wrap (df ((V.map (·.cells)).take i)+y.cells):=by
 rw [arf];simp [df,a,List.foldl_append]
theorem vV {p:bw} (j:kD p) (k:p.vars.length<2^60):Fz E O 76 [.agg (aO p)] (pi (fP p)):=by
 refine Fz.body (F:=a76) rfl rfl rfl rfl ?_;simp (maxSteps:=9^7)-implicitDefEqProofs+contextual [-getElem?_pos,aqT,a76,aO];refine iw (fun i a h=>h=[]∧a.get 3=pi (df ((p.vars.map (·.cells)).take i))∧a.get 7=sW p.vars∧a.get 8=pi p.vars.length∧a.get 9=pi i) p.vars.length (pQ (h2:=[]) [] [] [(3,pi 0),(7,sW p.vars),(8,pi p.vars.length),(9,pi 0)] ?_ ?_ ?_ ?_ ?_) ⟨rfl,by simp [df],by simp,by simp,by simp⟩ ?_
 ·simp
 iterate 2· simp
 iterate 2· simp (maxDischargeDepth:=8)-implicitDefEqProofs [aZ,aqT]
 rintro i a h hi ⟨rfl,e,c,b,g⟩;by_cases h:i<p.vars.length
 ·obtain ⟨y,d⟩:∃y,p.vars[i]?=some y:=⟨_,aqU h⟩
  have f:IntKind.i64.wrap ((i:Int)+1)=((i+1:Nat):Int):=ai ⟨by omega,by omega⟩;simp (maxSteps:=9^7)-implicitDefEqProofs+contextual [-getElem?_pos,aqT,e,c,b,g,h,d,Ap];refine .xZ h (pQ (h2:=[]) [] [] [(3,pi (df ((p.vars.map (·.cells)).take (i+1)))),(7,sW p.vars),(8,pi p.vars.length),(9,pi (i+1:Nat))] ?_ ?_ ?_ ?_ ?_) ⟨rfl,by simp,by simp,by simp,by simp⟩
  ·simp [c,b,f,um d]
  iterate 2· simp
  iterate 2· simp (maxDischargeDepth:=8)-implicitDefEqProofs [aZ,aqT,c,b,f,um d]
 ·obtain rfl:i=p.vars.length:=by omega
  rw [aq1 (by simp)]at e;simp (maxSteps:=9^7)-implicitDefEqProofs+contextual [-getElem?_pos,aqT,e,c,b,g,fP]
theorem Ya {n:Int} (h:0≤n∧n≤60):bX .shl (.int .i64 1) (.int .u64 (IntKind.u64.wrap n))=some (.int .i64 (2^n.toNat)):=by
 obtain ⟨m,rfl⟩:=Int.eq_ofNat_of_zero_le h.1;have a:m≤60:=by omega
 have e:IntKind.u64.wrap (m:Int)=m:=by
  simp [IntKind.wrap,IntKind.bits,IntKind.signed];omega
 have b:(2:Int)^m≤2^60:=by
  have:=Nat.pow_le_pow_right (n:=2) (by omega) a
  exact_mod_cast this
 have c:(0:Int)<2^m:=Int.pow_pos (by omega);have w:IntKind.i64.wrap ((2:Int)^m)=2^m:=ai ⟨by omega,by omega⟩;rw [e];simp [bX,c7,IntKind.bits,show min m 64=m by omega,w]
def gP (p:bw):Int:=p.w*fP p
theorem Iz {p:bw} (h:bj p=true):1≤gP p∧gP p≤400:=by
 have a:=qB h;have b:=my h;unfold gP;have c:p.w*fP p≤8*48:=Int.mul_le_mul a.2 b.2 (by omega) (by omega);have h2:1*1≤p.w*fP p:=Int.mul_le_mul a.1 b.1 (by omega) (by omega);omega
def et (p:bw):Int:=2^(gP p).toNat
def nG (p:bw):List PV:=if bj p=false then [pi 0,pi 30]else if 60<gP p then [pi 0,pi 5]else [pi (et p),pi 0]
theorem IA (p:bw):ef (nG p)=true:=by unfold nG;split<;>(try split)<;>simp
theorem Cq {p:bw} (a:kD p):Fz E O 45 [.agg (aO p)] (.gN (nG p)):=by
 refine Fz.body (F:=Y1) rfl rfl rfl (by simp [IA]) ?_;simp (maxSteps:=9^7)-implicitDefEqProofs+contextual [-getElem?_pos,aqT,Y1,aO];refine bJ (pd a) ?_ ?_ ?_
 iterate 2· simp (maxDischargeDepth:=8)-implicitDefEqProofs [-getElem?_pos,aqT,aO]
 cases h:bj p with
 |false=>
  have e:nG p=[pi 0,pi 30]:=by simp [nG,h]
  rw [e];simp (maxSteps:=9^7)-implicitDefEqProofs+contextual [-getElem?_pos,aqT,h]
 |true=>
  have g:=Iz h;have d:IntKind.i64.wrap (p.w*fP p)=gP p:=ai ⟨by unfold gP at g;omega,by unfold gP at g;omega⟩;simp (maxSteps:=9^7)-implicitDefEqProofs+contextual [-getElem?_pos,aqT,h,aO];refine bJ (vV a (pR a)) ?_ ?_ ?_
  iterate 2· simp (maxDischargeDepth:=8)-implicitDefEqProofs [-getElem?_pos,aqT,aO]
  by_cases c:60<gP p
  ·have e:nG p=[pi 0,pi 5]:=by simp [nG,h,c]
   rw [e];simp (maxSteps:=9^7)-implicitDefEqProofs+contextual [-getElem?_pos,aqT,d,c]
  ·have e:nG p=[pi (et p),pi 0]:=by simp [nG,h,c]
   rw [e];simp (maxSteps:=9^7)-implicitDefEqProofs+contextual [-getElem?_pos,aqT,d,c,aO];refine bJ (vV a (pR a)) ?_ ?_ ?_
   iterate 2· simp (maxDischargeDepth:=8)-implicitDefEqProofs [-getElem?_pos,aqT,aO]
   have f:bX .shl (.int .i64 1) (.int .u64 (IntKind.u64.wrap (gP p)))=some (.int .i64 (et p)):=Ya (n:=gP p) ⟨by omega,by omega⟩;generalize et p=S at f⊢;generalize gP p=b at f d⊢;generalize i:IntKind.u64.wrap b=v at f;clear c e g h;simp (maxSteps:=9^7)-implicitDefEqProofs [-getElem?_pos,aqT,d,i,f]
open Go Go.RowKit
def lN (B i:Int):Nat→List Int
 |0=>[]
 |n+1=>lN B i n++[i/B^n%B]
@[simp]theorem iA (B i:Int):∀n,(lN B i n).length=n
 |0=>rfl
 |n+1=>by simp [lN,iA B i n]
def dT (p:bw) (i:Int):List Int:=lN (2^p.w.toNat) i (fP p).toNat
theorem mz {w i:Int} (a:1≤w∧w≤8):∀n,∀x∈lN (2^w.toNat) i n,isWord w x=true
 |0,x,h=>by cases h
 |n+1,x,h=>by
  have d:=jo a;rcases are.1 h with h|h
  ·exact mz a n x h
  ·simp only [List.mem_singleton]at h
   have c:0≤x:=by rw [h];exact Int.emod_nonneg _ (by omega)
   have b:x<2^w.toNat:=by rw [h];exact Int.emod_lt_of_pos _ (by omega)
   have:bl w=true:=by simp [bl];omega
   simp [isWord,this,c,b]
theorem IB {p:bw} (h:bj p=true) (i:Int):bK p.w p.vars (dT p i)=true:=by
 have b:=my h;simp only [bK,aqX,aq6,ara];refine ⟨?_,fun x a=>mz (qB h) _ x a⟩;rw [dT,iA];show(((fP p).toNat:Nat):Int)=fP p;omega
theorem uq {p:bw} (h:bj p=true) (i:Int):(dT p i).length≤48:=by
 have a:=my h;rw [dT,iA];omega
theorem yw {w x:Int} (h:isWord w x=true):jG x:=by
 simp only [isWord,bl,aqX,aq6]at h;have:=jo (w:=w) (by omega);exact ⟨by omega,by omega⟩
theorem Yb {a b:Int} (f:0≤a∧a<2^62) (d:1≤b∧b≤8):bX .shr (.int .i64 a) (.int .u64 (IntKind.u64.wrap b))=some (.int .i64 (a/2^b.toNat)):=by
 obtain ⟨n,rfl⟩:∃n:Nat,b=n:=⟨b.toNat,by omega⟩
 have e:IntKind.u64.wrap (n:Int)=n:=by
  simp [IntKind.wrap,IntKind.bits,IntKind.signed];omega
 rw [e];have c:(0:Int)≤2^n:=Int.le_of_lt (Int.pow_pos (by omega));simp [bX,c7,IntKind.bits,show min n 64=n by omega,Int.fdiv_eq_ediv_of_nonneg _ c]
theorem div_pow (i B:Int) (a:0<B) (n:Nat):i/B^n/B=i/B^(n+1):=by
 rw [Int.pow_succ,Int.ediv_ediv_of_nonneg (Int.le_of_lt (Int.pow_pos a))]
theorem MB {i B:Int} (hi:0≤i∧i<2^62) (a:0<B) (n:Nat):0≤i/B^n∧i/B^n<2^62:=by
 have b:0<B^n:=Int.pow_pos a;have c:i/B^n≤i:=Int.ediv_le_self _ hi.1;exact ⟨Int.ediv_nonneg hi.1 (by omega),by omega⟩
theorem IC {p:bw} (h:gP p≤60):et p≤2^60:=by
 unfold et;have:=Nat.pow_le_pow_right (n:=2) (by omega) (show(gP p).toNat≤60 by omega)
 exact_mod_cast this
def SL (B i:Int) (c j:Nat):List (Nat×PV):=[(1,pi (i/B^j)),(2,.ref 0 0 3),(8,.sl 1 1 0 j j),(25,pi c),(26,pi j)]
def JE (p:bw) (i:Int) (j:Nat):PH:=[.cells 3 (aO p),.cells 1 ((lN (2^p.w.toNat) i j).map pi)]
def SI7 (p:bw) (B i:Int) (c j:Nat) (fr:PF) (h:PH):Prop:=h=JE p i j∧∀t∈SL B i c j,fr.get t.1=t.2
theorem Cr {p:bw} {B i:Int} {c j:Nat}:SI7 p B i c j (PF.y7 (SL B i c j)) (JE p i j):=⟨rfl,fun t a=>by
 simp only [SL,arc,arx,or_false]at a
 rcases a with rfl|rfl|rfl|rfl|rfl<;>simp [SL]⟩
theorem ID {p:bw} {i:Int} (g:kD p) (h:bj p=true) (r:gP p≤60) (hi:0≤i∧i<et p):Fz E O 46 [.agg (aO p),pi i] (.gN [nE (dT p i),pi 0]):=by
 refine tt.body (F:=a46) rfl rfl rfl ?_;have k:=qB h;have N:=my h;have K:=jo k;have L:=IC r
 have m:0≤i∧i<2^62:=⟨hi.1,by omega⟩
 have q:=Cq g;have e:nG p=[pi (et p),pi 0]:=by simp [nG,h];omega
 rw [e]at q
 obtain ⟨S,o⟩:∃S,et p=S:=⟨_,rfl⟩
 rw [o]at q hi;have n:¬ i<0:=by omega
 have I:¬ S≤i:=by omega
 obtain ⟨c,y⟩:∃c:Nat,fP p=c:=⟨(fP p).toNat,by omega⟩
 have z:=vV g (pR g);rw [y]at z;simp (maxSteps:=9^7)-implicitDefEqProofs+contextual [-getElem?_pos,aqT,a46,aO];refine bJ (q) ?_ ?_ ?_
 iterate 2· simp (maxDischargeDepth:=8)-implicitDefEqProofs [-getElem?_pos,aqT,aO]
 simp (maxSteps:=9^7)-implicitDefEqProofs [-getElem?_pos,aqT,n,I,aO];refine bJ (z) ?_ ?_ ?_
 iterate 2· simp (maxDischargeDepth:=8)-implicitDefEqProofs [-getElem?_pos,aqT,aO]
 simp (maxSteps:=9^7)-implicitDefEqProofs+contextual [-getElem?_pos,aqT];refine iw (SI7 p (2^p.w.toNat) i c) c (eU (h2:=JE p i 0) [0,9] (SL (2^p.w.toNat) i c 0) ?_ ?_ ?_ ?_ ?_ ?_) Cr ?_
 ·simp [JE,SL,aO,lN]
 iterate 2· simp
 ·intro b J;omega
 iterate 2· simp (maxDischargeDepth:=8)-implicitDefEqProofs [aZ,aqT,JE,SL,aO,lN]
 rintro j P h M ⟨rfl,v⟩;simp only [SL,arc,arx,or_false,forall_eq_or_imp,forall_eq]at v;obtain ⟨f,d,A,f25,f26⟩:=v;have shl:=xz k;have shr:=Yb (MB m (show(0:Int)<2^p.w.toNat by omega) j) k;have and:=BB (x:=i/(2^p.w.toNat)^j) (w:=p.w.toNat) (by omega);have C:=div_pow i (2^p.w.toNat) (by omega) j
 obtain ⟨B,a⟩:∃B:Int,2^p.w.toNat=B:=⟨_,rfl⟩
 rw [a]at shl shr and C K f⊢;rw [C]at shr
 obtain ⟨u,l⟩:∃u,i/B^j=u:=⟨_,rfl⟩
 rw [l]at shr and f;by_cases t:j<c
 ·have G:IntKind.i64.wrap ((j:Int)+1)=((j+1:Nat):Int):=ai ⟨by omega,by omega⟩
  have D:IntKind.i64.wrap (B- 1)=B- 1:=ai ⟨by omega,by omega⟩;simp (maxSteps:=9^7)-implicitDefEqProofs+contextual [-getElem?_pos,aqT,f,d,A,f25,f26,t,JE,aO,shl,D,and,a];apply js
  iterate 9· first|rfl|omega|(simp-implicitDefEqProofs [-getElem?_pos,aqT];first|done|rfl|omega)
  simp (maxSteps:=9^7)-implicitDefEqProofs+contextual [-getElem?_pos,aqT,f,d,f25,f26,shr,G];refine .xZ t (eU (h2:=JE p i (j+1)) [0,1] (SL B i c (j+1)) ?_ ?_ ?_ ?_ ?_ ?_) Cr
  ·simp [JE,SL,aO,lN,l,a,d,f25]
  iterate 2· simp
  ·intro b J;omega
  iterate 2· simp (maxDischargeDepth:=8)-implicitDefEqProofs [aZ,aqT,JE,SL,aO,lN,l,a,d,f25]
 ·obtain rfl:j=c:=by omega
  have s:lN B i j=dT p i:=by rw [dT,a,y];rfl
  simp (maxSteps:=9^7)-implicitDefEqProofs+contextual [-getElem?_pos,aqT,f,d,A,f25,f26,JE,a,s];have H:(dT p i).length=j:=by rw [←s,iA]
  refine cn ?_;simp (maxDischargeDepth:=8)-implicitDefEqProofs [H]
end P
end Go.Proofs.YtppcmpmnglaleaaGreatDoor.A
