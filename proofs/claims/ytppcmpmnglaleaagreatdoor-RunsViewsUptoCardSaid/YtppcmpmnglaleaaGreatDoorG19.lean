/- Texts that stand one behind the other: Pm9, Pm10, Pm11, Pm12, Pm13, Pm14, Pm15, Q1, Q2, Q3, Q4, Q5, Q6, Q7, Q8, Q9, Q10, Q11, Q13, Q14, Q15, U1, U2, U3, U4, U5, U6, U7, U8. -/
import Derived.Test.YtppcmpmnglaleaaGreatDoorG18
set_option linter.unusedVariables false
set_option linter.unusedSimpArgs false
namespace Go.Proofs.YtppcmpmnglaleaaGreatDoor.A.P
open Go Go.RowKit
section
variable{E:Env} {O:iq} {n:Nat} {Q:Ex→PF→PH→Prop} {ks:List Kp} {fr:PF} {h:PH}
theorem GN.mono {f:Nat} {args:List PV} {W:Nat→Prop} {R R':PV→PH→Prop} (k:GN E O f args h W R) (hr:∀r h',R r h'→R' r h'):GN E O f args h W R':=fun F H φ vs S Rv=>
 (k F H φ vs S Rv).mono fun x H' ⟨r,h',F',cN,a,b⟩=>⟨r,h',F',cN,hr _ _ a,b⟩
def tV.get (fr:PF) (h:PH):RS→Option PV
 | .tmp t=>some (fr.get t)
 | .cell t _=>K5 h (fr.get t)
 | .cells t n=>tQ n h (fr.get t)
def tV.all (fr:PF) (h:PH):List RS→Option (List PV)
 |[]=>some []
 |r::l=>match tV.get fr h r,tV.all fr h l with|some v,some vs=>some (v::vs)|_,_=>none
def mY:List PV→PV
 |[v]=>v
 |vs=>.fJ vs
def Jv (n:Nat) (r:PV) (h:PH) (r2:PV) (h2:PH):Prop:=
 ∀F H φ x,dx ⟨F,H,φ,h⟩→RV ⟨F,H,φ,h⟩ r x→∃F' cN,dx ⟨F',H,cN,h2⟩∧RV ⟨F',H,cN,h2⟩ r2 x∧∀C0:Cx,C0.h.length=n→cH n rR C0 ⟨F,H,φ,h⟩→cH n rR C0 ⟨F',H,cN,h2⟩
def N8 (n:Nat) (res:List RS) (R:PV→PH→Prop):Ex→PF→PH→Prop
 | .exit _,_,_=>False
 |_,fr,h=>∃vs,tV.all fr h res=some vs∧∃r2 h2,Jv n (mY vs) h r2 h2∧R r2 h2
theorem La {C:Cx} (S:dx C) {fr:PF} {af:Fr} (R:lu C fr af):∀{res:List RS} {ps:List PV},tV.all fr C.h res=some ps→∃xs,RS.all af C.H res=some xs∧cx C ps xs
 |[],ps,e=>by cases e;exact ⟨[],rfl,.nil⟩
 |r::l,ps,e=>by
  simp only [tV.all]at e
  split at e
  case h_2=>cases e
  rename_i p qs h1 h2
  cases e
  obtain ⟨xs,k1,k2⟩:=La S R h2
  obtain ⟨x,k3,k4⟩:∃x,RS.get af C.H r=some x∧RV C p x:=by
   cases r with
   |tmp t=>cases h1;exact ⟨_,rfl,R t⟩
   |cell t _=>
    obtain ⟨y,hy,ry⟩:=K7 S (R t) h1
    refine ⟨y,?_,ry⟩
    simp only [RS.get]
    cases hq:af.get t with
    |pointer a=>rw [hq]at hy;cases a<;>exact hy
    |_=>rw [hq]at hy;cases hy
   |cells t m=>
    obtain ⟨y,hy,ry⟩:=yb S (R t) h1
    refine ⟨y,?_,ry⟩
    simp only [RS.get]
    cases hq:af.get t with
    |pointer a=>rw [hq]at hy;cases a<;>exact hy
    |_=>rw [hq]at hy;cases hy
  exact ⟨x::xs,by simp only [RS.all,k1,k3],.cons k4 k2⟩
theorem N9 {C:Cx} {ps:List PV} {xs:List Value} (h:cx C ps xs):RV C (mY ps) (oB xs):=by
 cases h with
 |nil=>exact .fJ (xs:=[]) .nil
 |cons a b=>
  cases b with
  |nil=>exact a
  |cons b c=>exact .fJ (xs:=_::_::_) (.cons a (.cons b c))
theorem rS.body {f:Nat} {F:AF} {args:List PV} {R:PV→PH→Prop} (ho:O f=none) (he:E f=some F) (hl:args.length=F.np) (k:PK E O h.length (N8 h.length F.res R) (.code F.body []) (PF.of args) h):rS E O f args h R:=by
 intro Fz H φ vs S Rv
 refine Ca.body ho he (by rw [←Rv.length,hl]) ?_
 have L:Live ⟨Fz,H,φ,h⟩ ⟨Fz,H,φ,h⟩:=⟨S,cH.refl _ _ _⟩
 refine (k.sound (C0:=⟨Fz,H,φ,h⟩) rfl Fz H φ (Fr.of vs) L (lu.of Rv)).mono ?_
 intro ex pM H' q
 simp only [UP]at q
 obtain ⟨fr,F1,jV,h1,q,L1,R1⟩:=q
 have key:∀vs,tV.all fr h1 F.res=some vs→∀r2 h2,Jv h.length (mY vs) h1 r2 h2→R r2 h2→∃ys,RS.all pM H' F.res=some ys∧∃r h' F' cN,R r h'∧RV ⟨F',H',cN,h'⟩ r (oB ys)∧dx ⟨F',H',cN,h'⟩∧cH h.length rR ⟨Fz,H,φ,h⟩ ⟨F',H',cN,h'⟩:=by
  intro vs e r2 h2 g hR
  obtain ⟨ys,k1,k2⟩:=La L1.1 R1 e
  obtain ⟨F2,kJ,S2,R2,T2⟩:=g _ _ _ _ L1.1 (N9 k2)
  exact ⟨ys,k1,r2,h2,F2,kJ,hR,R2,S2,T2 _ rfl L1.2⟩
 cases ex with
 |exit i=>exact q.elim
 |normal=>obtain ⟨vs,e,r2,h2,g,hR⟩:=q;exact key vs e r2 h2 g hR
 |ret=>obtain ⟨vs,e,r2,h2,g,hR⟩:=q;exact key vs e r2 h2 g hR
@[simp]theorem TA (f:PF) (a b:Nat) (p:PV):(f.put a p).get b=if b=a then p else f.get b:=rfl
@[simp]theorem Ws (l:List PV) (a:Nat):(PF.of l).get a=l.getD a .any:=rfl
@[simp]theorem ab9 (f:PF) (a:Nat) (p:PV):f.aM (some a) p=f.put a p:=rfl
@[simp]theorem aca (f:PF) (p:PV):f.aM none p=f:=rfl
@[simp]theorem afC (f:PF) (a:Nat):eT f (.t a)=f.get a:=rfl
@[simp]theorem afD (f:PF) (v:Value):eT f (.k v)=uF v:=rfl
@[simp]theorem afE (f:PF) (a:Nat):eT f (.f a)= .fn a [] []:=rfl
@[simp]theorem Wu (k:IntKind) (a:Int):uF (.int k a)= .v (.int k a):=rfl
@[simp]theorem TB (a:Bool):uF (.bool a)= .v (.bool a):=rfl
@[simp]theorem Wv (a:ByteArray):uF (.string a)= .v (.string a):=rfl
@[simp]theorem acb (a:Option Addr) (b c:Nat):uF (.slice a b c)= .v (.slice a b c):=rfl
@[simp]theorem Ww (a:Option Addr):uF (.pointer a)= .v (.pointer a):=rfl
@[simp]theorem Wx (a:Option Nat):uF (.map a)= .v (.map a):=rfl
@[simp]theorem acd:uF .nilFunc= .v .nilFunc:=rfl
@[simp]theorem ace:uF .nilIface= .v .nilIface:=rfl
@[simp]theorem Wy (a:Array Value):uF (.agg a)= .agg (a.toList.map .v):=rfl
@[simp]theorem acf (V:List Nat) (fr:PF) (h:PH):Mp.up .pl V fr h= .pl:=rfl
@[simp]theorem acg (V:List Nat) (fr:PF) (h:PH):Mp.up .d0 V fr h= .d0:=rfl
@[simp]theorem ach (l0:List AO) (ck:List (Nat×Nat×Nat)) (acc:List (PF×PH×List Nat)) (W V:List Nat) (fr:PF) (h:PH):Mp.up (.dr l0 ck acc W) V fr h= .dr l0 ck ((fr,h,V++W)::acc) (V++W):=rfl
@[simp]theorem Wz:PK E O n Q (.code .skip ks) fr h↔PK E O n Q (.done .normal ks) fr h:=⟨fun k=>by cases k;assumption,.skip⟩
@[simp]theorem aci:PK E O n Q (.code .ret ks) fr h↔PK E O n Q (.done .ret ks) fr h:=⟨fun k=>by cases k;assumption,.ret⟩
@[simp]theorem WA (i:Nat):PK E O n Q (.code (.exit i) ks) fr h↔PK E O n Q (.done (.exit i) ks) fr h:=⟨fun k=>by cases k;assumption,.exit⟩
@[simp]theorem acj (l:List AO):PK E O n Q (.code (.bW l) ks) fr h↔PK E O n Q (.ops .pl l ks) fr h:=⟨fun k=>by cases k;assumption,.bW⟩
@[simp]theorem WB (l:List AO) (c:Nat×Nat×Nat) (ck:List (Nat×Nat×Nat)):PK E O n Q (.code (.bM l (c::ck)) ks) fr h↔PK E O n Q (.ops (.dr l (c::ck) [(fr,h,[])] []) l ks) fr h:=⟨fun k=>by cases k;assumption,.bM⟩
@[simp]theorem TC (l:List AO):PK E O n Q (.code (.bM l []) ks) fr h↔PK E O n Q (.ops .d0 l ks) fr h:=⟨fun k=>by cases k;assumption,.zW⟩
@[simp]theorem ack (a b:AC):PK E O n Q (.code (.seq a b) ks) fr h↔PK E O n Q (.code a (.seq b::ks)) fr h:=⟨fun k=>by cases k;assumption,.seq⟩
@[simp]theorem TE (i:Nat) (a:AC):PK E O n Q (.code (.block i a) ks) fr h↔PK E O n Q (.code a (.aN i::ks)) fr h:=⟨fun k=>by cases k;assumption,.block⟩
def PC (E:Env) (O:iq) (n:Nat) (Q:Ex→PF→PH→Prop) (p:PV) (a b:AC) (ks:List Kp) (fr:PF) (h:PH):Prop:=∃t,p= .v (.bool t)∧PK E O n Q (.code (bif t then a else b) ks) fr h
@[simp]theorem WC (x:X) (a b:AC):PK E O n Q (.code (.cond x a b) ks) fr h↔PC E O n Q (eT fr x) a b ks fr h:=⟨fun k=>by cases k with|cond e q=>exact ⟨_,e,q⟩,fun⟨t,e,q⟩=>.cond e q⟩
@[simp]theorem ajP (t:Bool) (a b:AC):PC E O n Q (.v (.bool t)) a b ks fr h↔br (t=true) (PK E O n Q (.code a ks) fr h) (PK E O n Q (.code b ks) fr h):=by
 unfold PC
 cases t
 ·simp only [reduceCtorEq,MG]
  exact ⟨fun⟨t,e,q⟩=>by cases e;exact q,fun q=>⟨_,rfl,q⟩⟩
 ·simp only [MF]
  exact ⟨fun⟨t,e,q⟩=>by cases e;exact q,fun q=>⟨_,rfl,q⟩⟩
@[simp]theorem acm (ex:Ex):PK E O n Q (.done ex []) fr h↔Q ex fr h:=⟨fun k=>by cases k;assumption,.Js⟩
@[simp]theorem afF (b:AC):PK E O n Q (.done .normal (.seq b::ks)) fr h↔PK E O n Q (.code b ks) fr h:=⟨fun k=>by cases k;assumption,.Wl⟩
@[simp]theorem afG (i:Nat):PK E O n Q (.done .normal (.aN i::ks)) fr h↔PK E O n Q (.done .normal ks) fr h:=⟨fun k=>by cases k;assumption,.Wm⟩
@[simp]theorem afH (i:Nat) (b:AC):PK E O n Q (.done (.exit i) (.seq b::ks)) fr h↔PK E O n Q (.done (.exit i) ks) fr h:=⟨fun k=>by cases k;assumption,.Wn⟩
@[simp]theorem acn (i:Nat):PK E O n Q (.done (.exit i) (.aN i::ks)) fr h↔PK E O n Q (.done .normal ks) fr h:=⟨fun k=>by cases k with|Fk q=>exact q|Jt q=>exact absurd rfl q,.Fk⟩
@[simp]theorem afI (i k:Nat) (I:Nat→PF→PH→Prop):PK E O n Q (.done (.exit i) (.lp I k::ks)) fr h↔PK E O n Q (.done (.exit i) ks) fr h:=⟨fun k=>by cases k;assumption,.del⟩
@[simp]theorem ajQ (k:Kp):PK E O n Q (.done .ret (k::ks)) fr h↔PK E O n Q (.done .ret ks) fr h:=⟨fun k=>by cases k;assumption,.Ju⟩
def Oa (n:Nat) (I:Nat→PF→PH→Prop) (k:Nat) (fr:PF) (h:PH):Prop:=∃j,j<k∧∃fx h2,Gh n fr h fx h2∧I j fx h2
@[simp]theorem afJ (I:Nat→PF→PH→Prop) (k:Nat):PK E O n Q (.done .normal (.lp I k::ks)) fr h↔Oa n I k fr h:=
 ⟨fun q=>by cases q with|Tz a b c=>exact ⟨_,a,_,_,b,c⟩,fun⟨_,a,_,_,b,c⟩=>.Tz a b c⟩
theorem Oa.ofG {I:Nat→PF→PH→Prop} {k j:Nat} {fx:PF} {h2:PH} (hj:j<k) (g:Gh n fr h fx h2) (hI:I j fx h2):Oa n I k fr h:=⟨j,hj,fx,h2,g,hI⟩
def Fl (I:Nat→PF→PH→Prop) (N:Nat):Nat→PF→PH→Prop:=fun k fr h=>k≤N∧I (N- k) fr h
theorem Oa.for {I:Nat→PF→PH→Prop} {N i:Nat} (hi:i<N) (hI:I (i+1) fr h):Oa n (Fl I N) (N- i) fr h:=
 ⟨N- (i+1),by omega,fr,h,Gh.refl _ _ _,by omega,by rw [show N- (N- (i+1))=i+1 by omega];exact hI⟩
theorem Oa.tW {I:Nat→PF→PH→Prop} {N i:Nat} {fx:PF} {h2:PH} (hi:i<N) (g:Gh n fr h fx h2) (hI:I (i+1) fx h2):Oa n (Fl I N) (N- i) fr h:=
 ⟨N- (i+1),by omega,fx,h2,g,by omega,by rw [show N- (N- (i+1))=i+1 by omega];exact hI⟩
theorem we {a:AC} {fx:PF} {h2:PH} (I:Nat→PF→PH→Prop) (k:Nat) (g:Gh n fr h fx h2) (hI:I k fx h2) (step:∀k fr h,I k fr h→PK E O n Q (.code a (.lp I k::ks)) fr h):PK E O n Q (.code (.loop a) ks) fr h:=.loop I k step g hI
theorem iC {a:AC} {fx:PF} {h2:PH} (I:Nat→PF→PH→Prop) (N:Nat) (g:Gh n fr h fx h2) (h0:I 0 fx h2) (step:∀i fr h,i≤N→I i fr h→PK E O n Q (.code a (.lp (Fl I N) (N- i)::ks)) fr h):PK E O n Q (.code (.loop a) ks) fr h:=
 we (Fl I N) N g ⟨alR _,by rw [Nat.sub_self];exact h0⟩ fun k fr h hI=>by
  have:=step (N- k) fr h (by omega) hI.2
  rwa [show N- (N- k)=k by have:=hI.1;omega]at this
theorem tX {a:AC} (I:Nat→PF→PH→Prop) (N:Nat) (h0:I 0 fr h) (step:∀i fr h,i≤N→I i fr h→PK E O n Q (.code a (.lp (Fl I N) (N- i)::ks)) fr h):PK E O n Q (.code (.loop a) ks) fr h:=iC I N (Gh.refl _ _ _) h0 step
@[simp]theorem aco (res:List RS) (R:PV→PH→Prop):N8 n res R .normal fr h=∃vs,tV.all fr h res=some vs∧∃r2 h2,Jv n (mY vs) h r2 h2∧R r2 h2:=rfl
@[simp]theorem acp (res:List RS) (R:PV→PH→Prop):N8 n res R .ret fr h=∃vs,tV.all fr h res=some vs∧∃r2 h2,Jv n (mY vs) h r2 h2∧R r2 h2:=rfl
variable{m:Mp} {l:List AO} {d:Option Nat}
@[simp]theorem acq:PK E O n Q (.ops .pl [] ks) fr h↔PK E O n Q (.done .normal ks) fr h:=⟨fun k=>by cases k;assumption,.Jr⟩
@[simp]theorem WD:PK E O n Q (.ops .d0 [] ks) fr h↔PK E O n Q (.done .normal ks) fr h:=⟨fun k=>by cases k;assumption,.zX⟩
@[simp]theorem WE (l0:List AO) (ck:List (Nat×Nat×Nat)) (acc:List (PF×PH×List Nat)) (W:List Nat):PK E O n Q (.ops (.dr l0 ck acc W) [] ks) fr h↔Tx l0 ck acc=true∧PK E O n Q (.done .normal ks) fr h:=⟨fun k=>by cases k with|v8 a b=>exact ⟨a,b⟩,fun⟨a,b⟩=>.v8 a b⟩
def PG (E:Env) (O:iq) (n:Nat) (Q:Ex→PF→PH→Prop) (g:PV) (b:Bool) (m:Mp) (d:Option Nat) (p:cl) (l:List AO) (ks:List Kp) (fr:PF) (h:PH):Prop:=∃x,g= .v x∧br (dG b x=true) (PK E O n Q (.ops m (⟨none,d,p⟩::l) ks) fr h) (PK E O n Q (.ops (m.up [] (fr.aM d (.v undef)) h) l ks) (fr.aM d (.v undef)) h)
@[simp]theorem ajR (t:Nat) (b:Bool) (p:cl):PK E O n Q (.ops m (⟨some (t,b),d,p⟩::l) ks) fr h↔PG E O n Q (fr.get t) b m d p l ks fr h:=by
 constructor
 ·intro k
  cases k with
  |Ty e w q=>exact ⟨_,e,fun _=>q,fun k=>absurd w k⟩
  |Fj e w q=>exact ⟨_,e,fun k=>(Bool.noConfusion (w.symm.trans k)),fun _=>q⟩
 ·rintro ⟨x,e,q⟩
  cases w:dG b x with
  |true=>exact .Ty e w (q.1 w)
  |false=>exact .Fj e w (q.2 (by simp [w]))
@[simp]theorem ajS (t:Bool) (p:cl):PG E O n Q (.v (.bool t)) true m d p l ks fr h↔br (t=true) (PK E O n Q (.ops m (⟨none,d,p⟩::l) ks) fr h) (PK E O n Q (.ops (m.up [] (fr.aM d (.v undef)) h) l ks) (fr.aM d (.v undef)) h):=by
 unfold PG
 exact ⟨fun⟨x,e,q⟩=>by cases e;simpa using q,fun q=>⟨_,rfl,by simpa using q⟩⟩
@[simp]theorem ajT (t:Bool) (p:cl):PG E O n Q (.v (.bool t)) false m d p l ks fr h↔br (t=true) (PK E O n Q (.ops (m.up [] (fr.aM d (.v undef)) h) l ks) (fr.aM d (.v undef)) h) (PK E O n Q (.ops m (⟨none,d,p⟩::l) ks) fr h):=by
 unfold PG
 refine ⟨fun⟨x,e,q⟩=>?_,fun q=>⟨_,rfl,?_⟩⟩
 ·cases e;cases t<;>simpa using q
 ·cases t<;>simpa using q
@[simp]theorem ajU (b:Bool) (p:cl):PG E O n Q (.v undef) b m d p l ks fr h↔PK E O n Q (.ops (m.up [] (fr.aM d (.v undef)) h) l ks) (fr.aM d (.v undef)) h:=by
 unfold PG
 refine ⟨fun⟨x,e,q⟩=>?_,fun q=>⟨_,rfl,by simpa using q⟩⟩
 cases e;simpa using q
def PO (E:Env) (O:iq) (n:Nat) (Q:Ex→PF→PH→Prop) (r:Option (PV×PH)) (V:List Nat) (d:Option Nat) (m:Mp) (l:List AO) (ks:List Kp) (fr:PF):Prop:=∃v h',r=some (v,h')∧PK E O n Q (.ops (m.up V (fr.aM d v) h') l ks) (fr.aM d v) h'
@[simp]theorem TF (v:PV) (h':PH) (V:List Nat):PO E O n Q (some (v,h')) V d m l ks fr↔PK E O n Q (.ops (m.up V (fr.aM d v) h') l ks) (fr.aM d v) h':=⟨fun⟨_,_,e,q⟩=>by cases e;exact q,fun q=>⟨_,_,rfl,q⟩⟩
@[simp]theorem ajV (V:List Nat):PO E O n Q none V d m l ks fr↔False:=⟨fun⟨_,_,e,_⟩=>(by cases e),False.elim⟩
def P1 (E:Env) (O:iq) (n:Nat) (Q:Ex→PF→PH→Prop) (r:Option PV) (d:Option Nat) (m:Mp) (l:List AO) (ks:List Kp) (fr:PF) (h:PH):Prop:=∃v,r=some v∧PK E O n Q (.ops (m.up [] (fr.aM d v) h) l ks) (fr.aM d v) h
@[simp]theorem ajW (v:PV):P1 E O n Q (some v) d m l ks fr h↔PK E O n Q (.ops (m.up [] (fr.aM d v) h) l ks) (fr.aM d v) h:=⟨fun⟨_,e,q⟩=>by cases e;exact q,fun q=>⟨_,rfl,q⟩⟩
@[simp]theorem ajX:P1 E O n Q none d m l ks fr h↔False:=⟨fun⟨_,e,_⟩=>(by cases e),False.elim⟩
def PS (E:Env) (O:iq) (n:Nat) (Q:Ex→PF→PH→Prop) (r:Option PH) (V:List Nat) (d:Option Nat) (m:Mp) (l:List AO) (ks:List Kp) (fr:PF):Prop:=∃h',r=some h'∧PK E O n Q (.ops (m.up V (fr.aM d (.v undef)) h') l ks) (fr.aM d (.v undef)) h'
@[simp]theorem ajY (h':PH) (V:List Nat):PS E O n Q (some h') V d m l ks fr↔PK E O n Q (.ops (m.up V (fr.aM d (.v undef)) h') l ks) (fr.aM d (.v undef)) h':=⟨fun⟨_,e,q⟩=>by cases e;exact q,fun q=>⟨_,rfl,q⟩⟩
@[simp]theorem ajZ (V:List Nat):PS E O n Q none V d m l ks fr↔False:=⟨fun⟨_,e,_⟩=>(by cases e),False.elim⟩
theorem oV {p:cl} (hc:p.aQ=false):PK E O n Q (.ops m (⟨none,d,p⟩::l) ks) fr h↔PO E O n Q (pop p (eT fr) h) (vX p (eT fr)) d m l ks fr:=by
 constructor
 ·intro k
  cases k with
  |op e q=>exact ⟨_,_,e,q⟩
  |call=>cases hc
  |callv=>cases hc
 ·exact fun⟨_,_,e,q⟩=>.op e q
theorem Ob (r:Option PV):PO E O n Q (r.map fun v=>(v,h)) [] d m l ks fr↔P1 E O n Q r d m l ks fr h:=by cases r<;>simp
theorem Jw (r:Option PH) (V:List Nat):PO E O n Q (r.map fun h'=>(.v undef,h')) V d m l ks fr↔PS E O n Q r V d m l ks fr:=by cases r<;>simp
theorem mZ {p:cl} {r:Option PV} (hc:p.aQ=false) (e:pop p (eT fr) h=r.map fun v=>(v,h)) (w:vX p (eT fr)=[]):PK E O n Q (.ops m (⟨none,d,p⟩::l) ks) fr h↔P1 E O n Q r d m l ks fr h:=by rw [oV hc,e,w,Ob]
@[simp]theorem afL (x:X):PK E O n Q (.ops m (⟨none,d,.mv x⟩::l) ks) fr h↔PK E O n Q (.ops (m.up [] (fr.aM d (eT fr x)) h) l ks) (fr.aM d (eT fr x)) h:=by rw [oV rfl];simp [pop,vX]
@[simp]theorem WG (c a b:X):PK E O n Q (.ops m (⟨none,d,.pick c a b⟩::l) ks) fr h↔P1 E O n Q (ES (eT fr c) (eT fr a) (eT fr b)) d m l ks fr h:=mZ rfl rfl rfl
@[simp]theorem TG (z:List Value):PK E O n Q (.ops m (⟨none,d,.alloc z⟩::l) ks) fr h↔PK E O n Q (.ops (m.up [] (fr.aM d (.ref h.length 0 z.length)) (h++[.cells z.length (z.map .v)])) l ks) (fr.aM d (.ref h.length 0 z.length)) (h++[.cells z.length (z.map .v)]):=by rw [oV rfl];simp [pop,vX]
@[simp]theorem acr (x:X):PK E O n Q (.ops m (⟨none,d,.box x⟩::l) ks) fr h↔PO E O n Q (Jf h (eT fr x)) [] d m l ks fr:=oV rfl
@[simp]theorem TJ (z:List Value) (ps:List (Nat×Nat×X)):PK E O n Q (.ops m (⟨none,d,.build z ps⟩::l) ks) fr h↔P1 E O n Q ((mW (z.map .v) (ps.map fun p=>(p.1,p.2.1,eT fr p.2.2))).map .agg) d m l ks fr h:=mZ rfl (by simp [pop,Option.map_map];rfl) rfl
@[simp]theorem acs (len sz:Nat) (z:List Value) (ps:List (Nat×Nat×X)):PK E O n Q (.ops m (⟨none,d,.bsl len sz z ps⟩::l) ks) fr h↔PO E O n Q (Jd len sz z h (ps.map fun p=>(p.1,p.2.1,eT fr p.2.2))) [] d m l ks fr:=oV rfl
@[simp]theorem afM (x:X):PK E O n Q (.ops m (⟨none,d,.ld x⟩::l) ks) fr h↔P1 E O n Q (K5 h (eT fr x)) d m l ks fr h:=mZ rfl rfl rfl
@[simp]theorem acu (k:Nat) (x:X):PK E O n Q (.ops m (⟨none,d,.ldn k x⟩::l) ks) fr h↔P1 E O n Q (tQ k h (eT fr x)) d m l ks fr h:=mZ rfl rfl rfl
@[simp]theorem afN (k:Nat) (x v:X):PK E O n Q (.ops m (⟨none,d,.st k x v⟩::l) ks) fr h↔PS E O n Q (NS k h (eT fr x) (eT fr v)) (vX (.st k x v) (eT fr)) d m l ks fr:=by rw [oV rfl];exact Jw _ _
@[simp]theorem acv (op:BinOp) (x y:X):PK E O n Q (.ops m (⟨none,d,.bin op x y⟩::l) ks) fr h↔P1 E O n Q (I7 op (eT fr x) (eT fr y)) d m l ks fr h:=mZ rfl rfl rfl
@[simp]theorem afO (op:UnOp) (x:X):PK E O n Q (.ops m (⟨none,d,.un op x⟩::l) ks) fr h↔P1 E O n Q (Wh op (eT fr x)) d m l ks fr h:=mZ rfl rfl rfl
@[simp]theorem acw (k:IntKind) (x:X):PK E O n Q (.ops m (⟨none,d,.jU k x⟩::l) ks) fr h↔P1 E O n Q (Ja k (eT fr x)) d m l ks fr h:=mZ rfl rfl rfl
@[simp]theorem acx (x:X):PK E O n Q (.ops m (⟨none,d,.Cp x⟩::l) ks) fr h↔P1 E O n Q (Jb (eT fr x)) d m l ks fr h:=mZ rfl rfl rfl
@[simp]theorem afP (sz:Nat) (x:X) (lo hi mx:Option X):PK E O n Q (.ops m (⟨none,d,.sl sz x lo hi mx⟩::l) ks) fr h↔PO E O n Q (Tp sz h (eT fr x) (lo.map (eT fr)) (hi.map (eT fr)) (mx.map (eT fr))) [] d m l ks fr:=oV rfl
@[simp]theorem afQ (off:Nat) (x:X):PK E O n Q (.ops m (⟨none,d,.fa off x⟩::l) ks) fr h↔P1 E O n Q (PX h off (eT fr x)) d m l ks fr h:=mZ rfl rfl rfl
@[simp]theorem afR (sz:Nat) (x i:X):PK E O n Q (.ops m (⟨none,d,.ia sz x i⟩::l) ks) fr h↔P1 E O n Q (To h sz (eT fr x) (eT fr i)) d m l ks fr h:=mZ rfl rfl rfl
@[simp]theorem acy (len sz:Nat) (x i:X):PK E O n Q (.ops m (⟨none,d,.oA len sz x i⟩::l) ks) fr h↔P1 E O n Q (ET h len sz (eT fr x) (eT fr i)) d m l ks fr h:=mZ rfl rfl rfl
@[simp]theorem acz (x:X) (i:Nat):PK E O n Q (.ops m (⟨none,d,.ext x i⟩::l) ks) fr h↔P1 E O n Q (Jc (eT fr x) i) d m l ks fr h:=mZ rfl rfl rfl
@[simp]theorem acA (sz bytes:Nat) (s x:X):PK E O n Q (.ops m (⟨none,d,.app sz bytes s x⟩::l) ks) fr h↔PO E O n Q (rQ sz bytes h (eT fr s) (eT fr x)) (vX (.app sz bytes s x) (eT fr)) d m l ks fr:=oV rfl
@[simp]theorem WH (x:X):PK E O n Q (.ops m (⟨none,d,.jn x⟩::l) ks) fr h↔P1 E O n Q (zJ h (eT fr x)) d m l ks fr h:=mZ rfl rfl rfl
@[simp]theorem acB (neg:Bool) (offs:List (Nat×Nat)) (x y:X):PK E O n Q (.ops m (⟨none,d,.eqs neg offs x y⟩::l) ks) fr h↔P1 E O n Q (Je neg offs (eT fr x) (eT fr y)) d m l ks fr h:=mZ rfl rfl rfl
theorem q7 {f:Nat} {«as»:List X} {args:List PV} {W:List Nat} (ha:«as».map (eT fr)=args) (k:GN E O f args h (· ∈W) (fun r h'=>PK E O n Q (.ops (m.up W (fr.aM d r) h') l ks) (fr.aM d r) h')):PK E O n Q (.ops m (⟨none,d,.call f «as»⟩::l) ks) fr h:=
 .call (ha▸k) fun _ _ q=>q
end
theorem Fm {sz bytes b n k:Nat} {h:PH} {x:PV} {cs new:List PV} (hb:h[b]?=some (.cells sz cs)) (hn:n*sz=cs.length) (h0:0<sz) (hk:nV x=some k) (hx:hZ h sz k x=some new) (hl:new.length=k*sz) (hv:hY h x=true) (GF:(n+k)*bytes≤2^47) (qD:n+k<2^62):
 rQ sz bytes h (.sl sz b 0 n n) x=some (.sl sz b 0 (n+k) (n+k),h.set b (.cells sz (cs++new))):=by
 have dm:=(alT.1 hb).1
 unfold rQ
 rw [hk]
 simp only
 by_cases k0:k=0
 ·subst k0
  have:new=[]:=List.length_eq_zero_iff.1 (by simpa using hl)
  subst this
  have e:h.set b (.cells sz cs)=h:=by
   apply List.ext_getElem?
   intro i
   rw [List.getElem?_set]
   by_cases hi:b=i
   ·subst hi;rw [if_pos rfl,if_pos dm,hb]
   ·rw [if_neg hi]
  simp [hv,hb,hn,e]
 ·rw [if_neg k0,hx]
  simp only [hb]
  rw [if_pos ⟨trivial,trivial,h0,by simpa using hn,alR _,GF,qD⟩]
  by_cases n0:n=0
  ·subst n0
   have:cs=[]:=List.length_eq_zero_iff.1 (by simpa using hn.symm)
   subst this
   simp
  ·rw [if_neg n0,if_neg (by omega),if_pos trivial,alU (by omega)]
theorem k8 {E:Env} {O:iq} {n:Nat} {Q:Ex→PF→PH→Prop} {ks:List Kp} {fr:PF} {m:Mp} {l:List AO} {d:Option Nat} {V:List Nat} {sz bytes b j k:Nat} {h:PH} {x:PV} {cs new:List PV} (hb:h[b]?=some (.cells sz cs)) (hk:nV x=some k) (hx:hZ h sz k x=some new) (hn:j*sz=cs.length) (h0:0<sz) (hl:new.length=k*sz) (hv:hY h x=true) (GF:(j+k)*bytes≤2^47) (qD:j+k<2^62)
 (next:PK E O n Q (.ops (m.up V (fr.aM d (.sl sz b 0 (j+k) (j+k))) (h.set b (.cells sz (cs++new)))) l ks) (fr.aM d (.sl sz b 0 (j+k) (j+k))) (h.set b (.cells sz (cs++new)))):PO E O n Q (rQ sz bytes h (.sl sz b 0 j j) x) V d m l ks fr:=by
 rw [Fm hb hn h0 hk hx hl hv GF qD]
 exact (TF _ _ _).2 next
attribute [simp] vW PY ES K5 tQ NS zI I7 I8 I9 tR Wh Ja Jb PX eh To ET pix Jc EU nV zJ zK EV K6 Tp hZ zL EW Jd NT Tq BC Je Jf cL mW rP vX hY so x8 tV.all tV.get mY
end Go.Proofs.YtppcmpmnglaleaaGreatDoor.A.P
namespace Go.Proofs.YtppcmpmnglaleaaGreatDoor.A.P
open Go Go.RowKit
def add (F:Nat→Prop) (h:PH) (φ:Nat→Nat) (A:Nat→Prop):Nat→Prop:=fun y=>F y∨∃b,A b∧bo h b∧φ b=y
def Vz (A:Nat→Prop) (h:PH) (p q:PV):Prop:=∀F H φ x,dx ⟨F,H,φ,h⟩→RV ⟨F,H,φ,h⟩ p x→RF (add F h φ A) H q x
def BF (A:Nat→Prop) (h:PH):List PV→List PV→Prop
 |[],[]=>True
 |p::ps,q::qs=>Vz A h p q∧BF A h ps qs
 |_,_=>False
def Vg (A:Nat→Prop) (σ:Nat→Nat) (h bs:PH) (p q:PV):Prop:=∀F H φ x,dx ⟨F,H,φ,h⟩→RV ⟨F,H,φ,h⟩ p x→RV ⟨add F h φ A,H,fun i=>φ (σ i),bs⟩ q x
def nc (A:Nat→Prop) (σ:Nat→Nat) (h bs:PH):List PV→List PV→Prop
 |[],[]=>True
 |p::ps,q::qs=>Vg A σ h bs p q∧nc A σ h bs ps qs
 |_,_=>False
variable{A:Nat→Prop} {σ:Nat→Nat} {h bs:PH}
theorem BF.ok:∀{ps qs:List PV},BF A h ps qs→∀{F H φ xs},dx ⟨F,H,φ,h⟩→cx ⟨F,H,φ,h⟩ ps xs→fN (add F h φ A) H qs xs
 |[],[],_,F,H,φ,_,S,.nil=>.nil
 |p::ps,q::qs,⟨a,b⟩,F,H,φ,_,S,.cons r s=>.cons (a F H φ _ S r) (BF.ok b S s)
theorem nc.ok:∀{ps qs:List PV},nc A σ h bs ps qs→∀{F H φ xs},dx ⟨F,H,φ,h⟩→cx ⟨F,H,φ,h⟩ ps xs→cx ⟨add F h φ A,H,fun i=>φ (σ i),bs⟩ qs xs
 |[],[],_,F,H,φ,_,S,.nil=>.nil
 |p::ps,q::qs,⟨a,b⟩,F,H,φ,_,S,.cons r s=>.cons (a F H φ _ S r) (nc.ok b S s)
theorem Fp {F:Nat→Prop} {H:AH} {φ:Nat→Nat} (x:Nat) (hx:F x):add F h φ A x∧H.get x=H.get x:=⟨.inl hx,rfl⟩
theorem Oc (x:Value):Vz A h (.v x) (.v x):=fun F H φ y S R=>by cases R;exact .v _
theorem Fq (sz:Nat) (rows:List (List PV)):Vz A h (.fs sz rows) (.fs sz rows):=fun F H φ y S R=>by cases R with|fs q=>exact q.mono rfl Fp
theorem Fs (sz:Nat):Vz A h (.v (.slice none 0 0)) (.fs sz []):=fun F H φ y S R=>by
 cases R
 exact .fs (rows:=[]) (rs:=[]) ⟨_,_,rfl,by simp⟩ (Nat.zero_le _) (fun d hd=>by cases hd) .nil
theorem jB.of_flat {F:Nat→Prop} {H:AH} {sz:Nat}:∀{rows:List (List PV)} {ys:List Value},fN F H rows.flatten ys→(∀r∈rows,r.length=sz)→∃rs,jB F H rows rs∧rs.flatten=ys∧∀r∈rs,r.length=sz
 |[],ys,h,_=>by cases h;exact ⟨[],.nil,rfl,by simp⟩
 |r::rows,ys,h,hl=>by
  rw [List.flatten_cons]at h
  have h1:fN F H r (ys.take sz):=by have:=h.take r.length;rwa [List.take_left,hl r (by simp)]at this
  have h2:fN F H rows.flatten (ys.drop sz):=by have:=h.drop r.length;rwa [List.drop_left,hl r (by simp)]at this
  obtain ⟨rs,a,b,c⟩:=jB.of_flat h2 fun q hq=>hl q (by simp [hq])
  refine ⟨ys.take sz::rs,.cons h1 a,by rw [List.flatten_cons,b,List.take_append_drop],fun q hq=>?_⟩
  rcases List.mem_cons.1 hq with rfl|hq
  ·rw [←h1.length,hl r (by simp)]
  ·exact c q hq
theorem Lb {sz b o n c z:Nat} {cs:List PV} {rows:List (List PV)} (hA:A b) (hb:h[b]?=some (.cells z cs)) (ht:(o+c)*sz=cs.length) (h0z:0<sz) (hz:sz≤z) (hn:n≤c) (hl:rows.length=n) (hr:∀r∈rows,r.length=sz) (hv:BF A h ((cs.drop (o*sz)).take (n*sz)) rows.flatten):Vz A h (.sl sz b o n c) (.fs sz rows):=fun F H φ x S R=>by
 rcases qY R hb ht with⟨rfl,rfl,d,rfl,hd⟩|⟨hc,rfl⟩
 ·obtain rfl:rows=[]:=List.length_eq_zero_iff.1 hl
  exact .fs (rows:=[]) (rs:=[]) ⟨_,_,rfl,by simp⟩ (Nat.zero_le _) (fun e he=>⟨.inr rfl,.inl rfl⟩) .nil
 ·have gF:cs≠[]:=by
   rintro rfl
   have:=Nat.mul_pos (show 0<o+c by omega) h0z
   simp at ht
   omega
  obtain ⟨vs,hg,uA,h0⟩:=S.cells (t:=0) hb (List.length_pos_iff.2 gF)
  have lW:=uA.length
  obtain ⟨rs,a1,a2,a3⟩:=jB.of_flat (hv.ok S ((uA.drop (o*sz)).take (n*sz))) hr
  have xR:=a1.length
  have adn:(o+c)*sz=o*sz+c*sz:=Nat.add_mul ..
  rw [←hl]
  refine .fs (rs:=rs) ⟨_,_,by rw [xR],fun i r hi=>⟨_,_,rfl,?_⟩⟩ (by omega) (fun e he=>?_) a1
  ·obtain ⟨e1,e2⟩:=gu a3 hi
   have hil:=(alT.1 hi).1
   have m1:(i+1)*sz≤n*sz:=Nat.mul_le_mul_right _ (by omega)
   have m2:n*sz≤c*sz:=Nat.mul_le_mul_right _ hn
   rw [Nat.succ_mul]at m1
   rw [bk hg h0 (by omega),←e1,a2,List.drop_take,List.drop_drop,List.take_take,Nat.min_eq_left (by omega)]
  ·cases he
   refine ⟨.inl rfl,?_⟩
   by_cases mu:n=0
   ·left;omega
   ·right
    refine ⟨.inr ⟨b,hA,bY hb gF,rfl⟩,?_⟩
    unfold AH.jm
    rw [hg]
    simp [hz]
theorem ye {p q:PV} (k:Vz A h p q):Vg A σ h bs p q:=fun F H φ x S R=>(k F H φ x S R).oR (C:=⟨_,_,_,_⟩)
theorem Od (p:PV):Vg A σ h bs p .any:=fun F H φ x S R=>.any x
@[simp]theorem acD (x:Value):Vg A σ h bs (.v x) (.v x)↔True:=⟨fun _=>trivial,fun _=>ye (Oc x)⟩
@[simp]theorem TK (sz:Nat) (rows:List (List PV)):Vg A σ h bs (.fs sz rows) (.fs sz rows)↔True:=⟨fun _=>trivial,fun _=>ye (Fq sz rows)⟩
@[simp]theorem Oe (sz:Nat):Vg A σ h bs (.v (.slice none 0 0)) (.fs sz [])↔True:=⟨fun _=>trivial,fun _=>ye (Fs sz)⟩
@[simp]theorem afS (x:Value):Vz A h (.v x) (.v x)↔True:=⟨fun _=>trivial,fun _=>Oc x⟩
@[simp]theorem acE (sz:Nat) (rows:List (List PV)):Vz A h (.fs sz rows) (.fs sz rows)↔True:=⟨fun _=>trivial,fun _=>Fq sz rows⟩
@[simp]theorem WJ (sz:Nat):Vz A h (.v (.slice none 0 0)) (.fs sz [])↔True:=⟨fun _=>trivial,fun _=>Fs sz⟩
@[simp]theorem WK:BF A h [] []↔True:=Iff.rfl
@[simp]theorem TM (p q:PV) (ps qs:List PV):BF A h (p::ps) (q::qs)↔Vz A h p q∧BF A h ps qs:=Iff.rfl
@[simp]theorem WL:nc A σ h bs [] []↔True:=Iff.rfl
@[simp]theorem Ft (p q:PV) (ps qs:List PV):nc A σ h bs (p::ps) (q::qs)↔Vg A σ h bs p q∧nc A σ h bs ps qs:=Iff.rfl
@[simp]theorem TN (cells:List PV):Vg A σ h bs (.fp cells) (.fp cells)↔True:=⟨fun _=>trivial,fun _ F H φ x S R=>by
 cases R with|fp a b c=>exact .fp (.inl a) b (c.mono rfl Fp)⟩
theorem Fu {ps qs:List PV} (k:nc A σ h bs ps qs):Vg A σ h bs (.agg ps) (.agg qs):=fun F H φ x S R=>by cases R with|agg r=>exact .agg (k.ok S r)
theorem yf {ps qs:List PV} (k:nc A σ h bs ps qs):Vg A σ h bs (.fJ ps) (.fJ qs):=fun F H φ x S R=>by cases R with|fJ r=>exact .fJ (k.ok S r)
theorem TO {f:Nat} {ps qs ps' qs':List PV} (k:nc A σ h bs ps qs) (k':nc A σ h bs ps' qs'):Vg A σ h bs (.fn f ps ps') (.fn f qs qs'):=fun F H φ x S R=>by cases R with|fn r r'=>exact .fn (k.ok S r) (k'.ok S r')
theorem Of {t:Nat} {p q:PV} (k:Vg A σ h bs p q):Vg A σ h bs (.pK t p) (.pK t q):=fun F H φ x S R=>by cases R with|pK r=>exact .pK (k F H φ _ S r)
theorem ng {h:PH} {b T t:Nat} (e:eh h b=some T):At h b t↔T=t:=by
 unfold eh at e
 split at e
 ·rename_i z cs hh
  cases e
  constructor
  ·rintro ⟨z',cW,e,rfl⟩;rw [hh]at e;cases e;rfl
  ·rintro rfl;exact ⟨z,cs,hh,rfl⟩
 ·cases e
theorem nh {h:PH} {b T t:Nat} (e:eh h b=some T):Le h b t↔t≤T:=by
 unfold eh at e
 split at e
 ·rename_i z cs hh
  cases e
  exact ⟨fun k=>k z cs hh,fun k z' cW e=>by rw [hh]at e;cases e;exact k⟩
 ·cases e
theorem tY {h:PH} {b T:Nat} (e:eh h b=some T):b<h.length:=by
 unfold eh at e
 split at e
 ·rename_i z cs hh;exact (alT.1 hh).1
 ·cases e
theorem Og {b i o t T:Nat} (h1:eh h b=some T) (h2:eh bs i=some T) (hs:σ i=b):Vg A σ h bs (.ref b o t) (.ref i o t):=fun F H φ x S R=>by
 cases R with|ref a hb hl ha=>
 subst hs
 refine .ref a (tY h2) ((nh h2).2 ((nh h1).1 hl)) fun k=>?_
 exact ha ((ng h1).2 ((ng h2).1 k))
theorem TP {b i sz o n c T:Nat} (h1:eh h b=some T) (h2:eh bs i=some T) (hs:σ i=b):Vg A σ h bs (.sl sz b o n c) (.sl sz i o n c):=fun F H φ x S R=>by
 cases R with|sl a hb hl ha=>
 subst hs
 refine .sl a (tY h2) ((nh h2).2 ((nh h1).1 hl)) fun k=>?_
 exact ha ((ng h1).2 ((ng h2).1 k))
theorem Jx {sz i z:Nat} (h2:bs[i]?=some (.cells z [])):Vg A σ h bs (.v (.slice none 0 0)) (.sl sz i 0 0 0):=fun F H φ x S R=>by
 cases R
 have e:eh bs i=some 0:=by unfold eh;rw [h2];rfl
 exact .sl ⟨_,_,rfl⟩ (tY e) ((nh e).2 (by simp)) fun _=>.inl ⟨rfl,rfl,none,rfl,by simp⟩
def oW (A:Nat→Prop) (σ:Nat→Nat) (h bs:PH) (o:Option PB):PB→Prop
 | .cells z qs=>qs=[]∨∃ps,o=some (.cells z ps)∧nc A σ h bs ps qs
 | .map fs=>∃es,o=some (.map es)∧es.map (·.1)=fs.map (·.1)∧nc A σ h bs (es.map (·.2)) (fs.map (·.2))
 | .dead=>True
structure kB (A:Nat→Prop) (σ:Nat→Nat) (h bs:PH):Prop where
 aN:∀i P,bs[i]?=some P→oW A σ h bs h[σ i]? P
 inj:∀i j,i<bs.length→j<bs.length→bo bs i→bo bs j→σ i=σ j→i=j
 off:∀i,i<bs.length→bo bs i→¬ A (σ i)
theorem nc.length:∀{ps qs:List PV},nc A σ h bs ps qs→ps.length=qs.length
 |[],[],_=>rfl
 |_::_,_::_,⟨_,b⟩=>by simp [nc.length b]
theorem kB.bo (K:kB A σ h bs) {i:Nat} (s:P.bo bs i):P.bo h (σ i):=by
 rcases jl s with⟨es,e⟩|⟨z,cs,e,hc⟩
 ·obtain ⟨es',e',_⟩:=K.aN i _ e
  exact eG e'
 ·rcases K.aN i _ e with q|⟨ps,e',hv⟩
  ·exact absurd q hc
  ·exact bY e' (by rintro rfl;have:=hv.length;exact hc (List.length_eq_zero_iff.1 this.symm))
theorem kB.ok (K:kB A σ h bs) {F:Nat→Prop} {H:AH} {φ:Nat→Nat} (S:dx ⟨F,H,φ,h⟩):dx ⟨add F h φ A,H,fun i=>φ (σ i),bs⟩where
 wf:=S.wf
 fz:=fun x hx=>by
  rcases hx with hx|⟨b,_,hs,rfl⟩
  ·exact S.fz x hx
  ·exact S.lt hs
 inj:=fun i j s t e=>K.inj i j (bF s) (bF t) s t (S.inj _ _ (K.bo s) (K.bo t) e)
 aN:=fun i z qs e hc=>by
  have s:=bY e hc
  rcases K.aN i _ e with q|⟨ps,e',hv⟩
  ·exact absurd q hc
  obtain ⟨vs,a,b,c,d⟩:=S.aN (σ i) z ps e' (by rintro rfl;have:=hv.length;exact hc (List.length_eq_zero_iff.1 this.symm))
  refine ⟨vs,a,hv.ok S b,c,?_⟩
  rintro (q|⟨b',ha,hs,e2⟩)
  ·exact d q
  ·exact K.off i (bF s) s (S.inj _ _ hs (K.bo s) e2▸ha)
 x7:=fun i fs e=>by
  have s:=eG e
  obtain ⟨es,e',hk,hv⟩:=K.aN i _ e
  obtain ⟨ys,a,b,c,d,g⟩:=S.x7 (σ i) es e'
  refine ⟨ys,a,hk.symm.trans b,hv.ok S c,d,?_⟩
  rintro (q|⟨b',ha,hs,e2⟩)
  ·exact g q
  ·exact K.off i (bF s) s (S.inj _ _ hs (K.bo s) e2▸ha)
theorem kB.none (A:Nat→Prop) (σ:Nat→Nat) (h:PH):kB A σ h []:=⟨fun i P e=>by simp at e,fun i j hi=>by simp at hi,fun i hi=>by simp at hi⟩
mutual
def sh (k:Nat):PV→PV
 | .ref b o t=>.ref (b+k) o t
 | .sl sz b o n c=>.sl sz (b+k) o n c
 | .mp b=>.mp (b+k)
 | .agg cs=>.agg (w9 k cs)
 | .fJ cs=>.fJ (w9 k cs)
 | .fn f a b=>.fn f (w9 k a) (w9 k b)
 | .pK t p=>.pK t (sh k p)
 | .v x=>.v x
 | .fs sz rows=>.fs sz rows
 | .fp cells=>.fp cells
 | .any=>.any
def w9 (k:Nat):List PV→List PV
 |[]=>[]
 |p::ps=>sh k p::w9 k ps
end
def rH (k:Nat):PB→PB
 | .cells z cs=>.cells z (w9 k cs)
 | .map es=>.map (es.map fun e=>(e.1,sh k e.2))
 | .dead=>.dead
theorem ie (k:Nat):∀l:List PV,(w9 k l).length=l.length
 |[]=>rfl
 |_::l=>by simp [w9,ie k l]
theorem zY (k:Nat):∀es:List (Value×PV),(es.map fun e=>(e.1,sh k e.2)).map (·.2)=w9 k (es.map (·.2))
 |[]=>rfl
 |_::l=>by simp only [List.map_cons,w9,zY k l]
theorem ni {h bs:PH} (b:Nat):(h++bs.map (rH h.length))[b+h.length]?=(bs[b]?).map (rH h.length):=by
 rw [List.getElem?_append_right (by omega),Nat.add_sub_cancel,List.getElem?_map]
theorem Fv {h bs:PH} {b t:Nat}:At (h++bs.map (rH h.length)) (b+h.length) t↔At bs b t:=by
 unfold At
 rw [ni]
 constructor
 ·rintro ⟨z,cs,e,rfl⟩
  obtain ⟨P,hP,e⟩:=alX.1 e
  cases P with
  |cells z' cW=>cases e;exact ⟨_,cW,hP,(ie _ _).symm⟩
  |_=>cases e
 ·rintro ⟨z,cs,e,rfl⟩
  exact ⟨z,w9 h.length cs,by rw [e];rfl,ie _ _⟩
theorem Lc {h bs:PH} {b t:Nat}:Le (h++bs.map (rH h.length)) (b+h.length) t↔Le bs b t:=by
 unfold Le
 rw [ni]
 constructor
 ·intro k z cs e
  have:=k z (w9 h.length cs) (by rw [e];rfl)
  rwa [ie]at this
 ·intro k z cs e
  obtain ⟨P,hP,e⟩:=alX.1 e
  cases P with
  |cells z' cW=>cases e;rw [ie];exact k _ cW hP
  |_=>cases e
theorem wg {h bs:PH} {b:Nat}:jk (h++bs.map (rH h.length)) (b+h.length)↔jk bs b:=by
 unfold jk
 rw [ni]
 constructor
 ·rintro ⟨es,e⟩
  obtain ⟨P,hP,e⟩:=alX.1 e
  cases P with
  |map es'=>exact ⟨es',hP⟩
  |_=>cases e
 ·rintro ⟨es,e⟩
  exact ⟨_,by rw [e];rfl⟩
theorem Fw {h bs:PH} {b:Nat}:bo (h++bs.map (rH h.length)) (b+h.length)↔bo bs b:=by
 unfold bo
 simp only [wg,Fv]
def join (h:PH) (φ ψ:Nat→Nat):Nat→Nat:=fun b=>if b<h.length then φ b else ψ (b- h.length)
theorem pN (h:PH) (φ ψ:Nat→Nat) (b:Nat):join h φ ψ (b+h.length)=ψ b:=by
 unfold join
 rw [if_neg (by omega),Nat.add_sub_cancel]
theorem tZ {h:PH} {φ ψ:Nat→Nat} {b:Nat} (hb:b<h.length):join h φ ψ b=φ b:=if_pos hb
theorem Fx {h bs:PH} {b:Nat} (hb:b<bs.length):b+h.length<(h++bs.map (rH h.length)).length:=by
 rw [alW,List.length_map];omega
mutual
theorem zZ {F:Nat→Prop} {H:AH} {φ ψ:Nat→Nat} {h bs:PH}:∀{p:PV} {x:Value},RV ⟨F,H,ψ,bs⟩ p x→RV ⟨F,H,join h φ ψ,h++bs.map (rH h.length)⟩ (sh h.length p) x
 |_,_, .v x=> .v x
 |_,_, .ref a hb hl ha=> .ref a (Fx hb) (Lc.2 hl) fun k=>by
  have:=ha (Fv.1 k)
  simpa [pN]using this
 |_,_, .sl a hb hl ha=> .sl a (Fx hb) (Lc.2 hl) fun k=>by
  have:=ha (Fv.1 k)
  simpa [pN]using this
 |_,_, .mp a hb ha=> .mp a (Fx hb) fun k=>by
  have:=ha (wg.1 k)
  simpa [pN]using this
 |_,_, .fs k=> .fs k
 |_,_, .fp a b c=> .fp a b c
 |_,_, .agg k=> .agg (mf k)
 |_,_, .fJ k=> .fJ (mf k)
 |_,_, .fn a b=> .fn (mf a) (mf b)
 |_,_, .pK a=> .pK (zZ a)
 |_,_, .any x=> .any x
theorem mf {F:Nat→Prop} {H:AH} {φ ψ:Nat→Nat} {h bs:PH}:∀{p:List PV} {x:List Value},cx ⟨F,H,ψ,bs⟩ p x→cx ⟨F,H,join h φ ψ,h++bs.map (rH h.length)⟩ (w9 h.length p) x
 |_,_, .nil=> .nil
 |_,_, .cons a b=> .cons (zZ a) (mf b)
end
end Go.Proofs.YtppcmpmnglaleaaGreatDoor.A.P
namespace Go.Proofs.YtppcmpmnglaleaaGreatDoor.A.P
open Go Go.RowKit
variable{E:Env} {O:iq}
def dI (h:PH):List Nat→PH
 |[]=>h
 |b::L=>dI (h.set b .dead) L
theorem gw:∀(L:List Nat) (h:PH),(dI h L).length=h.length
 |[],h=>rfl
 |b::L,h=>by rw [dI,gw L];simp
theorem lb:∀(L:List Nat) (h:PH) (c:Nat),(dI h L)[c]?=if c∈L∧c<h.length then some .dead else h[c]?
 |[],h,c=>by simp [dI]
 |b::L,h,c=>by
  rw [dI,lb L]
  by_cases hc:c<h.length
  ·by_cases h1:c∈L
   ·simp [h1,hc]
   ·by_cases h2:c=b
    ·subst h2;simp [h1,hc]
    ·rw [if_neg (fun q=>h1 q.1),if_neg (fun q=>(List.mem_cons.1 q.1).elim h2 h1),eo h2]
  ·rw [if_neg (by simp;omega),if_neg (by simp;omega),List.getElem?_eq_none (by simp;omega),List.getElem?_eq_none (by omega)]
theorem ig {h:PH} {L:List Nat} {b:Nat} (s:bo (dI h L) b):bo h b∧b∉L:=by
 have hb:=bF s
 rw [gw]at hb
 have e:=lb L h b
 by_cases hL:b∈L
 ·rw [if_pos ⟨hL,hb⟩]at e
  rcases jl s with⟨es,e'⟩|⟨z,cs,e',_⟩<;>rw [e]at e'<;>cases e'
 ·rw [if_neg (fun q=>hL q.1)]at e
  exact ⟨(dZ e).1 s,hL⟩
theorem BG {F:Nat→Prop} {H:AH} {φ:Nat→Nat} {h:PH} (S:dx ⟨F,H,φ,h⟩) (L:List Nat):dx ⟨add F h φ (· ∈L),H,φ,dI h L⟩∧cH h.length (fun _=>False) ⟨F,H,φ,h⟩ ⟨add F h φ (· ∈L),H,φ,dI h L⟩:=by
 have same:∀b,b∉L→(dI h L)[b]?=h[b]?:=fun b hb=>by rw [lb,if_neg (fun q=>hb q.1)]
 have dead:∀b,b∈L→b<h.length→(dI h L)[b]?=some .dead:=fun b hb hl=>by rw [lb,if_pos ⟨hb,hl⟩]
 have T:cH h.length (fun _=>False) ⟨F,H,φ,h⟩ ⟨add F h φ (· ∈L),H,φ,dI h L⟩:={
  n0:=rfl
  nx:=alR _
  fz:=fun x hx=>⟨.inl hx,rfl⟩
  fo:=fun x hx hi hd=>by
   rcases hd with hd|⟨b,_,s,rfl⟩
   ·exact hd
   ·exact absurd ⟨b,trivial,s,rfl⟩ hi
  out:=fun _ _ _=>rfl
  loc:=fun b hb=>.inr ⟨(ig hb).1,rfl⟩
  len:=fun k=>by rw [gw];exact k
  le:=fun b _ hl t ht=>by
   by_cases hb:b∈L
   ·intro z cs e;rw [dead b hb hl]at e;cases e
   ·exact (qW (same b hb)).2 ht
  uE:=fun b _ hl t _ ha=>by
   by_cases hb:b∈L
   ·obtain ⟨z,cs,e,_⟩:=ha;rw [dead b hb hl]at e;cases e
   ·exact ⟨(qV (same b hb)).1 ha,rfl⟩
  vV:=fun b _ hl ha=>by
   by_cases hb:b∈L
   ·obtain ⟨es,e⟩:=ha;rw [dead b hb hl]at e;cases e
   ·exact ⟨(hU (same b hb)).1 ha,rfl⟩}
 have nF:∀b,bo h b→b∉L→¬ add F h φ (· ∈L) (φ b):=by
  rintro b s hb (q|⟨b',jW,s',e⟩)
  ·exact (S.old s).2 q
  ·exact hb (S.inj _ _ s' s e▸jW)
 refine ⟨⟨S.wf,fun x hx=>?_,fun b b' s s' e=>S.inj _ _ (ig s).1 (ig s').1 e,fun b z cs e hc=>?_,fun b es e=>?_⟩,T⟩
 ·rcases hx with hx|⟨b,_,s,rfl⟩
  ·exact S.fz x hx
  ·exact S.lt s
 ·obtain ⟨s,hb⟩:=ig (bY e hc)
  rw [show(dI h L)[b]?=_ from same b hb]at e
  obtain ⟨vs,a,b',c,_⟩:=S.aN b z cs e hc
  exact ⟨vs,a,b'.step T,c,nF b s hb⟩
 ·obtain ⟨s,hb⟩:=ig (eG e)
  rw [show(dI h L)[b]?=_ from same b hb]at e
  obtain ⟨ys,a,b',c,d,_⟩:=S.x7 b es e
  exact ⟨ys,a,b',c.step T,d,nF b s hb⟩
theorem Aa {F F':Nat→Prop} {H H':AH} {φ ψ:Nat→Nat} {h bs:PH} {W:Nat→Prop} (S:dx ⟨F,H,φ,h⟩) (SB:dx ⟨F',H',ψ,bs⟩) (T:cH 0 rR ⟨F,H,φ,[]⟩ ⟨F',H',ψ,bs⟩):
 dx ⟨F',H',join h φ ψ,h++bs.map (rH h.length)⟩∧cH h.length W ⟨F,H,φ,h⟩ ⟨F',H',join h φ ψ,h++bs.map (rH h.length)⟩:=by
 have TQ:∀{V:Nat→Prop} {x:Nat},¬ im ⟨F,H,φ,[]⟩ V x:=by
  rintro V x ⟨b,_,s,_⟩
  have:=bF s
  simp at this
 have same:∀x,x<H.nx→H'.get x=H.get x:=fun x hx=>T.out x hx TQ
 have fo:∀x,x<H.nx→F' x→F x:=fun x hx hf=>T.fo x hx TQ hf
 have lo:∀{b},b<h.length→(h++bs.map (rH h.length))[b]?=h[b]?:=fun hb=>al0 hb
 have new:∀b,bo bs b→H.nx≤ψ b:=fun b s=>by
  rcases T.loc b s with q|⟨q,_⟩
  ·exact q
  ·have:=bF q;simp at this
 have split:∀b,bo (h++bs.map (rH h.length)) b→(b<h.length∧bo h b∧join h φ ψ b=φ b)∨∃c,b=c+h.length∧bo bs c∧join h φ ψ b=ψ c:=by
  intro b s
  by_cases hb:b<h.length
  ·exact .inl ⟨hb,(dZ (lo hb)).1 s,tZ hb⟩
  ·refine .inr ⟨b- h.length,by omega,?_,?_⟩
   ·rw [show b=(b- h.length)+h.length by omega]at s
    exact Fw.1 s
   ·rw [show b=(b- h.length)+h.length by omega,pN,Nat.add_sub_cancel]
 have T2:cH h.length W ⟨F,H,φ,h⟩ ⟨F',H',join h φ ψ,h++bs.map (rH h.length)⟩:={
  n0:=T.n0
  nx:=T.nx
  fz:=T.fz
  fo:=fun x hx _ hf=>fo x hx hf
  out:=fun x hx _=>same x hx
  loc:=fun b hb=>by
   rcases split b hb with⟨h1,h2,h3⟩|⟨c,rfl,h2,h3⟩
   ·exact .inr ⟨h2,h3⟩
   ·left;show _≤join h φ ψ _;rw [h3];exact new c h2
  len:=fun _=>by simp
  le:=fun b hb _ t ht=>(qW (lo hb)).2 ht
  uE:=fun b hb _ t _ ha=>⟨(qV (lo hb)).1 ha,tZ hb⟩
  vV:=fun b hb _ ha=>⟨(hU (lo hb)).1 ha,tZ hb⟩}
 refine ⟨⟨SB.wf,SB.fz,fun b b' s s' e=>?_,fun b z cs e hc=>?_,fun b es e=>?_⟩,T2⟩
 ·dsimp only at e
  rcases split b s with⟨h1,h2,h3⟩|⟨c,rfl,h2,h3⟩
  ·rcases split b' s' with⟨g1,g2,g3⟩|⟨c',rfl,g2,g3⟩
   ·rw [h3,g3]at e;exact S.inj _ _ h2 g2 e
   ·rw [h3,g3]at e
    have a1:φ b<H.nx:=S.lt h2
    have:=new c' g2
    omega
  ·rcases split b' s' with⟨g1,g2,g3⟩|⟨c',rfl,g2,g3⟩
   ·rw [h3,g3]at e
    have a1:φ b'<H.nx:=S.lt g2
    have:=new c h2
    omega
   ·rw [h3,g3]at e
    rw [SB.inj _ _ h2 g2 e]
 ·rcases split b (bY e hc)with⟨h1,h2,h3⟩|⟨c,rfl,h2,h3⟩
  ·have e':=e
   rw [show(h++bs.map (rH h.length))[b]?=_ from lo h1]at e'
   obtain ⟨vs,k1,k2,k3,k4⟩:=S.aN b z cs e' hc
   dsimp only
   rw [h3]
   exact ⟨vs,(same _ (S.lt h2)).trans k1,k2.step T2,T.n0▸k3,fun q=>k4 (fo _ (S.lt h2) q)⟩
  ·have e':=e
   rw [show(h++bs.map (rH h.length))[c+h.length]?=_ from ni c]at e'
   obtain ⟨P,hP,e2⟩:=alX.1 e'
   cases P with
   |cells z' cW=>
    cases e2
    obtain ⟨vs,k1,k2,k3,k4⟩:=SB.aN c _ cW hP (by rintro rfl;exact hc rfl)
    dsimp only
    rw [h3]
    exact ⟨vs,k1,mf k2,k3,k4⟩
   |_=>cases e2
 ·rcases split b (eG e)with⟨h1,h2,h3⟩|⟨c,rfl,h2,h3⟩
  ·have e':=e
   rw [show(h++bs.map (rH h.length))[b]?=_ from lo h1]at e'
   obtain ⟨ys,k1,k2,k3,k4,k5⟩:=S.x7 b es e'
   dsimp only
   rw [h3]
   exact ⟨ys,(same _ (S.lt h2)).trans k1,k2,k3.step T2,T.n0▸k4,fun q=>k5 (fo _ (S.lt h2) q)⟩
  ·have e':=e
   rw [show(h++bs.map (rH h.length))[c+h.length]?=_ from ni c]at e'
   obtain ⟨P,hP,e2⟩:=alX.1 e'
   cases P with
   |map es'=>
    cases e2
    obtain ⟨ys,k1,k2,k3,k4,k5⟩:=SB.x7 c es' hP
    dsimp only
    rw [h3]
    refine ⟨ys,k1,?_,?_,k4,k5⟩
    ·rw [←k2];simp [List.map_map,Function.comp_def]
    ·rw [zY];exact mf k3
   |_=>cases e2
theorem rS.pure {f:Nat} {args oX:List PV} {h:PH} (L:List Nat) {R:PV→PH→Prop} (k:rS E O f oX [] R) (hv:nc (· ∈L) id h [] args oX):
 GN E O f args h (· ∈[]) (fun r h'=>∃r0 bs,R r0 bs∧r=sh h.length r0∧h'=dI h L++bs.map (rH h.length)):=by
 intro F H φ vs S Rv
 obtain ⟨S1,T1⟩:=BG S L
 have S0:=(kB.none (· ∈L) id h).ok S
 refine (k _ H _ vs S0 (hv.ok S Rv)).mono ?_
 rintro x H' ⟨r0,bs,F',ψ,hR,hr,SB,T⟩
 obtain ⟨SD,TD⟩:=Aa (W:=(· ∈[])) S1 SB T
 have hl:=gw L h
 rw [hl]at SD TD
 refine ⟨_,_,F',_,⟨r0,bs,hR,rfl,rfl⟩,?_,SD,(T1.trans TD (by exact alR _) (fun _ q=>q.elim) (fun _ q=>q))⟩
 have:=zZ (φ:=φ) (h:=dI h L) hr
 rw [hl]at this
 exact this
mutual
def q8:PV→Bool
 | .v _=>true
 | .agg cs=>jD cs
 | .fJ cs=>jD cs
 | .pK _ p=>q8 p
 |_=>false
def jD:List PV→Bool
 |[]=>true
 |p::ps=>q8 p&&jD ps
end
mutual
theorem wj {C D:Cx}:∀{p:PV} {x:Value},q8 p=true→RV C p x→RV D p x
 |_,_,_,.v x=>.v x
 |_,_,k,.agg r=>.agg (lg (by simpa [q8]using k) r)
 |_,_,k,.fJ r=>.fJ (lg (by simpa [q8]using k) r)
 |_,_,k,.pK r=>.pK (wj (by simpa [q8]using k) r)
theorem lg {C D:Cx}:∀{p:List PV} {x:List Value},jD p=true→cx C p x→cx D p x
 |_,_,_,.nil=>.nil
 |_,_,k,.cons a b=>by
  simp only [jD,alQ]at k
  exact .cons (wj k.1 a) (lg k.2 b)
end
def kC (A:Nat→Prop) (σ:Nat→Nat) (h bs:PH):Nat→PH→Prop
 |_,[]=>True
 |i,P::l=>oW A σ h bs h[σ i]? P∧kC A σ h bs (i+1) l
@[simp]theorem P4 (A:Nat→Prop) (σ:Nat→Nat) (h bs:PH) (i:Nat):kC A σ h bs i []↔True:=Iff.rfl
@[simp]theorem Oh (A:Nat→Prop) (σ:Nat→Nat) (h bs:PH) (i:Nat) (P:PB) (l:PH):kC A σ h bs i (P::l)↔oW A σ h bs h[σ i]? P∧kC A σ h bs (i+1) l:=Iff.rfl
theorem kC.ok {A:Nat→Prop} {σ:Nat→Nat} {h bs:PH}:∀{l:PH} {i:Nat},kC A σ h bs i l→∀j P,l[j]?=some P→oW A σ h bs h[σ (i+j)]? P
 |[],i,_,j,P,e=>by simp at e
 |Q::l,i,k,0,P,e=>by simp at e;subst e;exact k.1
 |Q::l,i,k,j+1,P,e=>by
  have:=kC.ok k.2 j P (by simpa using e)
  rwa [show i+1+j=i+(j+1) by omega]at this
theorem kB.at {A:Nat→Prop} {h bs:PH} (L:List Nat) (hl:L.length=bs.length) (nd:L.Nodup) (hA:∀b∈L,¬ A b) (k:kC A (fun i=>L.getD i 0) h bs 0 bs):kB A (fun i=>L.getD i 0) h bs:=by
 refine ⟨fun i P e=>by simpa using k.ok i P e,fun i j hi hj _ _ e=> ?_,fun i hi _=>hA _ ?_⟩
 · rw [List.getD_eq_getElem?_getD,List.getD_eq_getElem?_getD,alN (by omega),alN (by omega)]at e
   have pd:i<L.length:=by omega
   have LO:j<L.length:=by omega
   simp only [Option.getD_some]at e
   have key:∀(L:List Nat),L.Nodup→∀(i j:Nat) (hi:i<L.length) (hj:j<L.length),L[i]=L[j]→i=j:=by
    intro L
    induction L with
    |nil=>intro _ i j hi;simp at hi
    |cons x L ih=>
     intro nd i j hi hj e
     rw [List.nodup_cons]at nd
     cases i with
     |zero=>cases j with
      |zero=>rfl
      |succ j=>simp only [List.getElem_cons_zero,List.getElem_cons_succ]at e;exact absurd (e▸List.getElem_mem _) nd.1
     |succ i=>cases j with
      |zero=>simp only [List.getElem_cons_zero,List.getElem_cons_succ]at e;exact absurd (e▸List.getElem_mem _) nd.1
      |succ j=>
       simp only [List.getElem_cons_succ]at e
       rw [ih nd.2 i j (by simpa using hi) (by simpa using hj) e]
   exact key L nd i j pd LO e
 · rw [List.getD_eq_getElem?_getD,alN (by omega)]
   exact List.getElem_mem _
@[simp]theorem Ld (A:Nat→Prop) (σ:Nat→Nat) (h bs:PH) (z z':Nat) (ps qs:List PV):oW A σ h bs (some (.cells z ps)) (.cells z' qs)↔qs=[]∨(z=z'∧nc A σ h bs ps qs):=by
 unfold oW
 constructor
 ·rintro (q|⟨ps',e,k⟩)
  ·exact .inl q
  ·cases e;exact .inr ⟨rfl,k⟩
 ·rintro (q|⟨rfl,k⟩)
  ·exact .inl q
  ·exact .inr ⟨_,rfl,k⟩
@[simp]theorem Oi (A:Nat→Prop) (σ:Nat→Nat) (h bs:PH) (o:Option PB):oW A σ h bs o .dead↔True:=Iff.rfl
@[simp]theorem Oj (A:Nat→Prop) (σ:Nat→Nat) (h bs:PH) (o:Option PB) (z:Nat):oW A σ h bs o (.cells z [])↔True:=⟨fun _=>trivial,fun _=>.inl rfl⟩
def Jy:Option PB→Option PB→Prop
 |some (.cells _ cs),some (.cells _ cW)=>cs.length=cW.length
 |_,_=>False
@[simp]theorem afU (z z':Nat) (cs cW:List PV):Jy (some (.cells z cs)) (some (.cells z' cW))↔cs.length=cW.length:=Iff.rfl
theorem wk {h bs:PH} {A:Nat→Prop} {σ:Nat→Nat} (K:kB A σ h bs) {F:Nat→Prop} {H:AH} {φ:Nat→Nat} {C0:Cx} (h0:C0.h.length=0) (T:cH 0 rR C0 ⟨F,H,φ,h⟩):cH 0 rR C0 ⟨add F h φ A,H,fun i=>φ (σ i),bs⟩:=by
 have h0':C0.h=[]:=List.length_eq_zero_iff.1 h0
 have no:∀{b:Nat},¬ bo C0.h b:=fun s=>by have:=bF s;omega
 refine ⟨T.n0,T.nx,fun y hy=>⟨.inl (T.fz y hy).1,(T.fz y hy).2⟩,fun y hy hi hd=>?_,T.out,fun b hb=>?_,fun _=>Nat.zero_le _,fun b hb=>absurd hb (Nat.not_lt_zero _),fun b hb=>absurd hb (Nat.not_lt_zero _),fun b hb=>absurd hb (Nat.not_lt_zero _)⟩
 ·rcases hd with hd|⟨b,_,s,e⟩
  ·exact T.fo y hy hi hd
  ·rcases T.loc b s with q|⟨q,_⟩
   ·dsimp only at q;omega
   ·exact absurd q no
 ·rcases T.loc _ (K.bo hb)with q|⟨q,_⟩
  ·exact .inl q
  ·exact absurd q no
theorem Fy {r r2:PV} {h bs:PH} (A:Nat→Prop) (σ:Nat→Nat) (K:kB A σ h bs) (V:Vg A σ h bs r r2):Jv 0 r h r2 bs:=by
 intro F H φ x S R
 exact ⟨_,_,K.ok S,V F H φ x S R,fun C0 h0 T=>wk K h0 T⟩
theorem FA {n:Nat} {r r2:PV} {h bs:PH} (σ:Nat→Nat) (K:kB (fun _=>False) σ h bs) (V:Vg (fun _=>False) σ h bs r r2) (hn:n≤bs.length) (h1:∀b,b<n→σ b=b∧(eh bs b=none∨eh bs b=eh h b)∧(jk bs b→jk h b)) (h2:∀b,n≤b→b<bs.length→n≤σ b) (h3:∀b,b<n→∀t,Le h b t→Le bs b t):Jv n r h r2 bs:=by
 intro F H φ x S R
 refine ⟨_,_,K.ok S,V F H φ x S R,fun C0 h0 T=>?_⟩
 have tl:∀{h:PH} {b t:Nat},At h b t↔eh h b=some t:=by
  intro h b t
  constructor
  ·rintro ⟨z,cs,e,rfl⟩;unfold eh;rw [e]
  ·intro e;exact (ng e).2 rfl
 refine ⟨T.n0,T.nx,fun y hy=>⟨.inl (T.fz y hy).1,(T.fz y hy).2⟩,fun y hy hi hd=>?_,T.out,fun b hb=>?_,fun _=>hn,fun b hb hl t ht=>h3 b hb t (T.le b hb hl t ht),fun b hb hl t ht ha=>?_,fun b hb hl ha=>?_⟩
 ·rcases hd with hd|⟨b,q,_⟩
  ·exact T.fo y hy hi hd
  ·exact q.elim
 ·rcases T.loc _ (K.bo hb)with q|⟨q,e⟩
  ·exact .inl q
  ·by_cases xi:b<n
   ·rw [(h1 b xi).1]at q e
    exact .inr ⟨q,by dsimp only;rw [(h1 b xi).1];exact e⟩
   ·have:=h2 b (by omega) (bF hb)
    have:=bF q
    omega
 ·obtain ⟨a1,a2,_⟩:=h1 b hb
  rw [tl]at ha
  have e:eh h b=some t:=by
   rcases a2 with a2|a2
   ·rw [a2]at ha;cases ha
   ·rw [←a2];exact ha
  obtain ⟨k1,k2⟩:=T.uE b hb hl t ht (tl.2 e)
  exact ⟨k1,by dsimp only at k2⊢;rw [a1];exact k2⟩
 ·obtain ⟨a1,_,a3⟩:=h1 b hb
  obtain ⟨k1,k2⟩:=T.vV b hb hl (a3 ha)
  exact ⟨k1,by dsimp only at k2⊢;rw [a1];exact k2⟩
def Ab (h bs:PH) (b:Nat):Prop:=bs[b]?=some .dead∨Jy h[b]? bs[b]?
theorem FB {n:Nat} {r r2:PV} {h bs:PH} (L:List Nat) (hL:L.length+n=bs.length) (nd:L.Nodup) (Hl:∀b∈L,n≤b) (hs:∀b,b<n→Ab h bs b) (K:kC (fun _=>False) (fun i=>if i<n then i else L.getD (i- n) 0) h bs 0 bs) (V:Vg (fun _=>False) (fun i=>if i<n then i else L.getD (i- n) 0) h bs r r2):Jv n r h r2 bs:=by
 have getD:∀i,n≤i→i<bs.length→L[i- n]?=some (L.getD (i- n) 0):=fun i h1 h2=>by
  rw [List.getD_eq_getElem?_getD,alN (by omega)];rfl
 have KK:kB (fun _=>False) (fun i=>if i<n then i else L.getD (i- n) 0) h bs:=by
  refine ⟨fun i P e=>by simpa using K.ok i P e,fun i j hi hj _ _ e=> ?_,fun _ _ _ q=>q⟩
  by_cases h1:i<n
  · rw [if_pos h1]at e
    by_cases h2:j<n
    · rwa [if_pos h2]at e
    · rw [if_neg h2]at e
      have:=Hl _ (alS (getD j (by omega) hj))
      omega
  · rw [if_neg h1]at e
    by_cases h2:j<n
    · rw [if_pos h2]at e
      have:=Hl _ (alS (getD i (by omega) hi))
      omega
    · rw [if_neg h2]at e
      have a1:=getD i (by omega) hi
      have a2:=getD j (by omega) hj
      rw [e]at a1
      have key:∀(L:List Nat),L.Nodup→∀(i j b:Nat),L[i]?=some b→L[j]?=some b→i=j:=by
       intro L
       induction L with
       |nil=>intro _ i j b e;simp at e
       |cons x L ih=>
        intro nd i j b e e'
        rw [List.nodup_cons]at nd
        cases i with
        |zero=>cases j with
         |zero=>rfl
         |succ j=>simp at e e';subst e;exact absurd (alS e') nd.1
        |succ i=>cases j with
         |zero=>simp at e e';subst e';exact absurd (alS e) nd.1
         |succ j=>rw [ih nd.2 i j b (by simpa using e) (by simpa using e')]
      have:=key L nd _ _ _ a1 a2
      omega
 refine FA _ KK V (by omega) (fun b hb=>⟨if_pos hb, ?_, ?_⟩) (fun b h1 h2=> ?_) (fun b hb t ht=> ?_)
 · rcases hs b hb with q|q
   · left;unfold eh;rw [q]
   · right
     unfold Jy at q
     split at q
     · rename_i z cs z' cW e1 e2
       unfold eh;rw [e1,e2];simp only [q]
     · exact q.elim
 · rintro ⟨es,e⟩
   rcases hs b hb with q|q
   · rw [q]at e;cases e
   · rw [e]at q;unfold Jy at q;split at q
     · rename_i e2;cases e2
     · exact q.elim
 · rw [if_neg (by omega)]
   exact Hl _ (alS (getD b h1 h2))
 · intro z cs e
   rcases hs b hb with q|q
   · rw [q]at e;cases e
   · rw [e]at q
     unfold Jy at q
     split at q
     · rename_i z1 cs1 z2 cs2 e1 e2
       cases e2
       have:=ht _ _ e1
       omega
     · exact q.elim
theorem dw {r r2:PV} {h:PH} (V:Vg rR id h [] r r2):Jv 0 r h r2 []:=Fy _ _ (kB.none _ _ _) V
def PF.xb:List (Nat×PV)→PF
 |[]=>⟨fun _=>.any⟩
 |(t,p)::l=>⟨fun a=>if a=t then p else(PF.xb l).g a⟩
@[simp]theorem WM (a:Nat):(PF.xb []).get a= .any:=rfl
@[simp]theorem wm (t a:Nat) (p:PV) (l:List (Nat×PV)):(PF.xb ((t,p)::l)).get a=if a=t then p else(PF.xb l).get a:=rfl
def nX (A:Nat→Prop) (σ:Nat→Nat) (h bs:PH) (fr:PF):List (Nat×PV)→Prop
 |[]=>True
 |(t,p)::l=>Vg A σ h bs (fr.get t) p∧nX A σ h bs fr l
@[simp]theorem TR (A:Nat→Prop) (σ:Nat→Nat) (h bs:PH) (fr:PF):nX A σ h bs fr []↔True:=Iff.rfl
@[simp]theorem P5 (A:Nat→Prop) (σ:Nat→Nat) (h bs:PH) (fr:PF) (t:Nat) (p:PV) (l:List (Nat×PV)):nX A σ h bs fr ((t,p)::l)↔Vg A σ h bs (fr.get t) p∧nX A σ h bs fr l:=Iff.rfl
theorem nX.ok {A:Nat→Prop} {σ:Nat→Nat} {h bs:PH} {fr:PF}:∀{l:List (Nat×PV)},nX A σ h bs fr l→∀t,Vg A σ h bs (fr.get t) ((PF.xb l).get t)
 |[],_,t=>Od _
 |(a,p)::l,k,t=>by
  rw [wm]
  split
  ·rename_i e;subst e;exact k.1
  ·exact nX.ok k.2 t
theorem Ok {fr:PF} {h h2:PH} (A:Nat→Prop) (σ:Nat→Nat) (l:List (Nat×PV)) (K:kB A σ h h2) (V:nX A σ h h2 fr l):Gh 0 fr h (PF.xb l) h2:=by
 intro F H φ af S R
 exact ⟨_,_,K.ok S,fun t=>V.ok t F H φ _ S (R t),fun C0 h0 T=>wk K h0 T⟩
end Go.Proofs.YtppcmpmnglaleaaGreatDoor.A.P
namespace Go.Proofs.YtppcmpmnglaleaaGreatDoor.A.P
open Go Go.RowKit
mutual
def po:PV→Bool
 | .v _=>true
 | .fs _ _=>true
 | .fp _=>true
 | .agg cs=>dN cs
 | .fJ cs=>dN cs
 | .fn _ a b=>dN a&&dN b
 | .pK _ p=>po p
 |_=>false
def dN:List PV→Bool
 |[]=>true
 |p::ps=>po p&&dN ps
end
attribute [simp] sh w9 q8 jD
@[simp]theorem afV (x:Value):po (.v x)=true↔True:=⟨fun _=>trivial,fun _=>rfl⟩
@[simp]theorem acF (sz:Nat) (rows:List (List PV)):po (.fs sz rows)=true↔True:=⟨fun _=>trivial,fun _=>rfl⟩
@[simp]theorem WN (cs:List PV):po (.agg cs)=true↔dN cs=true:=by rw [po]
@[simp]theorem WO (cs:List PV):po (.fJ cs)=true↔dN cs=true:=by rw [po]
@[simp]theorem WQ (t:Nat) (p:PV):po (.pK t p)=true↔po p=true:=by rw [po]
@[simp]theorem acG:dN []=true↔True:=⟨fun _=>trivial,fun _=>rfl⟩
@[simp]theorem nY (p:PV) (ps:List PV):dN (p::ps)=true↔po p=true∧dN ps=true:=by rw [dN,alQ]
theorem kD:∀l:List PV,dN l=l.all po
 |[]=>rfl
 |p::l=>by simp [dN,kD l]
theorem a6 (a b:List PV):dN (a++b)=true↔dN a=true∧dN b=true:=by simp [kD]
theorem wo {p:PV} (hp:po p=true):∀{l:List PV} {k:Nat},dN l=true→dN (l.set k p)=true
 |[],k,_=>rfl
 |q::l,0,h=>by rw [nY]at h;exact (nY _ _).2 ⟨hp,h.2⟩
 |q::l,k+1,h=>by rw [nY]at h;exact (nY _ _).2 ⟨h.1,wo hp h.2⟩
attribute [simp] wo
mutual
theorem yg (k:Nat):∀{p:PV},po p=true→sh k p=p
 | .v _,_=>rfl
 | .fs _ _,_=>rfl
 | .fp _,_=>rfl
 | .agg cs,h=>by rw [sh,iD k (by simpa using h)]
 | .fJ cs,h=>by rw [sh,iD k (by simpa using h)]
 | .fn f a b,h=>by
  simp only [po,alQ]at h
  rw [sh,iD k h.1,iD k h.2]
 | .pK t p,h=>by rw [sh,yg k (by simpa using h)]
theorem iD (k:Nat):∀{l:List PV},dN l=true→w9 k l=l
 |[],_=>rfl
 |p::l,h=>by
  simp only [dN,alQ]at h
  rw [w9,yg k h.1,iD k h.2]
end
section
variable{A:Nat→Prop} {σ:Nat→Nat} {h bs:PH}
mutual
theorem q9:∀{p:PV},po p=true→Vg A σ h bs p p
 | .v _,_=>(acD _).2 trivial
 | .fs _ _,_=>(TK _ _).2 trivial
 | .fp _,_=>(TN _).2 trivial
 | .agg cs,h=>Fu (jE (by simpa using h))
 | .fJ cs,h=>yf (jE (by simpa using h))
 | .fn f a b,h=>by
  simp only [po,alQ]at h
  exact TO (jE h.1) (jE h.2)
 | .pK t p,h=>Of (q9 (by simpa using h))
theorem jE:∀{l:List PV},dN l=true→nc A σ h bs l l
 |[],_=>trivial
 |p::l,h=>by
  simp only [dN,alQ]at h
  exact ⟨q9 h.1,jE h.2⟩
end
@[simp]theorem TS {l:List PV} (k:dN l=true):nc A σ h bs l l↔True:=⟨fun _=>trivial,fun _=>jE k⟩
@[simp]theorem WR {p:PV} (k:po p=true):Vg A σ h bs p p↔True:=⟨fun _=>trivial,fun _=>q9 k⟩
theorem Ac {b i:Nat} (k:Jy h[b]? bs[i]?):∃T,eh h b=some T∧eh bs i=some T:=by
 unfold Jy at k
 split at k
 ·rename_i z cs z' cW e1 e2
  exact ⟨cs.length,by unfold eh;rw [e1],by unfold eh;rw [e2,k]⟩
 ·exact k.elim
@[simp]theorem acH {b i sz o n c:Nat} (hs:σ i=b) (k:Jy h[b]? bs[i]?):Vg A σ h bs (.sl sz b o n c) (.sl sz i o n c)↔True:=⟨fun _=>trivial,fun _=>by
 obtain ⟨T,h1,h2⟩:=Ac k
 exact TP h1 h2 hs⟩
@[simp]theorem WS {b i o t:Nat} (hs:σ i=b) (k:Jy h[b]? bs[i]?):Vg A σ h bs (.ref b o t) (.ref i o t)↔True:=⟨fun _=>trivial,fun _=>by
 obtain ⟨T,h1,h2⟩:=Ac k
 exact Og h1 h2 hs⟩
def isVoid (bs:PH) (i:Nat):Bool:=match bs[i]? with
 |some (.cells _ [])=>true
 |_=>false
@[simp]theorem TT {sz i:Nat} (k:isVoid bs i=true):Vg A σ h bs (.v (.slice none 0 0)) (.sl sz i 0 0 0)↔True:=⟨fun _=>trivial,fun _=>by
 unfold isVoid at k
 split at k
 ·rename_i z e;exact Jx e
 ·cases k⟩
@[simp]theorem WT (ps qs:List PV) (k:nc A σ h bs ps qs):Vg A σ h bs (.agg ps) (.agg qs)↔True:=⟨fun _=>trivial,fun _=>Fu k⟩
@[simp]theorem WU (ps qs:List PV) (k:nc A σ h bs ps qs):Vg A σ h bs (.fJ ps) (.fJ qs)↔True:=⟨fun _=>trivial,fun _=>yf k⟩
def yh:PV→Bool
 | .v _=>true
 | .fs _ _=>true
 |_=>false
theorem Ol {p:PV} (k:yh p=true):Vz A h p p:=by
 cases p<;>first
  |exact Oc _
  |exact Fq _ _
  |cases k
theorem pO:∀{l:List PV},l.all yh=true→BF A h l l
 |[],_=>trivial
 |p::l,k=>by
  simp only [List.all_cons,alQ]at k
  exact ⟨Ol k.1,pO k.2⟩
theorem Jz {p:PV} (k:yh p=true):po p=true:=by cases p<;>first|rfl|cases k
theorem wu {l:List PV} (k:l.all yh=true):dN l=true:=by
 rw [kD,al3]at*
 exact fun p hp=>Jz (k p hp)
end
section
variable{E:Env} {O:iq} {n:Nat} {Q:Ex→PF→PH→Prop} {ks:List Kp} {fr:PF} {h:PH} {m:Mp} {l:List AO} {d:Option Nat}
def Fz (E:Env) (O:iq) (f:Nat) (args:List PV) (r:PV):Prop:=rS E O f args [] (fun r' h'=>r'=r∧h'=[]∧po r=true)
def Fo (E:Env) (O:iq) (f:Nat) (args:List PV) (sz k:Nat) (cs:List PV):Prop:=rS E O f args [] (fun r' h'=>r'= .sl sz 0 0 k k∧h'=[.cells sz cs]∧dN cs=true∧cs.length=k*sz)
def JA (res:List RS) (r:PV):Ex→PF→PH→Prop
 | .exit _,_,_=>False
 |_,fr,h=>(tV.all fr h res).map mY=some r
@[simp]theorem acI (res:List RS) (r:PV):JA res r .normal fr h=((tV.all fr h res).map mY=some r):=rfl
@[simp]theorem acJ (res:List RS) (r:PV):JA res r .ret fr h=((tV.all fr h res).map mY=some r):=rfl
theorem PK.TU {Q Q':Ex→PF→PH→Prop} (hq:∀ex fr h,Q ex fr h→Q' ex fr h) {cf:Cf} {fr:PF} {h:PH} (k:PK E O n Q cf fr h):PK E O n Q' cf fr h:=by
 induction k with
 |skip _ ih=>exact .skip ih
 |ret _ ih=>exact .ret ih
 |exit _ ih=>exact .exit ih
 |bW _ ih=>exact .bW ih
 |bM _ ih=>exact .bM ih
 |seq _ ih=>exact .seq ih
 |block _ ih=>exact .block ih
 |cond e _ ih=>exact .cond e ih
 |loop I k _ g hI ih=>exact .loop I k ih g hI
 |Jr _ ih=>exact .Jr ih
 |v8 e _ ih=>exact .v8 e ih
 |zW _ ih=>exact .zW ih
 |zX _ ih=>exact .zX ih
 |op e _ ih=>exact .op e ih
 |Ty e w _ ih=>exact .Ty e w ih
 |Fj e w _ ih=>exact .Fj e w ih
 |call c _ ih=>exact .call c ih
 |callv e c _ ih=>exact .callv e c ih
 |Js q=>exact .Js (hq _ _ _ q)
 |Wl _ ih=>exact .Wl ih
 |Wm _ ih=>exact .Wm ih
 |Tz a b c=>exact .Tz a b c
 |Wn _ ih=>exact .Wn ih
 |Fk _ ih=>exact .Fk ih
 |Jt e _ ih=>exact .Jt e ih
 |del _ ih=>exact .del ih
 |Ju _ ih=>exact .Ju ih
theorem Fz.body {f:Nat} {F:AF} {args:List PV} {r:PV} (ho:O f=none) (he:E f=some F) (hl:args.length=F.np) (hr:po r=true) (k:PK E O 0 (JA F.res r) (.code F.body []) (PF.of args) []):Fz E O f args r:=by
 refine rS.body ho he hl (PK.TU ?_ k)
 intro ex fr h q
 have:∀ex,JA F.res r ex fr h→(∀i,ex≠ .exit i)→∃vs,tV.all fr h F.res=some vs∧∃r2 h2,Jv 0 (mY vs) h r2 h2∧r2=r∧h2=[]∧po r=true:=by
  intro ex q hx
  have q':(tV.all fr h F.res).map mY=some r:=by
   cases ex with
   |exit i=>exact absurd rfl (hx i)
   |normal=>exact q
   |ret=>exact q
  obtain ⟨vs,e,e2⟩:=alX.1 q'
  exact ⟨vs,e,r,[],by rw [e2];exact dw (q9 hr),rfl,rfl,hr⟩
 cases ex with
 |exit i=>exact q
 |normal=>exact this _ q (fun i=>by simp)
 |ret=>exact this _ q (fun i=>by simp)
def Ad (h:PH) (sz k:Nat) (cs:List PV):PV→Prop
 | .sl fb b o n' c=>fb=sz∧o=0∧n'=k∧c=k∧h[b]?=some (.cells sz cs)
 | .v (.slice none 0 0)=>k=0∧cs=[]
 |_=>False
def TV (res:List RS) (sz k:Nat) (cs:List PV):Ex→PF→PH→Prop
 | .exit _,_,_=>False
 |_,fr,h=>∃vs,tV.all fr h res=some vs∧Ad h sz k cs (mY vs)
@[simp]theorem acK (res:List RS) (sz k:Nat) (cs:List PV):TV res sz k cs .normal fr h=∃vs,tV.all fr h res=some vs∧Ad h sz k cs (mY vs):=rfl
@[simp]theorem acL (res:List RS) (sz k:Nat) (cs:List PV):TV res sz k cs .ret fr h=∃vs,tV.all fr h res=some vs∧Ad h sz k cs (mY vs):=rfl
theorem Fz.call {f:Nat} {args oX:List PV} {r:PV} (k:Fz E O f oX r) (L:List Nat) (hv:nc (· ∈L) id h [] args oX):GN E O f args h (· ∈[]) (fun r' h'=>r'=r∧h'=dI h L):=
 (rS.pure L k hv).mono (by
  rintro r' h' ⟨r0,bs,⟨rfl,rfl,hz⟩,rfl,rfl⟩
  exact ⟨yg _ hz,by simp⟩)
theorem bA {f:Nat} {«as»:List X} {args:List PV} {r:PV} (k:Fz E O f args r) (ha:«as».map (eT fr)=args) (hz:dN args=true) (next:PK E O n Q (.ops (m.up [] (fr.aM d r) h) l ks) (fr.aM d r) h):PK E O n Q (.ops m (⟨none,d,.call f «as»⟩::l) ks) fr h:=
 q7 (W:=[]) ha ((k.call [] (jE hz)).mono (by rintro r' h' ⟨rfl,rfl⟩;exact next))
theorem rf {f:Nat} {«as»:List X} {args:List PV} {r:PV} (L:List Nat) (k:Fz E O f args r) (hv:nc (· ∈L) id h [] («as».map (eT fr)) args) (next:PK E O n Q (.ops (m.up [] (fr.aM d r) (dI h L)) l ks) (fr.aM d r) (dI h L)):PK E O n Q (.ops m (⟨none,d,.call f «as»⟩::l) ks) fr h:=
 q7 (W:=[]) rfl ((k.call L hv).mono (by rintro r' h' ⟨rfl,rfl⟩;exact next))
end
abbrev pi (n:Int):PV:=.v (.int .i64 n)
abbrev pb (b:Bool):PV:=.v (.bool b)
abbrev ps (s:ByteArray):PV:=.v (.string s)
abbrev jS:PV:=.v (.slice none 0 0)
def ir (l:List Int):List (List PV):=l.map fun n=>[pi n]
@[simp]theorem P6 (l:List Int):(ir l).length=l.length:=by simp [ir]
@[simp]theorem JB (l:List Int):(ir l).flatten=l.map pi:=by
 induction l with
 |nil=>rfl
 |cons a l ih=>simp_all [ir]
abbrev oY (l:List Int):PV:=.fs 1 (ir l)
theorem ua {A:Nat→Prop} {h:PH} {sz b n:Nat} {rows:List (List PV)} (hA:A b) (hb:h[b]?=some (.cells sz rows.flatten)) (hz:0<sz) (hl:rows.length=n) (hr:∀r∈rows,r.length=sz) (hv:BF A h rows.flatten rows.flatten):Vz A h (.sl sz b 0 n n) (.fs sz rows):=by
 have e:rows.flatten.length=n*sz:=by
  rw [←hl]
  clear hb hv hl
  induction rows with
  |nil=>simp
  |cons r rows ih=>
   have:=hr r (by simp)
   rw [List.flatten_cons,alW,ih (fun q hq=>hr q (by simp [hq])),List.length_cons,Nat.succ_mul]
   omega
 exact Lb hA hb (by rw [Nat.zero_add,e]) hz (alR _) (alR _) hl hr (by rw [Nat.zero_mul,List.drop_zero,←e,List.take_length];exact hv)
theorem Om {A:Nat→Prop} {h:PH} {b:Nat} {l:List Int} (hA:A b) (hb:h[b]?=some (.cells 1 (l.map pi))):Vz A h (.sl 1 b 0 l.length l.length) (oY l):=
 ua hA (by rw [JB];exact hb) Nat.one_pos (by simp) (by simp [ir]) (pO (by simp [yh]))
attribute [simp] Tx Wj E9 N2 BE Jq v7 tT N1 I6
attribute [simp] isVoid Ad
end Go.Proofs.YtppcmpmnglaleaaGreatDoor.A.P
namespace Go.Proofs.YtppcmpmnglaleaaGreatDoor.A.P
open Go Go.RowKit
variable{E:Env} {O:iq}
mutual
def WV (τ:Nat→Nat):PV→PV
 | .ref b o t=>.ref (τ b) o t
 | .sl sz b o n c=>.sl sz (τ b) o n c
 | .mp b=>.mp (τ b)
 | .agg cs=>.agg (yi τ cs)
 | .fJ cs=>.fJ (yi τ cs)
 | .fn f a b=>.fn f (yi τ a) (yi τ b)
 | .pK t p=>.pK t (WV τ p)
 | .v x=>.v x
 | .fs sz rows=>.fs sz rows
 | .fp cells=>.fp cells
 | .any=>.any
def yi (τ:Nat→Nat):List PV→List PV
 |[]=>[]
 |p::ps=>WV τ p::yi τ ps
end
attribute [simp] WV yi
def On (τ:Nat→Nat):PB→PB
 | .cells z cs=>.cells z (yi τ cs)
 | .map es=>.map (es.map fun e=>(e.1,WV τ e.2))
 | .dead=>.dead
section
variable{τ:Nat→Nat} {bs h:PH}
end
def yj:PH→List Nat→PH→PH
 |h,[],_=>h
 |h,_::_,[]=>h
 |h,b::L,P::Ps=>yj (h.set b P) L Ps
def tau (L:List Nat) (m:Nat):Nat→Nat:=fun i=>if i<L.length then L.getD i 0 else m+(i- L.length)
def merge (h:PH) (L:List Nat) (hs:PH):PH:=yj h L ((hs.take L.length).map (On (tau L h.length)))++(hs.drop L.length).map (On (tau L h.length))
def JC:Option PB→Option PB→Prop
 |some (.cells _ cs),some (.cells _ cW)=>cs.length=cW.length
 |some (.map _),some (.map _)=>True
 |_,_=>False
@[simp]theorem acN (z z':Nat) (cs cW:List PV):JC (some (.cells z cs)) (some (.cells z' cW))↔cs.length=cW.length:=Iff.rfl
@[simp]theorem acO (es es':List (Value×PV)):JC (some (.map es)) (some (.map es'))↔True:=Iff.rfl
def WW (h hs:PH):Nat→List Nat→Prop
 |_,[]=>True
 |i,b::L=>JC h[b]? hs[i]?∧WW h hs (i+1) L
@[simp]theorem WX (h hs:PH) (i:Nat):WW h hs i []↔True:=Iff.rfl
@[simp]theorem TW (h hs:PH) (i b:Nat) (L:List Nat):WW h hs i (b::L)↔JC h[b]? hs[i]?∧WW h hs (i+1) L:=Iff.rfl
section
variable{n:Nat} {Q:Ex→PF→PH→Prop} {ks:List Kp} {fr:PF} {h:PH} {m:Mp} {l:List AO} {d:Option Nat}
end
attribute [simp] tau merge yj On
end Go.Proofs.YtppcmpmnglaleaaGreatDoor.A.P
namespace Go.Proofs.YtppcmpmnglaleaaGreatDoor.A.P
open Go Go.RowKit
variable{E:Env} {O:iq}
theorem nX.list {A:Nat→Prop} {σ:Nat→Nat} {h bs:PH} {fr:PF}:∀{l:List (Nat×PV)},nX A σ h bs fr l→nc A σ h bs (l.map fun e=>fr.get e.1) (l.map (·.2))
 |[],_=>trivial
 |(t,p)::l,k=>⟨k.1,nX.list k.2⟩
theorem Ae {C:Cx} {af:Fr}:∀{l:List (Nat×PV)},cx C (l.map (·.2)) (l.map fun e=>af.get e.1)→lu C (PF.xb l) af
 |[],_,t=>.any _
 |(a,p)::l,k,t=>by
  cases k with|cons k1 k2=>
  rw [wm]
  split
  ·rename_i e;subst e;exact k1
  ·exact Ae k2 t
theorem FC {C:Cx} {fr:PF} {af:Fr} (R:lu C fr af):∀l:List (Nat×PV),cx C (l.map fun e=>fr.get e.1) (l.map fun e=>af.get e.1)
 |[]=>.nil
 |(a,p)::l=>.cons (R a) (FC R l)
theorem ei {n:Nat} {fr:PF} {h h2:PH} (L:List Nat) (l:List (Nat×PV)) (hL:L.length+n=h2.length) (nd:L.Nodup) (Hl:∀b∈L,n≤b) (hs:∀b,b<n→Ab h h2 b) (K:kC (fun _=>False) (fun i=>if i<n then i else L.getD (i- n) 0) h h2 0 h2) (V:nX (fun _=>False) (fun i=>if i<n then i else L.getD (i- n) 0) h h2 fr l):Gh n fr h (PF.xb l) h2:=by
 intro F H φ af S R
 obtain ⟨F',cN,S',R',T⟩:=FB L hL nd Hl hs K (yf V.list) F H φ (.tuple (l.map fun e=>af.get e.1).toArray) S (.fJ (FC R l))
 refine ⟨F',cN,S',?_,T⟩
 generalize hv:(Value.tuple (l.map fun e=>af.get e.1).toArray)=v at R'
 cases R' with|fJ r=>
 rename_i xs
 have:xs=l.map fun e=>af.get e.1:=by
  have:=Value.tuple.inj hv
  exact (congrArg Array.toList this).symm
 subst this
 exact Ae r
theorem rS.acP {f:Nat} {args oX:List PV} {h:PH} {sz k:Nat} {cs:List PV} (q:Fo E O f oX sz k cs) (hc:jD cs=true) (hv:nc rR id h [] args oX):
 GN E O f args h (· ∈[]) (fun r h'=>r= .sl sz h.length 0 k k∧h'=h++[.cells sz cs]):=by
 intro F H φ vs S Rv
 have S0:=(kB.none rR id h).ok S
 refine (q _ H _ vs S0 (hv.ok S Rv)).mono ?_
 rintro x H' ⟨r,bs,F',ψ,⟨rfl,rfl,hz,hl⟩,hr,SB,T⟩
 have TQ:∀{V:Nat→Prop} {x:Nat} {F:Nat→Prop} {φ:Nat→Nat},¬ im ⟨F,H,φ,[]⟩ V x:=by
  rintro V x F φ ⟨b,_,s,_⟩
  have:=bF s
  simp at this
 have no:∀{b:Nat} {F:Nat→Prop} {φ:Nat→Nat},¬ bo (Cx.mk F H φ []).h b:=fun s=>by have:=bF s;simp at this
 have same:∀x,x<H.nx→H'.get x=H.get x:=fun x hx=>T.out x hx TQ
 have new:∀b,bo [PB.cells sz cs] b→H.nx≤ψ b:=fun b hb=>by
  rcases T.loc b hb with q|⟨q,_⟩
  ·exact q
  ·exact absurd q no
 have SB2:dx ⟨F,H',ψ,[.cells sz cs]⟩:={
  wf:=SB.wf
  fz:=fun x hx=>Nat.lt_of_lt_of_le (S.fz x hx) T.nx
  inj:=SB.inj
  aN:=fun b z cW e he=>by
   obtain ⟨vs,k1,k2,k3,_⟩:=SB.aN b z cW e he
   refine ⟨vs,k1,?_,k3,fun q=>?_⟩
   ·cases b with
    |zero=>simp at e;obtain ⟨_,rfl⟩:=e;exact lg hc k2
    |succ b=>simp at e
   ·have:=S.fz _ q
    have:=new b (bY e he)
    dsimp only at*
    omega
  x7:=fun b es e=>by
   cases b with
   |zero=>simp at e
   |succ b=>simp at e}
 have T2:cH 0 rR ⟨F,H,φ,[]⟩ ⟨F,H',ψ,[.cells sz cs]⟩:={
  n0:=T.n0
  nx:=T.nx
  fz:=fun x hx=>⟨hx,same x (S.fz x hx)⟩
  fo:=fun _ _ _ h=>h
  out:=fun x hx _=>same x hx
  loc:=fun b hb=>.inl (new b hb)
  len:=fun _=>Nat.zero_le _
  le:=fun b hb=>absurd hb (Nat.not_lt_zero _)
  uE:=fun b hb=>absurd hb (Nat.not_lt_zero _)
  vV:=fun b hb=>absurd hb (Nat.not_lt_zero _)}
 obtain ⟨SD,TD⟩:=Aa (W:=(· ∈[])) S SB2 T2
 have hr2:RV ⟨F,H',ψ,[.cells sz cs]⟩ (.sl sz 0 0 k k) x:=by
  cases hr with|sl a b c d=>exact .sl a b c d
 have hr3:=zZ (φ:=φ) (h:=h) hr2
 refine ⟨_,_,F,join h φ ψ,⟨rfl,rfl⟩,?_,?_,?_⟩
 ·have e:sh h.length (.sl sz 0 0 k k)= .sl sz h.length 0 k k:=by simp
  rw [e]at hr3
  simpa [rH,iD _ hz]using hr3
 ·simpa [rH,iD _ hz]using SD
 ·simpa [rH,iD _ hz]using TD
section
variable{n:Nat} {Q:Ex→PF→PH→Prop} {ks:List Kp} {fr:PF} {h:PH} {m:Mp} {l:List AO} {d:Option Nat}
theorem yk {f:Nat} {«as»:List X} {args:List PV} {sz k:Nat} {cs:List PV} (q:Fo E O f args sz k cs) (hv:nc rR id h [] («as».map (eT fr)) args) (hc:jD cs=true) (next:PK E O n Q (.ops (m.up [] (fr.aM d (.sl sz h.length 0 k k)) (h++[.cells sz cs])) l ks) (fr.aM d (.sl sz h.length 0 k k)) (h++[.cells sz cs])):PK E O n Q (.ops m (⟨none,d,.call f «as»⟩::l) ks) fr h:=
 q7 (W:=[]) rfl ((rS.acP q hc hv).mono (by rintro r' h' ⟨rfl,rfl⟩;exact next))
end
end Go.Proofs.YtppcmpmnglaleaaGreatDoor.A.P
namespace Go.Proofs.YtppcmpmnglaleaaGreatDoor.A.P
open Go Go.RowKit
section
variable{T:Type} {enc:TypeId×Value→T} {P:Program} {W:World}
def F0 (W:World):Nat→Prop:=fun b=>b<W.heap.size
theorem st0 (W:World) (φ:Nat→Nat):dx ⟨F0 W,H0 W,φ,[]⟩where
 wf:=alR _
 fz:=fun x hx=>hx
 inj:=fun b b' s=>by have:=bF s;simp at this
 aN:=fun b z cs e=>by simp at e
 x7:=fun b es e=>by simp at e
def SlC (v:Value):Prop:=∃a n c,v= .slice a n c∧n≤c∧(c=0∨∀x,a=some x→x.spot=none)
theorem BH {n0:Nat} {c v:Value} (h:c= .slice none 0 0∨∃a len cap,c= .slice (some a) len cap∧len≤cap) (hc:aK n0 c=some v):SlC v:=by
 rcases h with rfl|⟨a,len,cap,rfl,hl⟩
 ·simp [aK,flat]at hc;subst hc;exact ⟨_,_,_,rfl,alR _,.inl rfl⟩
 ·simp only [aK]at hc
  cases h1:(decide (a.block<n0)&&a.spot.isNone)with
  |true=>rw [h1]at hc;simp only [cond_true,alO]at hc;subst hc;exact ⟨_,_,_,rfl,hl,.inr fun x hx=>by cases hx;simp only [alQ]at h1;exact Option.isNone_iff_eq_none.1 h1.2⟩
  |false=>
   rw [h1]at hc
   simp only [cond_false]at hc
   cases h2:Nat.beq len 0 with
   |true=>rw [h2]at hc;simp only [cond_true,alO]at hc;subst hc;exact ⟨_,_,_,rfl,alR _,.inl rfl⟩
   |false=>rw [h2]at hc;simp at hc
theorem acQ {b z:Nat} {c:List Value} (h:(H0 W).get b=some (.cells z c)):z=1048576:=by
 have h2:rY W b=some (.cells z c):=by
  rw [AH.dR (AH.aL h)]at h
  rw [←xE];exact h
 unfold rY at h2
 split at h2
 ·cases h2;rfl
 ·cases h2
theorem acR {b o sz:Nat} {r:List Value} (h:(H0 W).ldn ⟨b,o,none⟩ sz=some r) (hs:sz≤1048576):F0 W b∧(H0 W).jm b sz=true:=by
 unfold AH.ldn at h
 split at h
 ·rename_i z c _ e
  have:=acQ e
  refine ⟨AH.aL e,?_⟩
  unfold AH.jm
  rw [show(H0 W).get b=_ from e]
  exact decide_eq_true (by omega)
 ·cases h
theorem yl {α:Type} {F:Nat→Prop} {H:AH} {en:α→List PV} {ok:α→Prop}:∀{rows:List (List Value)} {ys:List α},eu (fun l y=>fN F H (en y) l∧ok y) rows ys→jB F H (ys.map en) rows∧∀y∈ys,ok y
 |_,_, .nil=>⟨.nil,by simp⟩
 |_,_, .cons a b=>⟨.cons a.1 (yl b).1,fun y hy=>by
    rcases List.mem_cons.1 hy with rfl|hy
    · exact a.2
    · exact (yl b).2 y hy⟩
theorem FD {α:Type} (en:α→List PV) {ok:α→Prop} {t e:TypeId} {fuel:Nat} {c:Value} {d:DataW T} (ht:P.underlying t=some (.slice e)) (Py:0<P.cellsOf e) (hcm:P.cellsOf e≤1048576) (hbe:0<P.bytesOf e)
 (h:Rd enc P W fuel t [c] d) (hw:wX P t d) (rd:∀m cW d',m<fuel→Rd enc P W m e cW d'→wX P e d'→∃l y,aJ W.heap.size cW=some l∧fN (F0 W) (H0 W) (en y) l∧ok y):
 ∃(v:Value) (ys:List α),aJ W.heap.size [c]=some [v]∧RF (F0 W) (H0 W) (.fs (P.cellsOf e) (ys.map en)) v∧(∀y∈ys,ok y)∧ys.length*P.bytesOf e≤reachBytes:=by
 obtain ⟨v,rows,ys,g1,g2,g3,g4⟩:=IB (C:=fun l y=>fN (F0 W) (H0 W) (en y) l∧ok y) ht Py hbe h hw rd
 obtain ⟨r1,r2⟩:=yl g3
 have hs:SlC v:=by
  obtain ⟨ps,h⟩:=h
  simp only [aJ]at g1
  cases h2:aK W.heap.size c with
  |none=>rw [h2]at g1;simp at g1
  |some x=>
   rw [h2]at g1
   simp only [alO,List.cons.injEq,and_true]at g1
   subst g1
   refine BH ?_ h2
   rcases DataW.trod_slice ht h with⟨e,_⟩|⟨a,len,cap,_,_,_,_,e,_,_,Us,_⟩
   ·simp only [List.cons.injEq,and_true]at e;exact .inl e
   ·simp only [List.cons.injEq,and_true]at e;exact .inr ⟨a,len,cap,e,Us⟩
 refine ⟨v,ys,g1,?_,r2,by rw [←g3.length];exact g4⟩
 obtain ⟨a,n,cp,rfl,hn,fM⟩:=hs
 have V1:=g2
 obtain ⟨a2,c2,e,k⟩:=g2.is
 cases e
 have hl:(ys.map en).length=rows.length:=by rw [List.length_map,g3.length]
 have:RF (F0 W) (H0 W) (.fs (P.cellsOf e) (ys.map en)) (.slice a (ys.map en).length cp):=by
  refine .fs (by rw [hl];exact V1) (by rw [hl];exact hn) (fun d hd=>⟨?_,?_⟩) r1
  ·rcases fM with q|q
   ·exact .inr q
   ·exact .inl (q d hd)
  ·rw [hl]
   by_cases h0:rows.length=0
   ·exact .inl h0
   ·obtain ⟨r,hr⟩:∃r,rows[0]?=some r:=⟨_,alN (by omega)⟩
    obtain ⟨b,o,e1,e2⟩:=k 0 r hr
    subst e1
    cases hd
    exact .inr (acR e2 hcm)
 rw [hl]at this
 exact this
end
end Go.Proofs.YtppcmpmnglaleaaGreatDoor.A.P
set_option maxRecDepth 10000
namespace Go.Proofs.YtppcmpmnglaleaaGreatDoor.A.P
open Go Go.RowKit
mutual
def nj:cn→List PV
 | .mk op n cp args=>[pi op,pi n,pi cp,.fs 4 (iE args)]
def iE:List cn→List (List PV)
 |[]=>[]
 |e::l=>nj e::iE l
end
mutual
def FF:bI→List PV
 | .mk op n args aB aC=>[pi op,pi n,.fs 4 (iE args),.fs 5 (rh aB),.fs 5 (rh aC)]
def rh:List bI→List (List PV)
 |[]=>[]
 |e::l=>FF e::rh l
end
def FG (v:Vr):List PV:=[ps v.name,pi v.level,pi v.cells]
abbrev ri (l:List Vr):PV:=.fs 3 (l.map FG)
def bB (p:bH):List PV:=[pi p.w,ri p.vars,.fs 5 (rh p.body)]
def ij (t:fy):List PV:=[oY t.store,oY t.bR]
abbrev acS (l:List (List Int)):PV:=.fs 1 (l.map fun s=>[oY s])
@[simp]theorem TX (p:bH):dN (bB p)=true:=rfl
@[simp]theorem TY (p:fy):dN (ij p)=true:=rfl
@[simp]theorem P7 (p:List Vr):po (ri p)=true:=rfl
@[simp]theorem TZ (p:List (List Int)):po (acS p)=true:=rfl
mutual
def WY:cn→Prop
 | .mk op n cp args=>e8 op∧e8 n∧e8 cp∧args.length<2^60∧FH args
def FH:List cn→Prop
 |[]=>True
 |e::l=>WY e∧FH l
end
mutual
def WZ:bI→Prop
 | .mk op n args aB aC=>e8 op∧e8 n∧args.length<2^60∧aB.length<2^60∧aC.length<2^60∧FH args∧BI aB∧BI aC
def BI:List bI→Prop
 |[]=>True
 |e::l=>WZ e∧BI l
end
def nk (p:bH):Prop:=e8 p.w∧nL p.vars∧BI p.body∧p.body.length<2^60
def ym (t:fy):Prop:=t.store.length<2^60∧t.bR.length<2^60∧(∀n∈t.store,e8 n)∧∀n∈t.bR,e8 n
section
variable{F:Nat→Prop} {H:AH}
theorem iF {sz:Nat} {rows:List (List PV)} {x:Value} (h:RF F H (.fs sz rows) x):∃rs,Rows H sz x rs∧jB F H rows rs∧∃a c,x= .slice a rows.length c:=by
 cases h with|fs hr hl hk qU=>exact ⟨_,hr,qU,_,_,rfl⟩
mutual
theorem Oo:∀{e:cn} {c:List Value},WY e→fN F H (nj e) c→pG H c e
 | .mk op n cp args,c,ok,h=>by
  simp only [nj]at h
  cases h with|cons h0 h=>
  cases h with|cons h1 h=>
  cases h with|cons h2 h=>
  cases h with|cons h3 h=>
  cases h
  cases h0;cases h1;cases h2
  obtain ⟨rs,hr,qU,_⟩:=iF h3
  simp only [WY]at ok
  exact .mk ok.1 ok.2.1 ok.2.2.1 ok.2.2.2.1 hr (ub ok.2.2.2.2 qU)
theorem ub:∀{l:List cn} {rs:List (List Value)},FH l→jB F H (iE l) rs→eZ H rs l
 |[],rs,_,h=>by cases h;exact .nil
 |e::l,rs,ok,h=>by
  simp only [iE]at h
  cases h with|cons a b=>
  exact .cons (Oo ok.1 a) (ub ok.2 b)
end
mutual
theorem Oq:∀{e:bI} {c:List Value},WZ e→fN F H (FF e) c→lU H c e
 | .mk op n args aB aC,c,ok,h=>by
  simp only [FF]at h
  cases h with|cons h0 h=>
  cases h with|cons h1 h=>
  cases h with|cons h2 h=>
  cases h with|cons h3 h=>
  cases h with|cons h4 h=>
  cases h
  cases h0;cases h1
  obtain ⟨ra,ha,Da,_⟩:=iF h2
  obtain ⟨rt,ht,SR,_⟩:=iF h3
  obtain ⟨re,he,xY,_⟩:=iF h4
  simp only [WZ]at ok
  exact .mk ok.1 ok.2.1 ok.2.2.1 ok.2.2.2.1 ok.2.2.2.2.1 ha (ub ok.2.2.2.2.2.1 Da) ht (pP ok.2.2.2.2.2.2.1 SR) he (pP ok.2.2.2.2.2.2.2 xY)
theorem pP:∀{l:List bI} {rs:List (List Value)},BI l→jB F H (rh l) rs→gU H rs l
 |[],rs,_,h=>by cases h;exact .nil
 |e::l,rs,ok,h=>by
  simp only [rh]at h
  cases h with|cons a b=>
  exact .cons (Oq ok.1 a) (pP ok.2 b)
end
theorem nm {l:List Int} {x:Value} (h:RF F H (oY l) x):eY H x l:=by
 obtain ⟨rs,hr,qU,_⟩:=iF h
 have:∀{l:List Int} {rs:List (List Value)},jB F H (ir l) rs→rs=l.map fun n=>[.int .i64 n]:=by
  intro l
  induction l with
  |nil=>intro rs h;cases h;rfl
  |cons a l ih=>
   intro rs h
   simp only [ir,List.map_cons]at h
   cases h with|cons a b=>
   cases a with|cons a c=>
   cases a;cases c
   rw [ih b];rfl
 rw [this qU]at hr
 exact hr
theorem FI {l:List Vr} {x:Value} (h:RF F H (ri l) x):dA H x l:=by
 obtain ⟨rs,hr,qU,_⟩:=iF h
 have:∀{l:List Vr} {rs:List (List Value)},jB F H (l.map FG) rs→rs=l.map Vr.row:=by
  intro l
  induction l with
  |nil=>intro rs h;cases h;rfl
  |cons a l ih=>
   intro rs h
   simp only [FG,List.map_cons]at h
   cases h with|cons h b=>
   cases h with|cons h0 h=>
   cases h with|cons h1 h=>
   cases h with|cons h2 h=>
   cases h
   cases h0;cases h1;cases h2
   rw [ih b];rfl
 rw [this qU]at hr
 exact hr
theorem yp {p:bH} {c:List Value} (ok:nk p) (h:fN F H (bB p) c):ph H c p:=by
 simp only [bB]at h
 cases h with|cons h0 h=>
 cases h with|cons h1 h=>
 cases h with|cons h2 h=>
 cases h
 cases h0
 obtain ⟨rs,hr,qU,_⟩:=iF h2
 exact ⟨_,_,_,rfl,ok.1,FI h1,ok.2.1,hr,pP ok.2.2.1 qU,ok.2.2.2⟩
theorem FJ {t:fy} {c:List Value} (ok:ym t) (h:fN F H (ij t) c):u9 H c t:=by
 simp only [ij]at h
 cases h with|cons h0 h=>
 cases h with|cons h1 h=>
 cases h
 exact ⟨_,_,rfl,nm h0,nm h1,ok⟩
theorem T0 {C:Cx} {sz:Nat} {rows:List (List PV)} {x:Value} (h:RV C (.fs sz rows) x):RF C.F C.H (.fs sz rows) x:=by cases h;assumption
theorem Lf {C:Cx}:∀{ps:List PV} {xs:List Value},ps.all yh=true→cx C ps xs→fN C.F C.H ps xs
 |[],_,_,.nil=>.nil
 |p::ps,_,h,.cons a b=>by
  simp only [List.all_cons,alQ]at h
  refine .cons ?_ (Lf h.2 b)
  cases p<;>first
   |(simp [yh]at h;done)
   |(cases a;exact .v _)
   |exact T0 a
theorem sr {C:Cx} {ps:List PV} {x:Value} (hp:ps.all yh=true) (h:RV C (.agg ps) x):∃c,x= .agg c.toArray∧fN C.F C.H ps c:=by
 cases h with|agg a=>exact ⟨_,rfl,Lf hp a⟩
end
@[simp]theorem T3 (p:bH):(bB p).all yh=true:=rfl
@[simp]theorem T4 (p:fy):(ij p).all yh=true:=rfl
theorem Fz.su {f:Nat} {args:List PV} {y:Value} (k:∀F H φ vs,H.n0≤H.nx→cx ⟨F,H,φ,[]⟩ args vs→Ca E O f vs H (fun x H'=>x=y∧Ext H H')):Fz E O f args (.v y):=by
 intro F H φ vs S Rv
 refine (k F H φ vs S.wf Rv).mono ?_
 rintro x H' ⟨rfl,X⟩
 have T:cH 0 rR ⟨F,H,φ,[]⟩ ⟨F,H',φ,[]⟩:=⟨X.n0,X.nx,fun x hx=>⟨hx,X.old x (S.fz x hx)⟩,fun _ _ _ h=>h,fun x hx _=>X.old x hx,fun b hb=>absurd (bF hb) (Nat.not_lt_zero _),fun _=>alR _,fun b hb=>absurd hb (Nat.not_lt_zero _),fun b hb=>absurd hb (Nat.not_lt_zero _),fun b hb=>absurd hb (Nat.not_lt_zero _)⟩
 exact ⟨_,[],F,φ,⟨rfl,rfl,rfl⟩,.v _,⟨X.wf S.wf,fun x hx=>Nat.lt_of_lt_of_le (S.fz x hx) X.nx,fun b b' s=>absurd (bF s) (Nat.not_lt_zero _),fun b z cs e=>by simp at e,fun b es e=>by simp at e⟩,T⟩
theorem Fo.su {f:Nat} {args:List PV} {sz:Nat} {rows:List (List Value)} (hz:0<sz) (k:∀F H φ vs,H.n0≤H.nx→cx ⟨F,H,φ,[]⟩ args vs→Ca E O f vs H (fun x H'=>c9 H' sz x rows∧Ext H H'∧∀b,aN x b→H.nx≤b)):Fo E O f args sz rows.length (rows.flatten.map .v):=by
 intro F H φ vs S Rv
 refine (k F H φ vs S.wf Rv).mono ?_
 rintro x H' ⟨o,X,hb⟩
 have hlen:(rows.flatten.map PV.v).length=rows.length*sz:=by rw [List.length_map,bT o.len]
 obtain ⟨a,ha⟩:∃a:Nat,(rows≠[]→x= .slice (some ⟨a,0,none⟩) rows.length rows.length∧H'.get a=some (.cells sz rows.flatten)∧H.nx≤a∧H'.n0≤a):=by
  rcases o.is with⟨_,rfl⟩|⟨a,rfl,h0,hg⟩
  ·exact ⟨0,fun h=>absurd rfl h⟩
  ·exact ⟨a,fun _=>⟨rfl,hg,hb a ((aW _ _ _ _ _).2 rfl),h0⟩⟩
 have one:∀{b:Nat} {P:PB},[PB.cells sz (rows.flatten.map .v)][b]?=some P→b=0∧P= .cells sz (rows.flatten.map .v):=by
  intro b P e
  cases b with
  |zero=>simp only [alM,alO]at e;exact ⟨rfl,e.symm⟩
  |succ b=>simp at e
 have sol:∀{b:Nat},bo [PB.cells sz (rows.flatten.map .v)] b→b=0∧rows≠[]:=by
  intro b s
  rcases jl s with⟨es,e⟩|⟨z,cs,e,hc⟩
  ·have:=(one e).2;cases this
  ·obtain ⟨rfl,e2⟩:=one e
   cases e2
   exact ⟨rfl,by rintro rfl;exact hc rfl⟩
 have T:cH 0 rR ⟨F,H,φ,[]⟩ ⟨F,H',fun _=>a,[.cells sz (rows.flatten.map .v)]⟩:=⟨X.n0,X.nx,fun x hx=>⟨hx,X.old x (S.fz x hx)⟩,fun _ _ _ h=>h,fun x hx _=>X.old x hx,fun b hb=>.inl (ha (sol hb).2).2.2.1,fun _=>Nat.zero_le _,fun b hb=>absurd hb (Nat.not_lt_zero _),fun b hb=>absurd hb (Nat.not_lt_zero _),fun b hb=>absurd hb (Nat.not_lt_zero _)⟩
 refine ⟨_,_,F,fun _=>a,⟨rfl,rfl,?_,hlen⟩,?_,⟨X.wf S.wf,fun x hx=>Nat.lt_of_lt_of_le (S.fz x hx) X.nx,fun b b' s s' _=>by rw [(sol s).1,(sol s').1],fun b z cs e hc=>?_,fun b es e=>?_⟩,T⟩
 ·rw [kD];simp
 ·refine .sl ?_ (by simp) (fun z cs e=>?_) (fun _=>?_)
  ·rcases o.is with⟨rfl,e0⟩|⟨_,rfl,_⟩
   ·exact ⟨none,0,by rw [e0];rfl⟩
   ·exact ⟨_,_,rfl⟩
  ·obtain ⟨_,e2⟩:=one e
   cases e2
   rw [hlen];simp
  ·by_cases hr:rows=[]
   ·subst hr
    refine .inl ⟨rfl,rfl,?_⟩
    rcases o.is with⟨rfl,_⟩|⟨b,rfl,_⟩
    ·exact ⟨none,rfl,by simp⟩
    ·exact ⟨_,rfl,by rintro e ⟨⟩;rfl⟩
   ·exact .inr ⟨List.length_pos_iff.2 hr,by rw [(ha hr).1];simp⟩
 ·obtain ⟨rfl,e2⟩:=one e
  cases e2
  have hr:rows≠[]:=by rintro rfl;exact hc rfl
  obtain ⟨_,h2,h3,h4⟩:=ha hr
  exact ⟨rows.flatten,h2,cx.lits _,h4,fun hf=>by have:=S.fz _ hf;dsimp only at this;omega⟩
 ·have:=(one e).2;cases this
end Go.Proofs.YtppcmpmnglaleaaGreatDoor.A.P
namespace Go.Proofs.YtppcmpmnglaleaaGreatDoor.A.P
open Go Go.RowKit
theorem uc {α:Type} {x:α}:∀{l:List α} {k:Nat},k<l.length→rP l k [x]=l.set k x
 |[],k,h=>by simp at h
 |y::l,0,_=>by simp [rP]
 |y::l,k+1,h=>by simp [rP,uc (l:=l) (k:=k) (by simpa using h)]
@[simp]theorem W0 (l:List Int):dN (l.map pi)=true:=by rw [kD];simp
theorem gv (l:List Int):(bz l).flatten.map PV.v=l.map pi:=by
 induction l with
 |nil=>rfl
 |cons a l ih=>simp_all [bz]
def BJ (l:List Ev):List (List PV):=l.map fun e=>[pi e.kind,pi e.at_,pi e.val]
def rj (l:List (Int×Int)):List (List PV):=l.map fun e=>[pi e.1,pi e.2]
def itr (l:List uC):List (List PV):=l.map fun it=>pi it.1::FF it.2
def evc (l:List Ev):List PV:=(BJ l).flatten
@[simp]theorem W1:evc []=[]:=rfl
@[simp]theorem Ot (l:List Ev):(BJ l).length=l.length:=by simp [BJ]
def uV (l:List (Int×Int)):List PV:=(rj l).flatten
@[simp]theorem W2:uV []=[]:=rfl
@[simp]theorem wv (a:(Int×Int)) (l:List (Int×Int)):uV (a::l)=[pi a.1,pi a.2]++uV l:=by simp [uV,rj]
theorem jF (a b:List (Int×Int)):uV (a++b)=uV a++uV b:=by simp [uV,rj]
@[simp]theorem Ou (l:List (Int×Int)):(rj l).length=l.length:=by simp [rj]
@[simp]theorem yq:∀l:List (Int×Int),(uV l).length=l.length*2
 |[]=>rfl
 |a::l=>by rw [wv,alW,yq l];simp;omega
@[simp]theorem ud:∀l:List (Int×Int),(uV l).all yh=true
 |[]=>rfl
 |a::l=>by rw [wv,List.all_append,ud l];simp [yh]
@[simp]theorem W3 (l:List (Int×Int)):dN (uV l)=true:=wu (ud l)
def itc (l:List uC):List PV:=(itr l).flatten
@[simp]theorem W4:itc []=[]:=rfl
open Go Go.RowKit
end Go.Proofs.YtppcmpmnglaleaaGreatDoor.A.P
namespace Go.Proofs.YtppcmpmnglaleaaGreatDoor.A.P
open Go Go.RowKit
open Go Go.RowKit
@[simp]theorem P8 (V:List Vr) (c:eK) (n i a:Int):(iu V c n i a).outs=c.outs:=rfl
@[simp]theorem P9 (V:List Vr) (c:eK) (n i a:Int):(iu V c n i a).todo=c.todo:=rfl
@[simp]theorem Lg (c:eK) (e n:Int):(ek c e n).store=c.store:=rfl
@[simp]theorem Ov (c:eK) (e n:Int):(ek c e n).outs=c.outs:=rfl
@[simp]theorem Lh (c:eK) (e n:Int):(ek c e n).trace=c.trace:=rfl
@[simp]theorem Ow (c:eK) (e n:Int):(ek c e n).todo=[]:=rfl
section
variable{p:bH} {ps:List Int} {c:eK} {k n:Int} {args:List cn} {aB aC:List bI} {next:List uC}
end
end Go.Proofs.YtppcmpmnglaleaaGreatDoor.A.P
namespace Go.Proofs.YtppcmpmnglaleaaGreatDoor.A.P
open Go Go.RowKit
set_option maxHeartbeats 1000000
section
variable{p:bH} {ps:List Int} {c:eK} {k n:Int} {args:List cn} {aB aC:List bI} {next:List uC}
end
end Go.Proofs.YtppcmpmnglaleaaGreatDoor.A.P
namespace Go.Proofs.YtppcmpmnglaleaaGreatDoor.A.P
open Go Go.RowKit
section
variable{A:Nat→Prop} {σ:Nat→Nat} {h bs:PH}
@[simp]theorem acV {b:Nat} {l:List (Int×Int)} (hA:A b) (hb:h[b]?=some (.cells 2 (uV l))):Vg A σ h bs (.sl 2 b 0 l.length l.length) (.fs 2 (rj l))↔True:=⟨fun _=>trivial,fun _=>ye (ua hA hb (by decide) (by simp) (by unfold rj;intro r hr;obtain ⟨x,_,rfl⟩:=List.mem_map.1 hr;simp) (pO (ud l)))⟩
@[simp]theorem afY (b:Nat):rR b↔True:=Iff.rfl
def acW:Option PB→List uC→Prop
 |some (.cells z cs),l=>z=6∧cs.drop 6=itc l∧cs.length=l.length*6+6
 |_,_=>False
@[simp]theorem acX (z:Nat) (cs:List PV) (l:List uC):acW (some (.cells z cs)) l↔z=6∧cs.drop 6=itc l∧cs.length=l.length*6+6:=Iff.rfl
def acY (h:PH):Option PB→List Int→Prop
 |some (.cells z [.sl 1 b 0 n n']),s=>z=1∧n=s.length∧n'=s.length∧h[b]?=some (.cells 1 (s.map pi))
 |_,_=>False
@[simp]theorem acZ (z b n n':Nat) (s:List Int):acY h (some (.cells z [.sl 1 b 0 n n'])) s↔z=1∧n=s.length∧n'=s.length∧h[b]?=some (.cells 1 (s.map pi)):=Iff.rfl
end
end Go.Proofs.YtppcmpmnglaleaaGreatDoor.A.P
set_option maxHeartbeats 1000000
namespace Go.Proofs.YtppcmpmnglaleaaGreatDoor.A.P
open Go Go.RowKit
open Go Go.RowKit
end Go.Proofs.YtppcmpmnglaleaaGreatDoor.A.P
namespace Go.Proofs.YtppcmpmnglaleaaGreatDoor.A.P
open Go Go.RowKit
def cT (r:eJ):List PV:=[pi r.en,oY r.store,.fs 2 (rj r.outs),.fs 3 (BJ r.trace),pi r.cost,pi r.used,pi r.wh]
open Go Go.RowKit
theorem FK {F:Nat→Prop} {H:AH}:∀{l:List (List Value)} {rs:List (List Value)},jB F H (l.map fun r=>r.map PV.v) rs→rs=l:=by
 have one:∀{r:List Value} {q:List Value},fN F H (r.map PV.v) q→q=r:=by
  intro r
  induction r with
  |nil=>intro q h;cases h;rfl
  |cons a r ih=>intro q h;cases h with|cons a b=>cases a;rw [ih b]
 intro l
 induction l with
 |nil=>intro rs h;cases h;rfl
 |cons a l ih=>intro rs h;cases h with|cons a b=>rw [one a,ih b]
theorem Af {F:Nat→Prop} {H:AH} {sz:Nat} {rows:List (List PV)} {l:List (List Value)} {x:Value} (e:rows=l.map fun r=>r.map PV.v) (h:RF F H (.fs sz rows) x):Rows H sz x l:=by
 subst e
 obtain ⟨rs,h1,h2,_⟩:=iF h
 rwa [FK h2]at h1
end Go.Proofs.YtppcmpmnglaleaaGreatDoor.A.P
namespace Go.Proofs.YtppcmpmnglaleaaGreatDoor.A.P
open Go Go.RowKit
section
variable{T:Type} {enc:TypeId×Value→T} {W:World}
theorem JD {n:Nat} {c:Value} {d:DataW T} (h:Rd enc Tryz.prog W n 26 [c] d) (hw:wX Tryz.prog 26 d):∃v l,aJ W.heap.size [c]=some [v]∧RF (F0 W) (H0 W) (oY l) v∧l.length<2^44∧∀n∈l,e8 n:=by
 obtain ⟨v,ys,g1,g2,g3,g4⟩:=FD (fun n:Int=>[pi n]) (ok:=e8) Tryz.underlying26 (by rw [cI];omega) (by rw [cI];omega) (by decide+kernel) h hw (fun k cW d' hk hr KP=>by
  obtain ⟨m,e,b⟩:=fT Tryz.underlying3 hr
  subst e
  exact ⟨_,m,cY rfl,.cons (.v _) .nil,wf_i64 b⟩)
 rw [cI]at g2
 refine ⟨v,ys,g1,g2,?_,g3⟩
 have hb:Tryz.prog.bytesOf 3=8:=by kernel_rfl
 rw [hb]at g4
 have:reachBytes<2^47:=reachBytes_lt
 omega
end
end Go.Proofs.YtppcmpmnglaleaaGreatDoor.A.P
namespace Go.Proofs.YtppcmpmnglaleaaGreatDoor.A.P
open Go Go.RowKit
theorem Li {F:Nat→Prop} {H:AH}:∀r:List Value,fN F H (r.map PV.v) r
 |[]=>.nil
 |a::r=>.cons (.v a) (Li r)
theorem Lj {F:Nat→Prop} {H:AH}:∀l:List (List Value),jB F H (l.map fun r=>r.map PV.v) l
 |[]=>.nil
 |a::l=>.cons (Li a) (Lj l)
theorem yr {F:Nat→Prop} {H:AH} {sz:Nat} {v:Value} {rows:List (List Value)} (h:c9 H sz v rows) (hF:∀b,aN v b→F b):RF F H (.fs sz (rows.map fun r=>r.map PV.v)) v:=by
 have hr:=h.rows
 rcases h.is with⟨rfl,rfl⟩|⟨b,rfl,h0,g⟩
 ·exact .fs (rows:=[]) (rs:=[]) hr (alR _) (fun d hd=>by cases hd) .nil
 ·have hl:(rows.map fun r=>r.map PV.v).length=rows.length:=List.length_map ..
  have:=RF.fs (F:=F) (H:=H) (sz:=sz) (rows:=rows.map fun r=>r.map PV.v) (a:=some ⟨b,0,none⟩) (c:=rows.length) (rs:=rows) (by rw [hl];exact hr) (by rw [hl];exact alR _) (fun d hd=>by
   cases hd
   refine ⟨.inl rfl,.inr ⟨hF b ((aW _ _ _ _ _).2 rfl),?_⟩⟩
   simp [AH.jm,g]) (Lj rows)
  rw [hl]at this
  exact this
theorem FL {F:Nat→Prop} {H:AH} {n:Nat} {cs:List Value} {r:eJ} (h:jR H n cs r) (hF:∀vs vo vt,cs=[.int .i64 r.en,vs,vo,vt,.int .i64 r.cost,.int .i64 r.used,.int .i64 r.wh]→∀b,aN vs b∨aN vo b∨aN vt b→F b):fN F H (cT r) cs:=by
 obtain ⟨vs,vo,vt,e,a,b,c,d⟩:=h.is
 have k:=hF vs vo vt e
 have k1:=yr a (fun x hx=>k x (.inl hx))
 have k2:=yr b (fun x hx=>k x (.inr (.inl hx)))
 have k3:=yr c (fun x hx=>k x (.inr (.inr hx)))
 have e1:(bz r.store).map (fun r=>r.map PV.v)=ir r.store:=by simp [bz,ir,pi,Function.comp_def]
 have e2:(cz r.outs).map (fun r=>r.map PV.v)=rj r.outs:=by simp [cz,xX,rj,pi,Function.comp_def]
 have e3:(cK r.trace).map (fun r=>r.map PV.v)=BJ r.trace:=by simp [cK,Ev.row,BJ,pi,Function.comp_def]
 rw [e1]at k1
 rw [e2]at k2
 rw [e3]at k3
 subst e
 exact .cons (.v _) (.cons k1 (.cons k2 (.cons k3 (.cons (.v _) (.cons (.v _) (.cons (.v _) .nil))))))
theorem FM {p:bH} {t:fy} {fuel:Int} (lK:nk p) (Lk:ym t):Fz E O 47 [.agg (bB p),pi fuel,.agg (ij t)] (.fJ [.agg (cT (lr p fuel t)),pi (fS p fuel t)]):=by
 intro F H φ vs S Rv
 cases Rv with|cons a Rv=>
 cases Rv with|cons b Rv=>
 cases Rv with|cons c Rv=>
 cases Rv
 cases b
 obtain ⟨cp,rfl,hp⟩:=sr (by simp) a
 obtain ⟨ct,rfl,ht⟩:=sr (by simp) c
 refine (I5 S.wf (yp lK hp) (FJ Lk ht)).mono ?_
 rintro x H' ⟨cs,rfl,ra,X⟩
 obtain ⟨us,uo,ut,e,o1,o2,o3,hb⟩:=ra.is
 have TQ:∀{V:Nat→Prop} {x:Nat},¬ im ⟨F,H,φ,[]⟩ V x:=by
  rintro V x ⟨b,_,s,_⟩
  have:=bF s
  simp at this
 have no:∀{b:Nat} {F:Nat→Prop} {H:AH},¬ bo (Cx.mk F H φ []).h b:=fun s=>by have:=bF s;simp at this
 let F':Nat→Prop:=fun b=>F b∨(H.nx≤b∧(aN us b∨aN uo b∨aN ut b))
 have hFR:fN F' H' (cT (lr p fuel t)) cs:=FL ra (fun a1 a2 a3 e2 b hbb=>by
  rw [e]at e2
  simp only [List.cons.injEq,true_and,and_true]at e2
  obtain ⟨rfl,rfl,rfl⟩:=e2
  exact .inr ⟨hb b hbb,hbb⟩)
 refine ⟨_,[],F',φ,⟨rfl,rfl,by simp [cT]⟩,?_,?_,?_⟩
 ·exact .fJ (.cons (.agg (hFR.oR (C:=⟨_,_,_,_⟩))) (.cons (.v _) .nil))
 ·exact {
   wf:=X.wf S.wf
   fz:=fun x hx=>by
    rcases hx with q|⟨_,q|q|q⟩
    ·exact Nat.lt_of_lt_of_le (S.fz x q) X.nx
    ·exact o1.lt q
    ·exact o2.lt q
    ·exact o3.lt q
   inj:=fun b b' s=>absurd s no
   aN:=fun b z cs e=>by simp at e
   x7:=fun b es e=>by simp at e}
 ·exact {
   n0:=X.n0
   nx:=X.nx
   fz:=fun x hx=>⟨.inl hx,X.old x (S.fz x hx)⟩
   fo:=fun x hx _ hd=>by
    rcases hd with q|⟨q,_⟩
    ·exact q
    ·dsimp only at hx;omega
   out:=fun x hx _=>X.old x hx
   loc:=fun b hb=>absurd hb no
   len:=fun _=>Nat.zero_le _
   le:=fun b hb=>absurd hb (Nat.not_lt_zero _)
   uE:=fun b hb=>absurd hb (Nat.not_lt_zero _)
   vV:=fun b hb=>absurd hb (Nat.not_lt_zero _)}
open Go Go.RowKit
theorem rk {p:bH} (lK:nk p):Fz E O 37 [.agg (bB p)] (pi (if bQ p=true then 0 else 30)):=
 Fz.su fun F H φ vs w Rv=>by
  cases Rv with|cons a Rv=>
  cases Rv
  obtain ⟨c1,rfl,h1⟩:=sr (by simp) a
  exact nP w (yp lK h1)
theorem FN {p:bH} {t:fy} (lK:nk p) (Lk:ym t):Fz E O 38 [.agg (bB p),.agg (ij t)] (pi (fS p 0 t)):=
 Fz.su fun F H φ vs w Rv=>by
  cases Rv with|cons a Rv=>
  cases Rv with|cons c Rv=>
  cases Rv
  obtain ⟨c1,rfl,h1⟩:=sr (by simp) a
  obtain ⟨c2,rfl,h2⟩:=sr (by simp) c
  exact Bk w (yp lK h1) (FJ Lk h2)
theorem Ag {l m:List Int} (hl:l.length≤2^60):Fz E O 29 [oY l,oY m] (pb (decide (l=m))):=
 Fz.su fun F H φ vs hw Rv=>by
  cases Rv with|cons b Rv=>
  cases Rv with|cons c Rv=>
  cases Rv
  refine (Eb (nm (T0 b)) (nm (T0 c)) hl).mono ?_
  rintro x H' ⟨rfl,rfl⟩
  exact ⟨rfl,Ext.refl _⟩
theorem ue {l:List Int} (hb:l.length≤2^40):Fo E O 70 [oY l] 1 l.length (l.map pi):=by
 have:=Fo.su (f:=70) (args:=[oY l]) (rows:=bz l) Nat.one_pos (fun F H φ vs w Rv=>by
  cases Rv with|cons a b=>
  cases b
  exact je w (nm (T0 a)) hb)
 rw [gv]at this
 simpa [bz]using this
end Go.Proofs.YtppcmpmnglaleaaGreatDoor.A.P
namespace Go.Proofs.YtppcmpmnglaleaaGreatDoor.A
open Go
def BK (p:bH) (fuel:Int) (s ps:List Int):Int:=(lr p fuel ⟨s,ps⟩).en
def bV (p:bH):Nat:=2^p.w.toNat
def kids (p:bH) (ps:List Int):List (List Int):=(List.range (bV p)).map fun(a:Nat)=>ps++[(a:Int)]
def jG {α:Type}:List (Option (List α))→Option (List α)
 |[]=>some []
 |x::l=>x.bind fun a=>(jG l).map fun b=>a++b
theorem wx {α:Type} (a b:List (Option (List α))):jG (a++b)=(jG a).bind fun x=>(jG b).map fun y=>x++y:=by
 induction a with
 |nil=>simp [jG]
 |cons x a ih=>
  simp only [List.cons_append,jG,ih]
  cases x with
  |none=>rfl
  |some u=>cases jG a<;>cases jG b<;>simp
def leaves (p:bH) (fuel:Int) (s:List Int):Nat→List Int→Option (List (List Int))
 |0,ps=>if BK p fuel s ps=4 then none else some [ps]
 |d+1,ps=>if BK p fuel s ps=4 then jG ((kids p ps).map fun q=>leaves p fuel s d q)else some [ps]
def under (p:bH) (fuel:Int) (s ps:List Int):Option (List (List Int)):=leaves p fuel s (16- ps.length) ps
theorem sv {p:bH} {fuel:Int} {s ps:List Int} (h:BK p fuel s ps≠4):under p fuel s ps=some [ps]:=by
 unfold under
 cases 16- ps.length<;>simp [leaves,h]
theorem yu {p:bH} {fuel:Int} {s ps:List Int} (h:BK p fuel s ps=4) (hl:16≤ps.length):under p fuel s ps=none:=by
 unfold under
 rw [show 16- ps.length=0 by omega,leaves,if_pos h]
theorem nq {p:bH} {ps q:List Int} (h:q∈kids p ps):q.length=ps.length+1:=by
 simp only [kids,List.mem_map]at h
 obtain ⟨a,_,rfl⟩:=h
 simp
theorem yw {p:bH} {fuel:Int} {s ps:List Int} (h:BK p fuel s ps=4) (hl:ps.length<16):under p fuel s ps=jG ((kids p ps).map (under p fuel s)):=by
 unfold under
 obtain ⟨d,hd⟩:∃d,16- ps.length=d+1:=⟨15- ps.length,by omega⟩
 rw [hd,leaves,if_pos h]
 congr 1
 refine List.map_congr_left fun q hq=>?_
 rw [nq hq,show 16- (ps.length+1)=d by omega]
def nr (p:bH) (fuel:Int) (s:List Int):Option (List (List Int)):=under p fuel s []
def ofM (p:bH) (fuel:Int) (s:List Int) (most:Nat):Option (List (List Int)):=(nr p fuel s).bind fun l=>if l.length≤most then some l else none
def rest (p:bH) (fuel:Int) (s:List Int) (nB:List (List Int)):Option (List (List Int)):=jG (nB.reverse.map (under p fuel s))
theorem lh {p:bH} {fuel:Int} {s:List Int} (st:List (List Int)) (q:List Int):rest p fuel s (st++[q])=(under p fuel s q).bind fun x=>(rest p fuel s st).map fun y=>x++y:=by
 simp [rest,jG]
theorem BL {p:bH} {fuel:Int} {s:List Int} (st ks:List (List Int)):rest p fuel s (st++ks.reverse)=(jG (ks.map (under p fuel s))).bind fun x=>(rest p fuel s st).map fun y=>x++y:=by
 simp [rest,wx]
def sw (nB:List (List Int)):Prop:=∀i q,nB[i]?=some q→i≤255*q.length∧q.length≤16∧∀n∈q,0≤n∧n<256
theorem sx {st:List (List Int)} {q:List Int} (h:sw (st++[q])):sw st:=fun i u hi=>h i u (by
 rw [al0 (alT.1 hi).1];exact hi)
theorem BM {nB:List (List Int)} (h:sw nB):nB.length≤4081:=by
 rcases Nat.eq_zero_or_pos nB.length with h0|h0
 ·omega
 ·have:=h (nB.length- 1) (nB[nB.length- 1]'(by omega)) (alN (by omega))
  have h1:=this.1
  have h2:=this.2.1
  omega
theorem yx {p:bH} {st:List (List Int)} {q:List Int} (hw:bV p≤256) (h:sw (st++[q])) (hq:q.length<16):sw (st++(kids p q).reverse):=by
 intro i u hi
 have hs:=(h st.length q (by simp)).1
 rcases Nat.lt_or_ge i st.length with h1|h1
 ·rw [al0 h1]at hi
  exact sx h i u hi
 ·rw [List.getElem?_append_right h1]at hi
  have hu:u∈kids p q:=by
   have:=alS hi
   simpa using this
  have hl:=nq hu
  have Bj:i- st.length<(kids p q).length:=by
   have:=(alT.1 hi).1
   simpa using this
  have hk:(kids p q).length=bV p:=by simp [kids]
  refine ⟨by omega,by omega,fun n hn=>?_⟩
  simp only [kids,List.mem_map,List.mem_range]at hu
  obtain ⟨a,ha,rfl⟩:=hu
  rcases List.mem_append.1 hn with h2|h2
  ·exact (h st.length q (by simp)).2.2 n h2
  ·simp at h2;omega
theorem BN {p:bH} {q:List Int} {j:Nat} (h:j<bV p):(kids p q).reverse.take (j+1)=(kids p q).reverse.take j++[q++[((bV p- 1- j:Nat):Int)]]:=by
 have hl:(kids p q).length=bV p:=by simp [kids]
 rw [List.take_add_one,List.getElem?_reverse (by omega),hl]
 simp only [kids,List.getElem?_map,List.getElem?_range (show bV p- 1- j<bV p by omega)]
 rfl
theorem rl {p:bH} {q:List Int}:(kids p q).reverse.take (bV p)=(kids p q).reverse:=alU (by simp [kids])
def lv (nB:List (List Int)):Nat:=(nB.map fun q=>257^(17- q.length)).sum
theorem kE (a b:List (List Int)):lv (a++b)=lv a+lv b:=by simp [lv]
theorem BO {p:bH} {q:List Int} (hw:bV p≤256) (hq:q.length<16):lv (kids p q).reverse<257^(17- q.length):=by
 have h1:lv (kids p q).reverse=bV p*257^(16- q.length):=by
  have:∀l:List (List Int),(∀u∈l,u.length=q.length+1)→lv l=l.length*257^(16- q.length):=by
   intro l
   induction l with
   |nil=>intro _;simp [lv]
   |cons u l ih=>
    intro h
    have e:lv (u::l)=257^(17- u.length)+lv l:=by simp [lv]
    rw [e,ih fun v hv=>h v (by simp [hv]),h u (by simp),show 17- (q.length+1)=16- q.length by omega,List.length_cons,Nat.succ_mul]
    omega
  rw [this _ fun u hu=>nq (by simpa using hu)]
  simp [kids]
 rw [h1,show 17- q.length=(16- q.length)+1 by omega,Nat.pow_succ]
 have:0<257^(16- q.length):=Nat.pow_pos (by omega)
 calc bV p*257^(16- q.length)≤256*257^(16- q.length):=Nat.mul_le_mul_right _ hw
  _<257^(16- q.length)*257:=by omega
theorem sy {p:bH} (h:bQ p=true):1≤p.w∧p.w≤8:=by
 simp only [bQ,aD,bP,alQ,alZ]at h
 exact h.1.1
theorem sA {p:bH} (h:bQ p=true):bV p≤256:=by
 have h1:=sy h
 have:p.w.toNat≤8:=by omega
 exact Nat.le_trans (Nat.pow_le_pow_right (by omega) this) (by decide)
end Go.Proofs.YtppcmpmnglaleaaGreatDoor.A
namespace Go.Proofs.YtppcmpmnglaleaaGreatDoor.A.P
open Go Go.RowKit
def str (l:List fy):List (List PV):=l.map ij
def wy (l:List fy):List PV:=(str l).flatten
@[simp]theorem W5:str []=[]:=rfl
@[simp]theorem W6:wy []=[]:=rfl
@[simp]theorem wz (a:fy) (l:List fy):wy (a::l)=ij a++wy l:=by simp [wy,str]
theorem jH (a b:List fy):wy (a++b)=wy a++wy b:=by simp [wy,str]
@[simp]theorem yy (l:List fy):(str l).length=l.length:=by simp [str]
@[simp]theorem Qa (t:fy):(ij t).take 2=ij t:=rfl
@[simp]theorem Qb (p:bH):(bB p).take 3=bB p:=rfl
@[simp]theorem Ll (p:bH):(bB p).length=3:=rfl
@[simp]theorem Lm (t:fy):(ij t).length=2:=rfl
@[simp]theorem yz:∀l:List fy,(wy l).length=l.length*2
 |[]=>rfl
 |a::l=>by rw [wz,alW,yz l];simp;omega
@[simp]theorem uf:∀l:List fy,(wy l).all yh=true
 |[]=>rfl
 |a::l=>by rw [wz,List.all_append,uf l];simp [yh,ij]
@[simp]theorem W7 (l:List fy):dN (wy l)=true:=wu (uf l)
theorem Ah (l:List fy) (i:Nat):(str l)[i]?=(l[i]?).map ij:=by simp [str]
theorem JE (l:List fy):∀r∈str l,r.length=2:=by
 intro r hr
 simp only [str,List.mem_map]at hr
 obtain ⟨t,_,rfl⟩:=hr
 rfl
def ew (p:bH) (fuel:Int):Int:=if bQ p=false then 30 else if fuel<0∨4096<fuel then 1 else 0
theorem wA {t:fy} (Lk:ym t):Fz E O 44 [.agg (ij t),.agg (ij t)] (pb true):=by
 refine Fz.body (F:=UM) rfl rfl rfl rfl ?_
 simp (maxSteps:=4000000)-implicitDefEqProofs+contextual [-getElem?_pos,alM,UM,ij]
 refine bA (Ag (l:=t.store) (m:=t.store) (by have:=Lk.1;omega)) ?_ ?_ ?_
 iterate 2· simp (maxDischargeDepth:=8)-implicitDefEqProofs [-getElem?_pos,alM]
 simp (maxSteps:=4000000)-implicitDefEqProofs+contextual [-getElem?_pos,alM]
 refine bA (Ag (l:=t.bR) (m:=t.bR) (by have:=Lk.2.1;omega)) ?_ ?_ ?_
 iterate 2· simp (maxDischargeDepth:=8)-implicitDefEqProofs [-getElem?_pos,alM]
 simp (maxSteps:=4000000)-implicitDefEqProofs+contextual [-getElem?_pos,alM]
theorem Ox {l:List fy} (ok:∀t∈l,ym t) (hl:l.length<2^60):Fz E O 16 [.fs 2 (str l),.fs 2 (str l)] (pb true):=by
 refine Fz.body (F:=UG) rfl rfl rfl rfl ?_
 simp (maxSteps:=4000000)-implicitDefEqProofs+contextual [-getElem?_pos,alM,UG]
 refine tX (fun i fr h=>h=[]∧fr.get 0= .fs 2 (str l)∧fr.get 1= .fs 2 (str l)∧fr.get 5=pi i) l.length ?_ ?_
 ·exact ⟨rfl,by simp,by simp,by simp⟩
 rintro i fr h hi ⟨rfl,f0,f1,f5⟩
 by_cases h:i<l.length
 ·obtain ⟨t,ht⟩:∃t,l[i]?=some t:=⟨_,alN h⟩
  have w4:IntKind.i64.wrap ((i:Int)+1)=((i+1:Nat):Int):=aj ⟨by omega,by omega⟩
  simp (maxSteps:=4000000)-implicitDefEqProofs+contextual [-getElem?_pos,alM,f0,f1,f5,h,Ah,ht]
  refine bA (wA (ok t (alS ht))) ?_ ?_ ?_
  iterate 2· simp (maxDischargeDepth:=8)-implicitDefEqProofs [-getElem?_pos,alM]
  simp (maxSteps:=4000000)-implicitDefEqProofs+contextual [-getElem?_pos,alM,f0,f1,f5,w4]
  exact .for h ⟨rfl,by simp [f0],by simp [f1],by simp⟩
 ·obtain rfl:i=l.length:=by omega
  simp (maxSteps:=4000000)-implicitDefEqProofs+contextual [-getElem?_pos,alM,f0,f1,f5]
open Go Go.RowKit
def rm (l:List (List Int)):List PV:=l.map fun q=>oY q
@[simp]theorem Oy (l:List (List Int)):(rm l).length=l.length:=by simp [rm]
theorem fu (a b:List (List Int)):rm (a++b)=rm a++rm b:=by simp [rm]
@[simp]theorem JF:∀l:List (List Int),dN (rm l)=true
 |[]=>rfl
 |a::l=>by
  show dN (oY a::rm l)=true
  rw [nY]
  exact ⟨rfl,JF l⟩
@[simp]theorem W8:rm []=[]:=rfl
@[simp]theorem T5 (a:List Int) (l:List (List Int)):rm (a::l)=oY a::rm l:=rfl
@[simp]theorem T6 (l:List (List Int)):(rm l).tail=rm l.tail:=by cases l<;>rfl
theorem JG (l:List (List Int)) (i:Nat):(rm l)[i]?=(l[i]?).map fun q=>oY q:=by simp [rm]
theorem FO {b:Nat} {h:PH} {x v:PV} {xs ys:List PV} (hb:h[b]?=some (.cells 1 (xs++ys))) (hk:nV x=some 1) (hx:hZ h 1 1 x=some [v]) (hv:hY h x=true) (GF:xs.length<2^40):
 rQ 1 24 h (.sl 1 b 0 xs.length (xs.length+ys.length)) x=some (.sl 1 b 0 (xs.length+1) ((xs++[v]).length+(ys.drop 1).length),h.set b (.cells 1 ((xs++[v])++ys.drop 1))):=by
 unfold rQ
 rw [hk]
 simp only [Nat.one_ne_zero,if_false,hx,hb]
 rw [if_pos ⟨trivial,trivial,Nat.one_pos,by simp,by omega,by omega,by omega⟩]
 cases ys with
 |nil=>
  cases xs with
  |nil=>simp
  |cons u us=>simp
 |cons y ys=>
  rw [if_neg (by simp),if_pos (by simp)]
  have e:rP (xs++y::ys) ((0+xs.length)*1) [v]=xs++[v]++ys:=by
   rw [uc (by simp),Nat.zero_add,Nat.mul_one]
   simp
  rw [e]
  simp
  omega
@[simp]theorem BP:∀l:List Int,jD (l.map pi)=true
 |[]=>rfl
 |a::l=>by simp [BP l]
theorem Ai {A:Nat→Prop} {σ:Nat→Nat} {h bs:PH}:∀{a b c:List PV},dN a=true→(nc A σ h bs (a++b) (a++c)↔nc A σ h bs b c)
 |[],_,_,_=>Iff.rfl
 |p::a,b,c,k=>by
  rw [nY]at k
  simp only [List.cons_append,Ft,Ai k.2]
  exact ⟨fun q=>q.2,fun q=>⟨q9 k.1,q⟩⟩
attribute [simp] Ai
theorem nZ {fr:PF} {h h2:PH} (Z L:List Nat) (l:List (Nat×PV)) (hL:L.length=h2.length) (nd:L.Nodup) (hz:∀b∈L,b∉Z) (K:kC (· ∈Z) (fun i=>L.getD i 0) h h2 0 h2) (V:nX (· ∈Z) (fun i=>L.getD i 0) h h2 fr l):Gh 0 fr h (PF.xb l) h2:=
 Ok _ _ l (kB.at L hL nd hz K) V
def isI (o:Option PB) (l:List Int):Prop:=match o with
 |some (.cells z cs)=>z=1∧cs=l.map pi
 |_=>False
@[simp]theorem af0 (z:Nat) (cs:List PV) (l:List Int):isI (some (.cells z cs)) l↔z=1∧cs=l.map pi:=Iff.rfl
@[simp]theorem W9 {A:Nat→Prop} {σ:Nat→Nat} {h bs:PH} {b n:Nat} {l:List Int} (hn:l.length=n) (hA:A b) (hb:isI h[b]? l):Vg A σ h bs (.sl 1 b 0 n n) (oY l)↔True:=⟨fun _=>trivial,fun _=>by
 subst hn
 unfold isI at hb
 split at hb
 ·rename_i z cs e
  obtain ⟨rfl,rfl⟩:=hb
  exact ye (Om hA e)
 ·exact hb.elim⟩
theorem Oz {A:Nat→Prop} {h:PH} {b:Nat} {l:List fy} (hA:A b) (hb:h[b]?=some (.cells 2 (wy l))):Vz A h (.sl 2 b 0 l.length l.length) (.fs 2 (str l)):=
 ua hA hb (by omega) (yy l) (JE l) (pO (uf l))
@[simp]theorem ac1 {A:Nat→Prop} {σ:Nat→Nat} {h bs:PH} {b n:Nat} {l:List fy} (hn:l.length=n) (hA:A b) (hb:h[b]?=some (.cells 2 (wy l))):Vg A σ h bs (.sl 2 b 0 n n) (.fs 2 (str l))↔True:=⟨fun _=>trivial,fun _=>hn▸ye (Oz hA hb)⟩
def pQ (s:List Int) (l:List (List Int)):List fy:=l.map fun ps=>⟨s,ps⟩
@[simp]theorem Xd (s:List Int):pQ s []=[]:=rfl
@[simp]theorem ac2:ir []=[]:=rfl
@[simp]theorem Xe {A:Nat→Prop} {σ:Nat→Nat} {h bs:PH}:Vg A σ h bs (.v (.slice none 0 0)) (oY [])↔True:=⟨fun _=>trivial,fun _=>(Oe 1).2 trivial⟩
@[simp]theorem OA (s:List Int) (l:List (List Int)):(pQ s l).length=l.length:=by simp [pQ]
theorem rp (s:List Int) (a b:List (List Int)):pQ s (a++b)=pQ s a++pQ s b:=by simp [pQ]
def yA (s:List Int):Option (List (List Int))→List PV
 |some l=>[.fs 2 (str (pQ s l)),pi 0]
 |none=>[jS,pi 5]
theorem JH {E:Env} {O:iq} {n:Nat} {Q:Ex→PF→PH→Prop} {ks:List Kp} {fr:PF} {m:Mp} {l:List AO} {d:Option Nat} {V:List Nat} {b j c:Nat} {h:PH} {x v:PV} {xs ys:List PV} (hb:h[b]?=some (.cells 1 (xs++ys))) (hj:j=xs.length) (hc:c=xs.length+ys.length) (hk:nV x=some 1) (hx:hZ h 1 1 x=some [v]) (hv:hY h x=true) (GF:xs.length<2^40)
 (next:PK E O n Q (.ops (m.up V (fr.aM d (.sl 1 b 0 (xs.length+1) ((xs++[v]).length+(ys.drop 1).length))) (h.set b (.cells 1 ((xs++[v])++ys.drop 1)))) l ks) (fr.aM d (.sl 1 b 0 (xs.length+1) ((xs++[v]).length+(ys.drop 1).length))) (h.set b (.cells 1 ((xs++[v])++ys.drop 1)))):PO E O n Q (rQ 1 24 h (.sl 1 b 0 j c) x) V d m l ks fr:=by
 subst hj hc
 rw [FO hb hk hx hv GF]
 exact (TF _ _ _).2 next
def OH (p:bH) (s:List Int) (out nB junk:List (List Int)):PH:=[.cells 3 (bB p),.cells 2 (wy (pQ s out)),.cells 1 (rm nB++rm junk)]
def OL (p:bH) (s:List Int) (fuel:Int) (most:Nat) (out nB junk:List (List Int)):List (Nat×PV):=[(1,pi fuel),(2,oY s),(3,pi most),(4,.ref 0 0 3),(10,.sl 2 1 0 out.length out.length),(11,.sl 1 2 0 nB.length (nB.length+junk.length))]
def OI (p:bH) (s:List Int) (fuel:Int) (most:Nat) (k:Nat) (fr:PF) (h:PH):Prop:=∃out nB junk,k=lv nB∧sw nB∧out.length≤most∧nr p fuel s=(rest p fuel s nB).map (fun x=>out++x)∧h=OH p s out nB junk∧∀t∈OL p s fuel most out nB junk,fr.get t.1=t.2
theorem wB {k n c:Nat} (h:n≤c):a7 k c none (some (.int .i64 (n:Int))) none=some (0,n,c):=by
 simp [a7,fP,h]
def WI (p:bH) (s:List Int) (fuel:Int) (most:Nat) (out st:List (List Int)) (q:List Int) (junk:List (List Int)) (j:Nat) (fr:PF) (h:PH):Prop:=
 h=OH p s out (st++(kids p q).reverse.take j) ((q::junk).drop j)∧∀t∈(12,oY q)::(15,pi ((bV p:Int)- 1- j))::OL p s fuel most out (st++(kids p q).reverse.take j) ((q::junk).drop j),fr.get t.1=t.2
theorem FP {p:bH} {s:List Int} {fuel:Int} {most:Nat} {out st:List (List Int)} {q:List Int} {junk:List (List Int)} {j:Nat}:
 WI p s fuel most out st q junk j (PF.xb ((12,oY q)::(15,pi ((bV p:Int)- 1- j))::OL p s fuel most out (st++(kids p q).reverse.take j) ((q::junk).drop j))) (OH p s out (st++(kids p q).reverse.take j) ((q::junk).drop j)):=by
 refine ⟨rfl,fun t ht=>?_⟩
 simp only [OL,List.mem_cons,List.not_mem_nil,or_false]at ht
 rcases ht with rfl|rfl|rfl|rfl|rfl|rfl|rfl|rfl<;>simp [OL]
theorem yB {p:bH} {s:List Int} {fuel:Int} {most:Nat} {out nB junk:List (List Int)} (t:Nat×PV) (ht:t∈OL p s fuel most out nB junk):(PF.xb (OL p s fuel most out nB junk)).get t.1=t.2:=by
 simp only [OL,List.mem_cons,List.not_mem_nil,or_false]at ht
 rcases ht with rfl|rfl|rfl|rfl|rfl|rfl<;>simp [OL]
theorem T7 {p:bH} {s:List Int} {fuel:Int} {most:Nat} (lK:nk p) (hp:bQ p=true) (hs:s.length≤2^40) (Ln:∀n∈s,e8 n) (hm:most≤16384):
 Fz E O 39 [.agg (bB p),pi fuel,oY s,pi most] (.fJ (yA s (ofM p fuel s most))):=by
 refine rS.body (F:=UL) rfl rfl rfl ?_
 have hw:=sy hp
 simp (maxSteps:=4000000)-implicitDefEqProofs+contextual [-getElem?_pos,alM,UL,bB]
 refine we (OI p s fuel most) (lv [[]]) (ei (h2:=OH p s [] [[]] []) [0,9,1] (OL p s fuel most [] [[]] []) ?_ ?_ ?_ ?_ ?_ ?_) ⟨[],[[]],[],rfl,?_,Nat.zero_le _,?_,rfl,?_⟩ ?_
 ·simp [OH,OL,bB,rm]
 iterate 2· simp
 ·intro b hb;omega
 iterate 2· simp (maxDischargeDepth:=8)-implicitDefEqProofs [a6,alM,OH,OL,bB,rm]
 ·intro i q h
  cases i with
  |zero=>simp at h;subst h;simp
  |succ i=>simp at h
 ·cases h:under p fuel s []<;>simp [rest,jG,nr,h]
 ·exact yB
 rintro k fr h ⟨out,nB,junk,rfl,ta,T8,bD,rfl,iX⟩
 simp only [OL,List.mem_cons,List.not_mem_nil,or_false,forall_eq_or_imp,forall_eq]at iX
 obtain ⟨f1,f2,f3,f4,f10,f11⟩:=iX
 have hlen:=BM ta
 rcases List.eq_nil_or_concat nB with rfl|⟨st,q,rfl⟩
 ·
  have e:ofM p fuel s most=some out:=by
   unfold ofM
   rw [bD]
   simp [rest,jG,T8]
  rw [e]
  simp (maxSteps:=4000000)-implicitDefEqProofs+contextual [-getElem?_pos,alM,f1,f2,f3,f4,f10,f11,OH]
  refine ⟨_,_,dw ?_,rfl,rfl,by simp [yA]⟩
  simp (maxDischargeDepth:=8)-implicitDefEqProofs [yA]
 rw [List.concat_eq_append]at*
 have hq:=ta st.length q (by simp)
 have hql:=hq.2.1
 simp only [alW,List.length_singleton]at hlen
 have w1:IntKind.i64.wrap (st.length:Int)=st.length:=aj ⟨by omega,by omega⟩
 obtain ⟨T,hT⟩:∃T:fy,T=⟨s,q⟩:=⟨_,rfl⟩
 have ym:ym T:=by subst hT;exact ⟨by show s.length<_;omega,by show q.length<_;omega,Ln,fun n hn=>by have:=hq.2.2 n hn;exact ⟨by omega,by omega⟩⟩
 have hg:(rm (st++[q])++rm junk)[st.length]?=some (oY q):=by rw [al0 (by simp),JG];simp
 have ab:a7 (st.length+1) (st.length+1+junk.length) none (some (.int .i64 (st.length:Int))) none=some (0,st.length,st.length+1+junk.length):=wB (by omega)
 have c1:0<st.length+1+junk.length∧(st.length:Int)<st.length+1:=by omega
 have c2:st.length≤st.length+1+junk.length:=by omega
 have c3:st.length+(junk.length+1)=st.length+1+junk.length:=by omega
 simp (maxSteps:=4000000)-implicitDefEqProofs+contextual [-getElem?_pos,alM,f1,f2,f3,f4,f10,f11,OH,w1,hg,ab,c1,c2]
 subst hT
 refine bA (FM (fuel:=fuel) lK ym) ?_ ?_ ?_
 iterate 2· simp (maxDischargeDepth:=8)-implicitDefEqProofs [-getElem?_pos,alM,ij]
 have hE:BK p fuel s q=(lr p fuel ⟨s,q⟩).en:=rfl
 by_cases he:(lr p fuel ⟨s,q⟩).en=4
 ·by_cases hl:q.length=16
  ·have e:ofM p fuel s most=none:=by
    unfold ofM
    rw [bD,lh,yu (by rw [hE];exact he) (by omega)]
    rfl
   rw [e]
   simp (maxSteps:=4000000)-implicitDefEqProofs+contextual [-getElem?_pos,alM,cT,he,hl]
   refine ⟨_,_,dw ?_,rfl,rfl,by simp [yA]⟩
   simp (maxDischargeDepth:=8)-implicitDefEqProofs [yA]
  ·have Dj:¬ (q.length:Int)=16:=by omega
   have hN:=sA hp
   have lS:=jg hw
   have hNi:(2:Int)^p.w.toNat=(bV p:Int):=by simp [bV]
   have w4:IntKind.i64.wrap ((bV p:Int)- 1)=(bV p:Int)- 1:=aj ⟨by omega,by omega⟩
   have hsh:=vr hw
   rw [hNi]at hsh
   have g0:(bB p)[0]?=some (pi p.w):=rfl
   simp (maxSteps:=4000000)-implicitDefEqProofs+contextual [-getElem?_pos,alM,cT,he,Dj,f4,hsh,w4,g0]
   refine iC (WI p s fuel most out st q junk) (bV p) (nZ (h2:=OH p s out (st++(kids p q).reverse.take 0) ((q::junk).drop 0)) [] [0,1,2] ((12,oY q)::(15,pi ((bV p:Int)- 1- (0:Nat)))::OL p s fuel most out (st++(kids p q).reverse.take 0) ((q::junk).drop 0)) ?_ ?_ ?_ ?_ ?_) FP ?_
   ·simp [OH,OL,fu,f1,f2,f3,f4,f10,c3]
   iterate 2· simp
   iterate 2· simp (maxDischargeDepth:=8)-implicitDefEqProofs [a6,alM,OH,OL,fu,f1,f2,f3,f4,f10,c3]
   clear f1 f2 f3 f4 f10 f11
   rintro j fr h hj ⟨rfl,iX⟩
   simp only [OL,List.mem_cons,List.not_mem_nil,or_false,forall_eq_or_imp,forall_eq]at iX
   obtain ⟨f12,f15,f1,f2,f3,f4,f10,f11⟩:=iX
   obtain ⟨a,ha⟩:∃a:Int,(bV p:Int)- 1- j=a:=⟨_,rfl⟩
   rw [ha]at f15
   have hkl:(st++(kids p q).reverse.take j).length≤5000:=by
    have:(kids p q).length=bV p:=by simp [kids]
    simp;omega
   by_cases hjN:j<bV p
   ·have Hl:0≤a:=by omega
    have w5:IntKind.i64.wrap (a- 1)=a- 1:=aj ⟨by omega,by omega⟩
    have hkt:=BN (q:=q) hjN
    have ha2:(((bV p- 1- j:Nat):Int))=a:=by omega
    rw [ha2]at hkt
    obtain ⟨K,hK⟩:∃K,st++(kids p q).reverse.take j=K:=⟨_,rfl⟩
    obtain ⟨J,hJ⟩:∃J,(q::junk).drop j=J:=⟨_,rfl⟩
    have hK2:st++(kids p q).reverse.take (j+1)=K++[q++[a]]:=by rw [hkt,←List.append_assoc,hK]
    have hJ2:(q::junk).drop (j+1)=J.drop 1:=by rw [←hJ,List.drop_drop]
    rw [hK]at hkl
    rw [hK,hJ]at f11⊢
    simp (maxSteps:=4000000)-implicitDefEqProofs+contextual [-getElem?_pos,alM,f12,f15,f11,Hl,OH]
    refine yk (ue (l:=q) (by omega)) ?_ ?_ ?_
    iterate 2· simp (maxDischargeDepth:=8)-implicitDefEqProofs [-getElem?_pos,alM]
    simp (maxSteps:=4000000)-implicitDefEqProofs+contextual [-getElem?_pos,alM,f15]
    apply k8
    iterate 9· first|rfl|omega|(simp-implicitDefEqProofs [-getElem?_pos,alM];first|done|rfl|omega)
    simp (maxSteps:=4000000)-implicitDefEqProofs+contextual [-getElem?_pos,alM]
    refine JH (xs:=rm K) (ys:=rm J) (v:=.sl 1 3 0 (q.length+1) (q.length+1)) ?_ ?_ ?_ ?_ ?_ ?_ ?_ ?_
    iterate 6· first|rfl|(simp;done)
    ·simp;omega
    simp (maxSteps:=4000000)-implicitDefEqProofs+contextual [-getElem?_pos,alM,f15,w5]
    have e1:(bV p:Int)- 1- ((j+1:Nat):Int)=a- 1:=by omega
    have W:=FP (p:=p) (s:=s) (fuel:=fuel) (most:=most) (out:=out) (st:=st) (q:=q) (junk:=junk) (j:=j+1)
    rw [hK2,hJ2,e1]at W
    refine .tW hjN (nZ (h2:=OH p s out (K++[q++[a]]) (J.drop 1)) [3] [0,1,2] ((12,oY q)::(15,pi (a- 1))::OL p s fuel most out (K++[q++[a]]) (J.drop 1)) ?_ ?_ ?_ ?_ ?_) W
    ·simp [OH,OL,fu,f1,f2,f3,f4,f10,f12]
    iterate 2· simp
    iterate 2· simp (maxDischargeDepth:=8)-implicitDefEqProofs [a6,alM,OH,OL,fu,f1,f2,f3,f4,f10,f12]
   ·obtain rfl:j=bV p:=by omega
    have dm:¬ 0≤a:=by omega
    have akb:(kids p q).length=bV p:=by simp [kids]
    rw [rl]at f11
    simp (maxSteps:=4000000)-implicitDefEqProofs+contextual [-getElem?_pos,alM,f15,dm,OH]
    refine .ofG ?_ (nZ (h2:=OH p s out (st++(kids p q).reverse) ((q::junk).drop (bV p))) [] [0,1,2] (OL p s fuel most out (st++(kids p q).reverse) ((q::junk).drop (bV p))) ?_ ?_ ?_ ?_ ?_) ⟨out,st++(kids p q).reverse,(q::junk).drop (bV p),rfl,yx hN ta (by omega),T8,?_,rfl,yB⟩
    ·rw [kE,kE]
     have:=BO (q:=q) hN (by omega)
     simp only [lv,List.map_cons,List.map_nil,List.sum_cons,List.sum_nil,Nat.add_zero]at*
     omega
    ·simp [OH,OL,rl,f1,f2,f3,f4,f10,f11]
    iterate 2· simp
    iterate 2· simp (maxDischargeDepth:=8)-implicitDefEqProofs [a6,alM,OH,OL,rl,f1,f2,f3,f4,f10,f11]
    ·rw [bD,lh,BL,yw (by rw [hE];exact he) (by omega)]
 ·by_cases ho:out.length=most
  ·have e:ofM p fuel s most=none:=by
    unfold ofM
    rw [bD,lh,sv (by rw [hE];exact he)]
    cases rest p fuel s st<;>simp [ho]
   rw [e]
   simp (maxSteps:=4000000)-implicitDefEqProofs+contextual [-getElem?_pos,alM,cT,he,ho,f3,f10]
   refine ⟨_,_,dw ?_,rfl,rfl,by simp [yA]⟩
   simp (maxDischargeDepth:=8)-implicitDefEqProofs [yA]
  ·have w3:¬ (out.length:Int)=(most:Int):=by omega
   simp (maxSteps:=4000000)-implicitDefEqProofs+contextual [-getElem?_pos,alM,cT,he,f2,f3,f10,w3]
   refine yk (ue (l:=s) hs) ?_ ?_ ?_
   iterate 2· simp (maxDischargeDepth:=8)-implicitDefEqProofs [-getElem?_pos,alM]
   simp (maxSteps:=4000000)-implicitDefEqProofs+contextual [-getElem?_pos,alM,f2]
   refine yk (ue (l:=q) (by omega)) ?_ ?_ ?_
   iterate 2· simp (maxDischargeDepth:=8)-implicitDefEqProofs [-getElem?_pos,alM]
   simp (maxSteps:=4000000)-implicitDefEqProofs+contextual [-getElem?_pos,alM,f10]
   apply k8
   iterate 9· first|rfl|omega|(simp-implicitDefEqProofs [-getElem?_pos,alM];first|done|rfl|omega)
   simp (maxSteps:=4000000)-implicitDefEqProofs+contextual [-getElem?_pos,alM]
   refine .ofG ?_ (nZ (h2:=OH p s (out++[q]) st (q::junk)) [4,5] [0,1,2] (OL p s fuel most (out++[q]) st (q::junk)) ?_ ?_ ?_ ?_ ?_) ⟨out++[q],st,q::junk,rfl,sx ta,?_,?_,rfl,?_⟩
   ·rw [kE]
    have:0<lv [q]:=by simp [lv];exact Nat.pow_pos (by omega)
    omega
   ·simp [OH,OL,rp,jH,fu,ij,pQ,f1,f2,f3,f4,c3]
   iterate 2· simp
   iterate 2· simp (maxDischargeDepth:=8)-implicitDefEqProofs [a6,alM,OH,OL,rp,jH,fu,ij,pQ,f1,f2,f3,f4,c3]
   ·simp;omega
   ·rw [bD,lh,sv (by rw [hE];exact he)]
    cases rest p fuel s st<;>simp
   ·exact yB
end Go.Proofs.YtppcmpmnglaleaaGreatDoor.A.P
namespace Go.Proofs.YtppcmpmnglaleaaGreatDoor.A.P
open Go Go.RowKit
theorem JI {p:bH} {s:List Int}:jM p ⟨s,[]⟩=bX p.w p.vars s:=by simp [jM]
theorem JJ {s:List Int} (hs:s.length<2^60) (Ln:∀n∈s,e8 n):ym ⟨s,[]⟩:=⟨hs,by show(0:Nat)<_;omega,Ln,fun n hn=>by cases hn⟩
theorem wC {p:bH} {s:List Int} (h:bQ p=true) (hs:bX p.w p.vars s=true):s.length≤48:=by
 simp only [bQ,aD,alQ,alZ]at h
 simp only [bX,alQ,alZ]at hs
 have h1:=h.1.2.2.2.2
 have h2:=hs.1
 omega
def BQ (p:bH) (fuel:Int) (s:List Int):List PV:=
 if ew p fuel≠0 then [jS,pi (ew p fuel)]else if bX p.w p.vars s=false then [jS,pi 1]else yA s (ofM p fuel s 16384)
theorem JK (p:bH) (fuel:Int) (s:List Int):dN (BQ p fuel s)=true:=by
 unfold BQ
 split
 ·simp
 ·split
  ·simp
  ·cases ofM p fuel s 16384<;>simp [yA]
theorem ac3 {p:bH} {fuel:Int} {s:List Int} (lK:nk p) (hs:s.length<2^60) (Ln:∀n∈s,e8 n):Fz E O 12 [.agg (bB p),pi fuel,oY s] (.fJ (BQ p fuel s)):=by
 refine Fz.body (F:=a12) rfl rfl rfl (by simp [JK]) ?_
 have Lk:ym ⟨s,[]⟩:=JJ hs Ln
 simp (maxSteps:=4000000)-implicitDefEqProofs+contextual [-getElem?_pos,alM,a12]
 refine bA (rk lK) ?_ ?_ ?_
 iterate 2· simp (maxDischargeDepth:=8)-implicitDefEqProofs [-getElem?_pos,alM]
 cases h:bQ p with
 |false=>
  have e:BQ p fuel s=[jS,pi 30]:=by simp [BQ,ew,h]
  rw [e]
  simp (maxSteps:=4000000)-implicitDefEqProofs+contextual [-getElem?_pos,alM,h]
 |true=>
  by_cases h1:fuel<0
  ·have e:BQ p fuel s=[jS,pi 1]:=by simp [BQ,ew,h,h1]
   rw [e]
   simp (maxSteps:=4000000)-implicitDefEqProofs [-getElem?_pos,alM,h,h1]
  ·by_cases h2:4096<fuel
   ·have e:BQ p fuel s=[jS,pi 1]:=by simp [BQ,ew,h,h1,h2]
    rw [e]
    simp (maxSteps:=4000000)-implicitDefEqProofs [-getElem?_pos,alM,h,h1,h2]
   ·have hf:ew p fuel=0:=by simp [ew,h];omega
    have e3:BQ p fuel s=if bX p.w p.vars s=false then [jS,pi 1]else yA s (ofM p fuel s 16384):=by simp [BQ,hf]
    simp (maxSteps:=4000000)-implicitDefEqProofs [-getElem?_pos,alM,h,h1,h2]
    refine rf [] (FN lK Lk) ?_ ?_
    ·simp (maxDischargeDepth:=8)-implicitDefEqProofs [ij]
    have hc:fS p 0 ⟨s,[]⟩=if bX p.w p.vars s=false then 50 else 0:=by simp [fS,h,JI]
    rw [hc,e3]
    cases h3:bX p.w p.vars s with
    |false=>
     simp (maxSteps:=4000000)-implicitDefEqProofs [-getElem?_pos,alM,h3,dI]
    |true=>
     simp (maxSteps:=4000000)-implicitDefEqProofs [-getElem?_pos,alM,h3,dI]
     have vL:=wC h h3
     refine bA (T7 (fuel:=fuel) (most:=16384) lK h (s:=s) (by omega) Ln (alR _)) ?_ ?_ ?_
     iterate 2· simp (maxDischargeDepth:=8)-implicitDefEqProofs [-getElem?_pos,alM]
     cases hm:ofM p fuel s 16384 with
     |none=>
      simp (maxSteps:=4000000)-implicitDefEqProofs [-getElem?_pos,alM,yA]
     |some l=>
      simp (maxSteps:=4000000)-implicitDefEqProofs [-getElem?_pos,alM,yA]
open Go Go.RowKit
end Go.Proofs.YtppcmpmnglaleaaGreatDoor.A.P
namespace Go.Proofs.YtppcmpmnglaleaaGreatDoor.A.P
open Go Go.RowKit
def fU (p:bH):Int:=cS (p.vars.map (·.cells))
theorem wD:∀(l:List Int) (a:Int),(∀c∈l,1≤c∧c≤8)→0≤a→a+8*l.length≤10000→a+l.length≤l.foldl (fun a c=>IntKind.i64.wrap (a+c)) a∧l.foldl (fun a c=>IntKind.i64.wrap (a+c)) a≤a+8*l.length
 |[],a,_,_,_=>by simp
 |c::l,a,h,h0,h1=>by
  have hc:=h c (by simp)
  simp only [List.length_cons]at*
  have e:IntKind.i64.wrap (a+c)=a+c:=aj ⟨by omega,by omega⟩
  have:=wD l (a+c) (fun x hx=>h x (by simp [hx])) (by omega) (by omega)
  simp only [List.foldl_cons,e]
  omega
theorem n4 {p:bH} (h:bQ p=true):1≤fU p∧fU p≤48:=by
 simp only [bQ,aD,alQ,alZ,al3]at h
 obtain ⟨⟨_,h1,h2,h3,h4⟩,_⟩:=h
 have:=wD (p.vars.map (·.cells)) 0 (fun c hc=>by
  simp only [List.mem_map]at hc
  obtain ⟨v,hv,rfl⟩:=hc
  obtain ⟨i,hi,e⟩:=List.mem_iff_getElem.1 hv
  have:=h3 i (by simpa using hi)
  rw [alN hi,e]at this
  exact oM this) (Int.le_refl _) (by simp;omega)
 simp only [List.length_map]at this
 exact ⟨by unfold fU cS;omega,h4⟩
theorem oh {p:bH} (h:nk p):p.vars.length<2^60:=h.2.1.1
theorem sB {V:List Vr} {i:Nat} {y:Vr} (hy:V[i]?=some y):cS ((V.map (·.cells)).take (i+1))=IntKind.i64.wrap (cS ((V.map (·.cells)).take i)+y.cells):=by
 rw [List.take_add_one]
 simp [cS,hy,List.foldl_append]
theorem ug {p:bH} (lK:nk p) (hv:p.vars.length<2^60):Fz E O 76 [.agg (bB p)] (pi (fU p)):=by
 refine Fz.body (F:=a76) rfl rfl rfl rfl ?_
 simp (maxSteps:=4000000)-implicitDefEqProofs+contextual [-getElem?_pos,alM,a76,bB]
 refine iC (fun i fr h=>h=[]∧fr.get 3=pi (cS ((p.vars.map (·.cells)).take i))∧fr.get 7=ri p.vars∧fr.get 8=pi p.vars.length∧fr.get 9=pi i) p.vars.length (nZ (h2:=[]) [] [] [(3,pi 0),(7,ri p.vars),(8,pi p.vars.length),(9,pi 0)] ?_ ?_ ?_ ?_ ?_) ⟨rfl,by simp [cS],by simp,by simp,by simp⟩ ?_
 ·simp
 iterate 2· simp
 iterate 2· simp (maxDischargeDepth:=8)-implicitDefEqProofs [a6,alM]
 rintro i fr h hi ⟨rfl,f3,f7,f8,f9⟩
 by_cases h:i<p.vars.length
 ·obtain ⟨y,hy⟩:∃y,p.vars[i]?=some y:=⟨_,alN h⟩
  have w4:IntKind.i64.wrap ((i:Int)+1)=((i+1:Nat):Int):=aj ⟨by omega,by omega⟩
  simp (maxSteps:=4000000)-implicitDefEqProofs+contextual [-getElem?_pos,alM,f3,f7,f8,f9,h,hy,FG]
  refine .tW h (nZ (h2:=[]) [] [] [(3,pi (cS ((p.vars.map (·.cells)).take (i+1)))),(7,ri p.vars),(8,pi p.vars.length),(9,pi (i+1:Nat))] ?_ ?_ ?_ ?_ ?_) ⟨rfl,by simp,by simp,by simp,by simp⟩
  ·simp [f7,f8,w4,sB hy]
  iterate 2· simp
  iterate 2· simp (maxDischargeDepth:=8)-implicitDefEqProofs [a6,alM,f7,f8,w4,sB hy]
 ·obtain rfl:i=p.vars.length:=by omega
  rw [alU (by simp)]at f3
  simp (maxSteps:=4000000)-implicitDefEqProofs+contextual [-getElem?_pos,alM,f3,f7,f8,f9,fU]
theorem T9 {n:Int} (h:0≤n∧n≤60):bq .shl (.int .i64 1) (.int .u64 (IntKind.u64.wrap n))=some (.int .i64 (2^n.toNat)):=by
 obtain ⟨m,rfl⟩:=Int.eq_ofNat_of_zero_le h.1
 have hm:m≤60:=by omega
 have e:IntKind.u64.wrap (m:Int)=m:=by
  simp [IntKind.wrap,IntKind.bits,IntKind.signed]
  omega
 have h1:(2:Int)^m≤2^60:=by
  have:=Nat.pow_le_pow_right (n:=2) (by omega) hm
  exact_mod_cast this
 have h0:(0:Int)<2^m:=Int.pow_pos (by omega)
 have w:IntKind.i64.wrap ((2:Int)^m)=2^m:=aj ⟨by omega,by omega⟩
 rw [e]
 simp [bq,cd,IntKind.bits,show min m 64=m by omega,w]
def fK (p:bH):Int:=p.w*fU p
theorem FQ {p:bH} (h:bQ p=true):1≤fK p∧fK p≤400:=by
 have hw:=sy h
 have hc:=n4 h
 unfold fK
 have h1:p.w*fU p≤8*48:=Int.mul_le_mul hw.2 hc.2 (by omega) (by omega)
 have h2:1*1≤p.w*fU p:=Int.mul_le_mul hw.1 hc.1 (by omega) (by omega)
 omega
def dO (p:bH):Int:=2^(fK p).toNat
def mg (p:bH):List PV:=if bQ p=false then [pi 0,pi 30]else if 60<fK p then [pi 0,pi 5]else [pi (dO p),pi 0]
theorem FR (p:bH):dN (mg p)=true:=by unfold mg;split<;>(try split)<;>simp
theorem Aj {p:bH} (lK:nk p):Fz E O 45 [.agg (bB p)] (.fJ (mg p)):=by
 refine Fz.body (F:=UN) rfl rfl rfl (by simp [FR]) ?_
 simp (maxSteps:=4000000)-implicitDefEqProofs+contextual [-getElem?_pos,alM,UN,bB]
 refine bA (rk lK) ?_ ?_ ?_
 iterate 2· simp (maxDischargeDepth:=8)-implicitDefEqProofs [-getElem?_pos,alM,bB]
 cases h:bQ p with
 |false=>
  have e:mg p=[pi 0,pi 30]:=by simp [mg,h]
  rw [e]
  simp (maxSteps:=4000000)-implicitDefEqProofs+contextual [-getElem?_pos,alM,h]
 |true=>
  have hb:=FQ h
  have w1:IntKind.i64.wrap (p.w*fU p)=fK p:=aj ⟨by unfold fK at hb;omega,by unfold fK at hb;omega⟩
  simp (maxSteps:=4000000)-implicitDefEqProofs+contextual [-getElem?_pos,alM,h,bB]
  refine bA (ug lK (oh lK)) ?_ ?_ ?_
  iterate 2· simp (maxDischargeDepth:=8)-implicitDefEqProofs [-getElem?_pos,alM,bB]
  by_cases h1:60<fK p
  ·have e:mg p=[pi 0,pi 5]:=by simp [mg,h,h1]
   rw [e]
   simp (maxSteps:=4000000)-implicitDefEqProofs+contextual [-getElem?_pos,alM,w1,h1]
  ·have e:mg p=[pi (dO p),pi 0]:=by simp [mg,h,h1]
   rw [e]
   simp (maxSteps:=4000000)-implicitDefEqProofs+contextual [-getElem?_pos,alM,w1,h1,bB]
   refine bA (ug lK (oh lK)) ?_ ?_ ?_
   iterate 2· simp (maxDischargeDepth:=8)-implicitDefEqProofs [-getElem?_pos,alM,bB]
   have hs:bq .shl (.int .i64 1) (.int .u64 (IntKind.u64.wrap (fK p)))=some (.int .i64 (dO p)):=T9 (n:=fK p) ⟨by omega,by omega⟩
   generalize dO p=S at hs⊢
   generalize fK p=b at hs w1⊢
   generalize hv:IntKind.u64.wrap b=v at hs
   clear h1 e hb h
   simp (maxSteps:=4000000)-implicitDefEqProofs [-getElem?_pos,alM,w1,hv,hs]
open Go Go.RowKit
def kF (B i:Int):Nat→List Int
 |0=>[]
 |n+1=>kF B i n++[i/B^n%B]
@[simp]theorem jI (B i:Int):∀n,(kF B i n).length=n
 |0=>rfl
 |n+1=>by simp [kF,jI B i n]
def ep (p:bH) (i:Int):List Int:=kF (2^p.w.toNat) i (fU p).toNat
theorem oi {w i:Int} (hw:1≤w∧w≤8):∀n,∀x∈kF (2^w.toNat) i n,isWord w x=true
 |0,x,h=>by cases h
 |n+1,x,h=>by
  have hp:=jg hw
  rcases List.mem_append.1 h with h|h
  ·exact oi hw n x h
  ·simp only [List.mem_singleton]at h
   have h0:0≤x:=by rw [h];exact Int.emod_nonneg _ (by omega)
   have h1:x<2^w.toNat:=by rw [h];exact Int.emod_lt_of_pos _ (by omega)
   have:bP w=true:=by simp [bP];omega
   simp [isWord,this,h0,h1]
theorem sD {p:bH} (h:bQ p=true) (i:Int):(ep p i).length≤48:=by
 have hc:=n4 h
 rw [ep,jI];omega
theorem wE {w x:Int} (h:isWord w x=true):e8 x:=by
 simp only [isWord,bP,alQ,alZ]at h
 have:=jg (w:=w) (by omega)
 exact ⟨by omega,by omega⟩
theorem Ua {a b:Int} (ha:0≤a∧a<2^62) (hb:1≤b∧b≤8):bq .shr (.int .i64 a) (.int .u64 (IntKind.u64.wrap b))=some (.int .i64 (a/2^b.toNat)):=by
 obtain ⟨n,rfl⟩:∃n:Nat,b=n:=⟨b.toNat,by omega⟩
 have e:IntKind.u64.wrap (n:Int)=n:=by
  simp [IntKind.wrap,IntKind.bits,IntKind.signed]
  omega
 rw [e]
 have hp:(0:Int)≤2^n:=Int.le_of_lt (Int.pow_pos (by omega))
 simp [bq,cd,IntKind.bits,show min n 64=n by omega,Int.fdiv_eq_ediv_of_nonneg _ hp]
theorem Ub {a b:Int} (ha:0≤a) (hb:0<b):bq .rem (.int .i64 a) (.int .i64 b)=some (.int .i64 (a%b)):=by
 simp [bq,cd,eX,show¬ b=0 by omega,Int.tmod_eq_emod_of_nonneg ha]
theorem Uc {a b:Int} (ha:0≤a∧a<2^62) (hb:0<b):bq .quo (.int .i64 a) (.int .i64 b)=some (.int .i64 (a/b)):=by
 have h0:0≤a/b:=Int.ediv_nonneg ha.1 (by omega)
 have h1:a/b≤a:=Int.ediv_le_self _ ha.1
 simp [bq,cd,eX,show¬ b=0 by omega,Int.tdiv_eq_ediv_of_nonneg ha.1,aj (n:=a/b) ⟨by omega,by omega⟩]
theorem div_pow (i B:Int) (hB:0<B) (n:Nat):i/B^n/B=i/B^(n+1):=by
 rw [Int.pow_succ,Int.ediv_ediv_of_nonneg (Int.le_of_lt (Int.pow_pos hB))]
theorem JL {i B:Int} (hi:0≤i∧i<2^62) (hB:0<B) (n:Nat):0≤i/B^n∧i/B^n<2^62:=by
 have hp:0<B^n:=Int.pow_pos hB
 have h1:i/B^n≤i:=Int.ediv_le_self _ hi.1
 exact ⟨Int.ediv_nonneg hi.1 (by omega),by omega⟩
theorem FT {p:bH} (h:fK p≤60):dO p≤2^60:=by
 unfold dO
 have:=Nat.pow_le_pow_right (n:=2) (by omega) (show(fK p).toNat≤60 by omega)
 exact_mod_cast this
def SL (B i:Int) (c j:Nat):List (Nat×PV):=[(1,pi (i/B^j)),(2,.ref 0 0 3),(8,.sl 1 1 0 j j),(25,pi c),(26,pi j)]
def GO (p:bH) (i:Int) (j:Nat):PH:=[.cells 3 (bB p),.cells 1 ((kF (2^p.w.toNat) i j).map pi)]
def SI7 (p:bH) (B i:Int) (c j:Nat) (fr:PF) (h:PH):Prop:=h=GO p i j∧∀t∈SL B i c j,fr.get t.1=t.2
theorem Ak {p:bH} {B i:Int} {c j:Nat}:SI7 p B i c j (PF.xb (SL B i c j)) (GO p i j):=⟨rfl,fun t ht=>by
 simp only [SL,List.mem_cons,List.not_mem_nil,or_false]at ht
 rcases ht with rfl|rfl|rfl|rfl|rfl<;>simp [SL]⟩
theorem FU {p:bH} {i:Int} (lK:nk p) (h:bQ p=true) (h60:fK p≤60) (hi:0≤i∧i<dO p):Fz E O 46 [.agg (bB p),pi i] (.fJ [oY (ep p i),pi 0]):=by
 refine rS.body (F:=a46) rfl rfl rfl ?_
 have hw:=sy h
 have hc:=n4 h
 have hB:=jg hw
 have fM:=FT h60
 have ac4:0≤i∧i<2^62:=⟨hi.1,by omega⟩
 have hS:=Aj lK
 have e:mg p=[pi (dO p),pi 0]:=by simp [mg,h];omega
 rw [e]at hS
 obtain ⟨S,hSS⟩:∃S,dO p=S:=⟨_,rfl⟩
 rw [hSS]at hS hi
 have hi1:¬ i<0:=by omega
 have Bj:¬ S≤i:=by omega
 obtain ⟨c,uw⟩:∃c:Nat,fU p=c:=⟨(fU p).toNat,by omega⟩
 have hC:=ug lK (oh lK)
 rw [uw]at hC
 simp (maxSteps:=4000000)-implicitDefEqProofs+contextual [-getElem?_pos,alM,a46,bB]
 refine bA (hS) ?_ ?_ ?_
 iterate 2· simp (maxDischargeDepth:=8)-implicitDefEqProofs [-getElem?_pos,alM,bB]
 simp (maxSteps:=4000000)-implicitDefEqProofs [-getElem?_pos,alM,hi1,Bj,bB]
 refine bA (hC) ?_ ?_ ?_
 iterate 2· simp (maxDischargeDepth:=8)-implicitDefEqProofs [-getElem?_pos,alM,bB]
 simp (maxSteps:=4000000)-implicitDefEqProofs+contextual [-getElem?_pos,alM]
 refine iC (SI7 p (2^p.w.toNat) i c) c (ei (h2:=GO p i 0) [0,9] (SL (2^p.w.toNat) i c 0) ?_ ?_ ?_ ?_ ?_ ?_) Ak ?_
 ·simp [GO,SL,bB,kF]
 iterate 2· simp
 ·intro b hb;omega
 iterate 2· simp (maxDischargeDepth:=8)-implicitDefEqProofs [a6,alM,GO,SL,bB,kF]
 rintro j fr h hj ⟨rfl,iX⟩
 simp only [SL,List.mem_cons,List.not_mem_nil,or_false,forall_eq_or_imp,forall_eq]at iX
 obtain ⟨f1,f2,f8,f25,f26⟩:=iX
 have shl:=vr hw
 have shr:=Ua (JL ac4 (show(0:Int)<2^p.w.toNat by omega) j) hw
 have and:=zu (x:=i/(2^p.w.toNat)^j) (w:=p.w.toNat) (by omega)
 have dv:=div_pow i (2^p.w.toNat) (by omega) j
 obtain ⟨B,Qc⟩:∃B:Int,2^p.w.toNat=B:=⟨_,rfl⟩
 rw [Qc]at shl shr and dv hB f1⊢
 rw [dv]at shr
 obtain ⟨u,hu⟩:∃u,i/B^j=u:=⟨_,rfl⟩
 rw [hu]at shr and f1
 by_cases Uq:j<c
 ·have w4:IntKind.i64.wrap ((j:Int)+1)=((j+1:Nat):Int):=aj ⟨by omega,by omega⟩
  have w5:IntKind.i64.wrap (B- 1)=B- 1:=aj ⟨by omega,by omega⟩
  simp (maxSteps:=4000000)-implicitDefEqProofs+contextual [-getElem?_pos,alM,f1,f2,f8,f25,f26,Uq,GO,bB,shl,w5,and,Qc]
  apply k8
  iterate 9· first|rfl|omega|(simp-implicitDefEqProofs [-getElem?_pos,alM];first|done|rfl|omega)
  simp (maxSteps:=4000000)-implicitDefEqProofs+contextual [-getElem?_pos,alM,f1,f2,f25,f26,shr,w4]
  refine .tW Uq (ei (h2:=GO p i (j+1)) [0,1] (SL B i c (j+1)) ?_ ?_ ?_ ?_ ?_ ?_) Ak
  ·simp [GO,SL,bB,kF,hu,Qc,f2,f25]
  iterate 2· simp
  ·intro b hb;omega
  iterate 2· simp (maxDischargeDepth:=8)-implicitDefEqProofs [a6,alM,GO,SL,bB,kF,hu,Qc,f2,f25]
 ·obtain rfl:j=c:=by omega
  have gE:kF B i j=ep p i:=by rw [ep,Qc,uw];rfl
  simp (maxSteps:=4000000)-implicitDefEqProofs+contextual [-getElem?_pos,alM,f1,f2,f8,f25,f26,GO,Qc,gE]
  have vL:(ep p i).length=j:=by rw [←gE,jI]
  refine dw ?_
  simp (maxDischargeDepth:=8)-implicitDefEqProofs [vL]
end Go.Proofs.YtppcmpmnglaleaaGreatDoor.A.P
namespace Go.Proofs.YtppcmpmnglaleaaGreatDoor.A.P
open Go Go.RowKit
def eE (p:bH) (fuel:Int):Nat→Option (List fy)
 |0=>some []
 |n+1=>(eE p fuel n).bind fun l=>(ofM p fuel (ep p n) (16384- l.length)).map fun m=>l++pQ (ep p n) m
def iR (p:bH) (fuel:Int):Option (List fy):=if fK p≤60∧dO p≤4096 then eE p fuel (dO p).toNat else none
theorem Al {p:bH} {fuel:Int} {s:List Int} {most:Nat} {m:List (List Int)} (h:ofM p fuel s most=some m):m.length≤most:=by
 unfold ofM at h
 cases hs:nr p fuel s with
 |none=>simp [hs]at h
 |some l=>simp [hs]at h;rw [←h.2];exact h.1
theorem uh {p:bH} {fuel:Int}:∀{n:Nat} {l:List fy},eE p fuel n=some l→l.length≤16384
 |0,l,h=>by simp [eE]at h;subst h;simp
 |n+1,l,h=>by
  simp only [eE]at h
  cases h1:eE p fuel n with
  |none=>simp [h1]at h
  |some l1=>
   have hl:=uh h1
   simp only [h1,Option.bind_some]at h
   cases h2:ofM p fuel (ep p n) (16384- l1.length)with
   |none=>simp [h2]at h
   |some m=>
    have:=Al h2
    simp [h2]at h
    subst h
    simp
    omega
theorem wF {p:bH} {fuel:Int} {n:Nat} (h:eE p fuel n=none):∀k,eE p fuel (n+k)=none
 |0=>h
 |k+1=>by rw [←Nat.add_assoc,eE,wF h k];rfl
def wG (p:bH) (fuel:Int):List PV:=
 if ew p fuel≠0 then [jS,pi (ew p fuel)]else match iR p fuel with
  |some l=>[.fs 2 (str l),pi 0]
  |none=>[jS,pi 5]
def EH (p:bH) (out:List fy):PH:=[.cells 3 (bB p),.cells 2 (wy out)]
def FV (fuel:Int) (out:List fy) (n j:Nat):List (Nat×PV):=[(1,pi fuel),(2,.ref 0 0 3),(8,.sl 2 1 0 out.length out.length),(34,pi n),(35,pi j)]
def EI8 (p:bH) (fuel:Int) (n j:Nat) (fr:PF) (h:PH):Prop:=∃out,eE p fuel j=some out∧h=EH p out∧∀t∈FV fuel out n j,fr.get t.1=t.2
theorem Am {p:bH} {fuel:Int} {n j:Nat} {out:List fy} (h:eE p fuel j=some out):EI8 p fuel n j (PF.xb (FV fuel out n j)) (EH p out):=⟨out,h,rfl,fun t ht=>by
 simp only [FV,List.mem_cons,List.not_mem_nil,or_false]at ht
 rcases ht with rfl|rfl|rfl|rfl|rfl<;>simp [FV]⟩
theorem OB {h:PH} {s:List Int} {m:List (List Int)}:hZ h 2 m.length (.fs 2 (str (pQ s m)))=some (wy (pQ s m)):=by
 simp only [hZ]
 rw [if_pos ⟨trivial,by simp⟩,alU (by simp)]
 rfl
theorem An {p:bH} {fuel:Int} (lK:nk p):Fz E O 17 [.agg (bB p),pi fuel] (.fJ (wG p fuel)):=by
 refine rS.body (F:=UH) rfl rfl rfl ?_
 simp (maxSteps:=4000000)-implicitDefEqProofs+contextual [-getElem?_pos,alM,UH,bB]
 refine bA (rk lK) ?_ ?_ ?_
 iterate 2· simp (maxDischargeDepth:=8)-implicitDefEqProofs [-getElem?_pos,alM,bB]
 cases h:bQ p with
 |false=>
  have e:wG p fuel=[jS,pi 30]:=by simp [wG,ew,h]
  rw [e]
  simp (maxSteps:=4000000)-implicitDefEqProofs+contextual [-getElem?_pos,alM,h]
  refine dw ?_
  simp
 |true=>
  by_cases h1:fuel<0
  ·have e:wG p fuel=[jS,pi 1]:=by simp [wG,ew,h,h1]
   rw [e]
   simp (maxSteps:=4000000)-implicitDefEqProofs [-getElem?_pos,alM,h,h1]
   refine dw ?_
   simp
  by_cases h2:4096<fuel
  ·have e:wG p fuel=[jS,pi 1]:=by simp [wG,ew,h,h1,h2]
   rw [e]
   simp (maxSteps:=4000000)-implicitDefEqProofs [-getElem?_pos,alM,h,h1,h2]
   refine dw ?_
   simp
  have hf:ew p fuel=0:=by simp [ew,h];omega
  have e3:wG p fuel=match iR p fuel with|some l=>[.fs 2 (str l),pi 0]|none=>[jS,pi 5]:=by simp [wG,hf]
  simp (maxSteps:=4000000)-implicitDefEqProofs [-getElem?_pos,alM,h,h1,h2,bB]
  refine bA (Aj lK) ?_ ?_ ?_
  iterate 2· simp (maxDischargeDepth:=8)-implicitDefEqProofs [-getElem?_pos,alM,bB]
  by_cases h3:fK p≤60
  case neg=>
   have e:mg p=[pi 0,pi 5]:=by simp [mg,h];omega
   rw [e3,e,iR,if_neg (fun q=>h3 q.1)]
   simp (maxSteps:=4000000)-implicitDefEqProofs [-getElem?_pos,alM]
   refine dw ?_
   simp
  have e:mg p=[pi (dO p),pi 0]:=by simp [mg,h];omega
  rw [e]
  by_cases h4:dO p≤4096
  case neg=>
   have h5:4096<dO p:=by omega
   rw [e3,iR,if_neg (fun q=>h4 q.2)]
   simp (maxSteps:=4000000)-implicitDefEqProofs [-getElem?_pos,alM,h5]
   refine dw ?_
   simp
  have h5:¬ 4096<dO p:=by omega
  rw [e3,iR,if_pos ⟨h3,h4⟩]
  have MZ:0<dO p:=Int.pow_pos (by omega)
  obtain ⟨n,hn⟩:∃n:Nat,dO p=n:=⟨(dO p).toNat,by omega⟩
  rw [hn]at h4 h5⊢
  rw [Int.toNat_natCast]
  simp (maxSteps:=4000000)-implicitDefEqProofs [-getElem?_pos,alM,h5]
  refine iC (EI8 p fuel n) n (ei (h2:=EH p []) [0,9] (FV fuel [] n 0) ?_ ?_ ?_ ?_ ?_ ?_) (Am rfl) ?_
  ·simp [EH,FV,bB]
  iterate 2· simp
  ·intro b hb;omega
  iterate 2· simp (maxDischargeDepth:=8)-implicitDefEqProofs [a6,alM,EH,FV,bB]
  rintro j fr h hj ⟨out,hev,rfl,iX⟩
  simp only [FV,List.mem_cons,List.not_mem_nil,or_false,forall_eq_or_imp,forall_eq]at iX
  obtain ⟨f1,f2,f8,f34,f35⟩:=iX
  have hlen:=uh hev
  by_cases uv:j<n
  ·have w1:IntKind.i64.wrap (16384- (out.length:Int))=((16384- out.length:Nat):Int):=by rw [aj ⟨by omega,by omega⟩];omega
   have w4:IntKind.i64.wrap ((j:Int)+1)=((j+1:Nat):Int):=aj ⟨by omega,by omega⟩
   have vL:=sD h j
   have hws:=fun x (hx:x∈ep p j)=>wE (oi (sy h) _ x hx)
   have gE:=FU (i:=j) lK h h3 ⟨by omega,by omega⟩
   have hof:=T7 (fuel:=fuel) (most:=16384- out.length) lK h (s:=ep p j) (by omega) hws (by omega)
   have xA:eE p fuel (j+1)=(ofM p fuel (ep p j) (16384- out.length)).map fun m=>out++pQ (ep p j) m:=by rw [eE,hev];rfl
   obtain ⟨s,hs⟩:∃s,ep p j=s:=⟨_,rfl⟩
   rw [hs]at gE hof xA
   simp (maxSteps:=4000000)-implicitDefEqProofs+contextual [-getElem?_pos,alM,f1,f2,f8,f34,f35,uv,EH,bB]
   refine bA (gE) ?_ ?_ ?_
   iterate 2· simp (maxDischargeDepth:=8)-implicitDefEqProofs [-getElem?_pos,alM,bB]
   simp (maxSteps:=4000000)-implicitDefEqProofs+contextual [-getElem?_pos,alM,f1,f2,f8,bB,w1]
   refine bA (hof) ?_ ?_ ?_
   iterate 2· simp (maxDischargeDepth:=8)-implicitDefEqProofs [-getElem?_pos,alM,bB]
   cases hm:ofM p fuel s (16384- out.length)with
   |none=>
    have qi:eE p fuel n=none:=by
     have:=wF (show eE p fuel (j+1)=none by rw [xA,hm];rfl) (n- (j+1))
     rwa [show j+1+(n- (j+1))=n by omega]at this
    rw [qi]
    simp (maxSteps:=4000000)-implicitDefEqProofs [-getElem?_pos,alM,yA]
    refine dw ?_
    simp
   |some m=>
    have wR:=Al hm
    rw [hm]at xA
    simp (maxSteps:=4000000)-implicitDefEqProofs+contextual [-getElem?_pos,alM,yA,f8]
    apply k8 (k:=m.length) (new:=wy (pQ s m))
    iterate 9· first|omega|exact OB|rfl|(simp-implicitDefEqProofs [];done)
    simp (maxSteps:=4000000)-implicitDefEqProofs+contextual [-getElem?_pos,alM,f35,w4]
    refine .tW uv (ei (h2:=EH p (out++pQ s m)) [0,1] (FV fuel (out++pQ s m) n (j+1)) ?_ ?_ ?_ ?_ ?_ ?_) (Am xA)
    ·simp [EH,FV,bB,jH,f1,f2,f34]
    iterate 2· simp
    ·intro b hb;omega
    iterate 2· simp (maxDischargeDepth:=8)-implicitDefEqProofs [a6,alM,EH,FV,bB,jH,f1,f2,f34]
  ·obtain rfl:j=n:=by omega
   simp (maxSteps:=4000000)-implicitDefEqProofs+contextual [-getElem?_pos,alM,f1,f2,f8,f34,f35,EH]
   rw [hev]
   refine ⟨_,_,dw ?_,rfl,rfl,by simp⟩
   simp (maxDischargeDepth:=8)-implicitDefEqProofs []
end Go.Proofs.YtppcmpmnglaleaaGreatDoor.A.P
