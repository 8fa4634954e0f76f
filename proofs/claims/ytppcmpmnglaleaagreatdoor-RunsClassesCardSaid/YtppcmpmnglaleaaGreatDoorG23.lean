/- Texts that stand one behind the other: V12, V13, V15, W1, W2, W3, W4, W5, W6, W7. -/
import Derived.Test.YtppcmpmnglaleaaGreatDoorG22
set_option linter.unusedVariables false
set_option linter.unusedSimpArgs false
set_option maxRecDepth 10000
namespace Go.Proofs.YtppcmpmnglaleaaGreatDoor.A
namespace P
open Go Go.RowKit
theorem Sr {a:Int} {i:Nat} (e:0≤a∧a≤2^40) (hi:i≤60):Fz E O 119 [pi a,pi i] (pi (a/2^i%2)):=
 Fz.kD fun F H f g w d=>by
  cases d with|cons b d=>
  cases d with|cons c d=>
  cases d;cases b;cases c;refine (xI e hi H).mono ?_;rintro x h ⟨rfl,rfl⟩;exact ⟨rfl,Ext.refl _⟩
theorem GZ:∀a:Nat,a<16→∀b:Nat,b<16→decide (yC (b:Int) (a:Int)=0)=(List.range 4).all (fun i=>decide ((b:Int)/2^i%2≤(a:Int)/2^i%2)):=by decide+kernel
theorem Qy {level other:Int} (s:0≤level∧level≤15):Fz E O 87 [pi level,pi other] (pb (kE level other)):=by
 refine Fz.body (F:=a87) rfl rfl rfl rfl ?_;by_cases l:other<0
 ·have e:kE level other=false:=by simp [kE];omega
  rw [e];simp (maxSteps:=9^7)-implicitDefEqProofs [-getElem?_pos,avf,a87,l]
 by_cases h2:15<other
 ·have e:kE level other=false:=by simp [kE];omega
  rw [e];simp (maxSteps:=9^7)-implicitDefEqProofs [-getElem?_pos,avf,a87,l,h2]
 have e:kE level other=(List.range 4).all (fun i=>decide (other/2^i%2≤level/2^i%2)):=by
  obtain ⟨a,t⟩:=Int.eq_ofNat_of_zero_le s.1;obtain ⟨b,c⟩:=Int.eq_ofNat_of_zero_le (show 0≤other by omega);subst t c;rw [←GZ a (by omega) b (by omega)];have w:(0:Int)≤(b:Int):=by omega
  have u:(b:Int)≤15:=by omega
  simp [kE,u]
 rw [e];simp (maxSteps:=9^7)-implicitDefEqProofs [-getElem?_pos,avf,a87,l,h2];refine pP (fun j d h=>h=[]∧d.get 0=pi level∧d.get 1=pi other∧d.get 5=pi j∧∀i,i<j→other/2^i%2≤level/2^i%2) 4 ?_ ?_
 ·exact ⟨rfl,by simp,by simp,by simp,by simp⟩
 rintro j d h v ⟨rfl,m,p,f,o⟩;by_cases k:j<4
 ·have g:(j:Int)<4:=by omega
  have r:IntKind.i64.wrap ((j:Int)+1)=((j+1:Nat):Int):=ai ⟨by omega,by omega⟩;simp (maxSteps:=9^7)-implicitDefEqProofs [-getElem?_pos,avf,m,p,f,g];refine aF (Sr (a:=other) (i:=j) ⟨by omega,by omega⟩ (by omega)) ?_ ?_ ?_
  iterate 2· simp (maxDischargeDepth:=8)-implicitDefEqProofs [-getElem?_pos,avf]
  simp (maxSteps:=9^7)-implicitDefEqProofs [-getElem?_pos,avf,m,f];refine aF (Sr (a:=level) (i:=j) ⟨by omega,by omega⟩ (by omega)) ?_ ?_ ?_
  iterate 2· simp (maxDischargeDepth:=8)-implicitDefEqProofs [-getElem?_pos,avf]
  by_cases c:level/2^j%2<other/2^j%2
  ·have n:(List.range 4).all (fun i=>decide (other/2^i%2≤level/2^i%2))=false:=by
    rw [List.all_eq_false];exact ⟨j,by simp;omega,by simp;omega⟩
   rw [n];simp (maxSteps:=9^7)-implicitDefEqProofs [-getElem?_pos,avf,c]
  ·simp (maxSteps:=9^7)-implicitDefEqProofs [-getElem?_pos,avf,c,f,r]
   refine .for k ⟨rfl,by simp [m],by simp [p],by simp,fun i hi=>?_⟩;by_cases q:i=j
   ·subst q;omega
   ·exact o i (by omega)
 ·obtain rfl:j=4:=by omega
  have n:(List.range 4).all (fun i=>decide (other/2^i%2≤level/2^i%2))=true:=by
   rw [avw];intro i hi;simp at hi
   simpa using o i hi
  rw [n];simp (maxSteps:=9^7)-implicitDefEqProofs [-getElem?_pos,avf,f]
def E7 (level:Int) (l:List (Int×Int)) (i:Nat):List (Nat×PV):=[(0,pi level),(1,.fs 2 (tp l)),(5,.sl 2 0 0 (eG level (l.take i)).length (eG level (l.take i)).length),(6,pi i)]
def SeI (level:Int) (l:List (Int×Int)) (i:Nat) (fr:PF) (h:PH):Prop:=h=TH level l i∧∀t∈E7 level l i,fr.get t.1=t.2
theorem yF {level:Int} {l:List (Int×Int)} {i:Nat}:SeI level l i (PF.tm (E7 level l i)) (TH level l i):=⟨rfl,fun t a=>by
 simp only [E7,avy,avQ,or_false]at a
 rcases a with rfl|rfl|rfl|rfl<;>simp [E7]⟩
theorem Wy {level:Int} {l:List (Int×Int)} (q:0≤level∧level≤15) (s:l.length≤2^40):Fz E O 54 [pi level,.fs 2 (tp l)] (.fs 2 (tp (eG level l))):=by
 refine fM.body (F:=a54) rfl rfl rfl ?_;simp (maxSteps:=9^7)-implicitDefEqProofs+contextual [-getElem?_pos,avf,a54];refine dV (SeI level l) l.length (bX (h2:=TH level l 0) [9] (E7 level l 0) ?_ ?_ ?_ ?_ ?_ ?_) yF ?_
 ·simp [TH,E7,eG]
 iterate 2· simp
 ·intro b o;omega
 iterate 2· simp (maxDischargeDepth:=8)-implicitDefEqProofs [aj,avf,TH,E7,eG]
 rintro i t h hi ⟨rfl,n⟩;simp only [E7,avy,avQ,or_false,forall_eq_or_imp,forall_eq]at n;obtain ⟨f,d,a,g⟩:=n;have r:(eG level (l.take i)).length≤i:=avC nH (by simp;omega);by_cases h:i<l.length
 ·obtain ⟨e,j⟩:∃e,l[i]?=some e:=⟨_,avg h⟩
  have c:=wL (level:=level) j;have k:IntKind.i64.wrap ((i:Int)+1)=((i+1:Nat):Int):=ai ⟨by omega,by omega⟩
  obtain ⟨T,p⟩:∃T,eG level (l.take i)=T:=⟨_,rfl⟩
  rw [p]at c a r;simp (maxSteps:=9^7)-implicitDefEqProofs+contextual [-getElem?_pos,avf,f,d,a,g,h,tv,j,TH,p];refine aF (Qy (level:=level) (other:=e.1) q) ?_ ?_ ?_
  iterate 2· simp (maxDischargeDepth:=8)-implicitDefEqProofs [-getElem?_pos,avf]
  cases m:kE level e.1 with
  |true=>
   rw [m,if_pos rfl]at c;simp (maxSteps:=9^7)-implicitDefEqProofs+contextual [-getElem?_pos,avf,d,a,g,h,tv,j];apply cj
   iterate 9· first|rfl|omega|(simp-implicitDefEqProofs [-getElem?_pos,avf];first|done|rfl|omega)
   simp (maxSteps:=9^7)-implicitDefEqProofs+contextual [-getElem?_pos,avf,g,k];refine .ny h (bX (h2:=TH level l (i+1)) [0] (E7 level l (i+1)) ?_ ?_ ?_ ?_ ?_ ?_) yF
   ·simp [TH,E7,c,aJ,f,d]
   iterate 2· simp
   ·intro b o;omega
   iterate 2· simp (maxDischargeDepth:=8)-implicitDefEqProofs [aj,avf,TH,E7,c,aJ,f,d]
  |false=>
   rw [m,if_neg (by simp)]at c;simp (maxSteps:=9^7)-implicitDefEqProofs+contextual [-getElem?_pos,avf,a,g,k];refine .ny h (bX (h2:=TH level l (i+1)) [0] (E7 level l (i+1)) ?_ ?_ ?_ ?_ ?_ ?_) yF
   ·simp [TH,E7,c,f,d,a]
   iterate 2· simp
   ·intro b o;omega
   iterate 2· simp (maxDischargeDepth:=8)-implicitDefEqProofs [aj,avf,TH,E7,c,f,d,a]
 ·obtain rfl:i=l.length:=by omega
  rw [avn (avk _)]at a;simp (maxSteps:=9^7)-implicitDefEqProofs+contextual [-getElem?_pos,avf,f,d,a,g,TH];refine bW ?_;simp (maxDischargeDepth:=8)-implicitDefEqProofs []
open Go Go.RowKit
theorem LJ:∀a:Nat,a<16→∀b∈[1,2,4,8],decide ((a:Int)/(b:Nat)%2=1)= !decide (pV (a:Int) (b:Nat)=0):=by decide+kernel
theorem yG {sees:Int} {b:Nat} (hs:0≤sees∧sees≤15) (c:b∈[1,2,4,8]):Fz E O 52 [pi sees,pi b] (pb (!decide (pV sees b=0))):=by
 refine Fz.body (F:=a52) rfl rfl rfl rfl ?_;obtain ⟨a,rfl⟩:=Int.eq_ofNat_of_zero_le hs.1
 have d:(0:Int)<(b:Int):=by
  simp at c;omega
 have q:=Sn (a:=(a:Int)) (b:=b) ⟨by omega,by omega⟩ d;have r:=Sl (a:=(a:Int)/b) (b:=2) (Int.ediv_nonneg (by omega) (by omega)) (by omega);rw [←LJ a (by omega) b c];simp (maxSteps:=9^7)-implicitDefEqProofs [-getElem?_pos,avf,a52,q,r]
end P
namespace P
open Go Go.RowKit
def mI:List A.dR→AC→List Kp→List Kp
 |[],_,ks=>ks
 | .l::p,.seq a b,ks=>mI p a (.seq b::ks)
 | .r::p,.seq _ b,ks=>mI p b ks
 | .l::p,.block i a,ks=>mI p a (.aX i::ks)
 | .l::p,.cond _ a _,ks=>mI p a ks
 | .r::p,.cond _ _ b,ks=>mI p b ks
 |_,_,ks=>ks
@[simp]theorem afd (p:List A.dR) (x:X) (a b:AC) (ks:List Kp):mI (.l::p) (.cond x a b) ks=mI p a ks:=rfl
@[simp]theorem afe (p:List A.dR) (x:X) (a b:AC) (ks:List Kp):mI (.r::p) (.cond x a b) ks=mI p b ks:=rfl
@[simp]theorem alB (c:AC) (ks:List Kp):mI [] c ks=ks:=by cases c<;>rfl
@[simp]theorem alC (p:List A.dR) (a b:AC) (c:List Kp):mI (.l::p) (.seq a b) c=mI p a (.seq b::c):=rfl
@[simp]theorem alD (p:List A.dR) (a b:AC) (ks:List Kp):mI (.r::p) (.seq a b) ks=mI p b ks:=rfl
@[simp]theorem alE (p:List A.dR) (i:Nat) (a:AC) (b:List Kp):mI (.l::p) (.block i a) b=mI p a (.aX i::b):=rfl
theorem E8 {E:Env} {O:kG} {n:Nat} {Q:Ex→PF→PH→Prop} {c:AC} {b:List Kp} {a:PF} {h:PH} (p:List A.dR) (P:PF→PH→Prop) (d:lb p c (gI p c)=c) (h2:∀a h,P a h→PK E O n Q (.code (gI p c) (mI p c b)) a h) (e:∀rest,(∀a h,P a h→PK E O n Q (.code rest (mI p c b)) a h)→PK E O n Q (.code (lb p c rest) b) a h):PK E O n Q (.code c b) a h:=by
 have:=e _ h2;rwa [d]at this
theorem vw:∀(f n:Nat),n<10^f→0<f→kF n=⟨(Qj f n).toArray⟩
 |0,n,h,k=>absurd k (Nat.lt_irrefl _)
 |f+1,n,h,_=>by
  rw [kF,Qj];by_cases a:n<10
  ·rw [if_pos a,if_pos a];rfl
  ·rw [if_neg a,if_neg a]
   have b:0<f:=by
    rcases f with _|f
    ·simp at h;omega
    ·omega
   rw [vw f (n/10) (by rw [Nat.pow_succ]at h;omega) b];apply ByteArray.ext;simp [ByteArray.data_append,sS]
theorem G0 {n:Int} (h:oO n):LH n=eL n:=by
 have a:=h.1;have h2:=h.2;unfold LH eL;split
 ·rw [vw 20 n.natAbs (by omega) (by omega)]
  apply ByteArray.ext;simp [ByteArray.data_append]
 ·rw [vw 20 n.toNat (by omega) (by omega)]
theorem pX {n:Int} (a:oO n):Fz E O 53 [pi n] (.v (.string (eL n))):=by
 rw [←G0 a];exact LI a
def VR (level sees:Int) (r:iS) (s:ByteArray) (fr:PF) (h:PH):Prop:=h=[.cells 7 (du r)]∧fr.get 0=pi level∧fr.get 1=pi sees∧fr.get 5= .ref 0 0 7∧fr.get 7=ps s
theorem dT (a:UInt8):(⟨#[a]⟩:ByteArray).size=1:=rfl
theorem LK (l:List (Int×Int)) {i:Nat} {o:Int×Int} (h:l[i]?=some o) (s:ByteArray):ey s (nI l) (i+1)=ey s (nI l) i++⟨#[32]⟩++eL o.1++⟨#[58]⟩++eL o.2:=by
 rw [ey];have:(nI l).getD i []=[o.1,o.2]:=by simp [nI,List.getD_eq_getElem?_getD,h]
 rw [this];rfl
theorem Qz (l:List Ev) {i:Nat} {e:Ev} (h:l[i]?=some e) (s:ByteArray):ey s (AN l) (i+1)=ey s (AN l) i++⟨#[32]⟩++eL e.kind++⟨#[58]⟩++eL e.at_++⟨#[58]⟩++eL e.val:=by
 rw [ey];have:(AN l).getD i []=[e.kind,e.at_,e.val]:=by simp [AN,List.getD_eq_getElem?_getD,h]
 rw [this];rfl
theorem QA (l:List Ev) (i:Nat):(yT l)[i]?=(l[i]?).map fun e=>[pi e.kind,pi e.at_,pi e.val]:=by simp [yT]
theorem QB {level sees:Int} {r:iS} (k:GW r) (hl:0≤level∧level≤15) (hs:0≤sees∧sees≤15):Fz E O 22 [pi level,pi sees,.agg (du r)] (.v (.string (mE level sees r))):=by
 refine Fz.body (F:=Q9) rfl rfl rfl rfl ?_;have WO:=k.lo;have cO:=k.lt;refine E8 [.r,.r] (VR level sees r .empty) rfl ?_ ?_
 case refine_2=>
  intro rest n;simp (maxSteps:=9^7)-implicitDefEqProofs [-getElem?_pos,avf,Q9,du];exact n _ _ ⟨by simp [du],by simp,by simp,by simp,by simp;rfl⟩
 rintro j h ⟨rfl,f,d,c,g⟩;refine E8 [.r] (VR level sees r (vi sees r .empty)) rfl ?_ ?_
 case refine_2=>
  intro rest n;have hd:=eo r.en;simp (maxSteps:=9^7)-implicitDefEqProofs [-getElem?_pos,avf,Q9,f,d,c,g];refine aF (yG (sees:=sees) (b:=8) hs (by simp)) ?_ ?_ ?_
  iterate 2· simp (maxDischargeDepth:=8)-implicitDefEqProofs [-getElem?_pos,avf]
  by_cases h:pV sees 8=0
  ·simp (maxSteps:=9^7)-implicitDefEqProofs [-getElem?_pos,avf,f,d,c,g,h]
   exact n _ _ ⟨rfl,by simp [f],by simp [d],by simp [c],by simp [g,vi,h]⟩
  ·have A:=eI (a:=ByteArray.empty) (b:=⟨#[101]⟩) (by decide)
   have m:=eI (a:=⟨#[101]⟩) (b:=eL r.en) (by rw [dT];omega);have z:=eI (a:=⟨#[101]⟩++eL r.en) (b:=⟨#[59]⟩) (by rw [avz,dT,dT];omega);simp (maxSteps:=9^7)-implicitDefEqProofs [-getElem?_pos,avf,f,d,c,g,h,du,A];refine aF (pX k.en) ?_ ?_ ?_
   iterate 2· simp (maxDischargeDepth:=8)-implicitDefEqProofs [-getElem?_pos,avf]
   simp (maxSteps:=9^7)-implicitDefEqProofs [-getElem?_pos,avf,c,m,z];exact n _ _ ⟨by simp [du],by simp [f],by simp [d],by simp [c],by simp [vi,h,ByteArray.append_assoc]⟩
 clear f d c g j;have Z:=wM sees r .empty;generalize R:vi sees r .empty=C at Z⊢;have ez:ByteArray.empty.size=0:=rfl;rintro j h ⟨rfl,f,d,c,g⟩;refine E8 [.r] (VR level sees r (vj level sees r C)) rfl ?_ ?_
 case refine_2=>
  intro rest n;simp (maxSteps:=9^7)-implicitDefEqProofs [-getElem?_pos,avf,Q9,f,d,c,g];refine aF (yG (sees:=sees) (b:=1) hs (by simp)) ?_ ?_ ?_
  iterate 2· simp (maxDischargeDepth:=8)-implicitDefEqProofs [-getElem?_pos,avf]
  by_cases h:pV sees 1=0
  ·simp (maxSteps:=9^7)-implicitDefEqProofs [-getElem?_pos,avf,f,d,c,g,h]
   exact n _ _ ⟨rfl,by simp [f],by simp [d],by simp [c],by simp [g,vj,h]⟩
  ·have A:=eI (a:=C) (b:=⟨#[111]⟩) (by rw [dT];omega)
   simp (maxSteps:=9^7)-implicitDefEqProofs [-getElem?_pos,avf,f,d,c,g,h,du,A];refine aF (Wy (level:=level) (l:=r.outs) hl (by omega)) ?_ ?_ ?_
   iterate 2· simp (maxDischargeDepth:=8)-implicitDefEqProofs [-getElem?_pos,avf]
   obtain ⟨T,J⟩:∃T,eG level r.outs=T:=⟨_,rfl⟩
   have Ss:T.length≤2^31:=by rw [←J];exact avC nH WO
   have N:∀o∈T,oO o.1∧oO o.2:=by intro o G;rw [←J]at G;exact k.outs o (List.mem_filter.1 G).1
   rw [J]
   obtain ⟨s9,t⟩:∃s9,C++⟨#[111]⟩=s9:=⟨_,rfl⟩
   have L:s9.size=C.size+1:=by rw [←t,avz,dT]
   rw [t];simp (maxSteps:=9^7)-implicitDefEqProofs [-getElem?_pos,avf,f,d,c,g];refine pP (fun i j h=>h=[.cells 7 (du r)]∧j.get 0=pi level∧j.get 1=pi sees∧j.get 5= .ref 0 0 7∧j.get 7=ps (ey s9 (nI T) i)∧j.get 8= .fs 2 (tp T)∧j.get 9=pi i) T.length ?_ ?_
   ·exact ⟨by simp [du],by simp [f],by simp [d],by simp [c],by simp [ey],by simp,by simp⟩
   rintro i j h hi ⟨rfl,s,q,p,y,S,x⟩;by_cases u:i<T.length
   ·obtain ⟨o,G⟩:∃o,T[i]?=some o:=⟨_,avg u⟩
    have D:=N o (avl G);have I:=LK T G s9;have H:=ff s9 (nI T) (yD T) i;generalize ey s9 (nI T) i=w at y I H;have d1:=eo o.1;have d2:=eo o.2;have m:=eI (a:=w) (b:=⟨#[32]⟩) (by rw [dT];omega);have z:=eI (a:=w++⟨#[32]⟩) (b:=eL o.1) (by simp only [avz,dT];omega);have V:=eI (a:=w++⟨#[32]⟩++eL o.1) (b:=⟨#[58]⟩) (by simp only [avz,dT];omega);have U:=eI (a:=w++⟨#[32]⟩++eL o.1++⟨#[58]⟩) (b:=eL o.2) (by simp only [avz,dT];omega);have K:IntKind.i64.wrap ((i:Int)+1)=((i+1:Nat):Int):=ai ⟨by omega,by omega⟩;simp (maxSteps:=9^7)-implicitDefEqProofs [-getElem?_pos,avf,s,q,p,y,S,x,u,tv,G,m];refine aF (pX D.1) ?_ ?_ ?_
    iterate 2· simp (maxDischargeDepth:=8)-implicitDefEqProofs [-getElem?_pos,avf]
    simp (maxSteps:=9^7)-implicitDefEqProofs [-getElem?_pos,avf,z,V];refine aF (pX D.2) ?_ ?_ ?_
    iterate 2· simp (maxDischargeDepth:=8)-implicitDefEqProofs [-getElem?_pos,avf]
    simp (maxSteps:=9^7)-implicitDefEqProofs [-getElem?_pos,avf,U,x,K];refine .for u ⟨rfl,by simp [s],by simp [q],by simp [p],by simp [I],by simp [S],by simp⟩
   ·obtain rfl:i=T.length:=by omega
    have H:=ff s9 (nI T) (yD T) T.length;have m:=eI (a:=ey s9 (nI T) T.length) (b:=⟨#[59]⟩) (by rw [dT];omega);simp (maxSteps:=9^7)-implicitDefEqProofs [-getElem?_pos,avf,s,q,p,y,S,x,m];exact n _ _ ⟨rfl,by simp [s],by simp [q],by simp [p],by simp [vj,h,J,t]⟩
 clear f d c g j;have Y:=wN level sees r C;generalize Q:vj level sees r C=B at Y⊢;rintro j h ⟨rfl,f,d,c,g⟩;refine E8 [.r] (VR level sees r (vk sees r B)) rfl ?_ ?_
 case refine_2=>
  intro rest n;simp (maxSteps:=9^7)-implicitDefEqProofs [-getElem?_pos,avf,Q9,f,d,c,g];refine aF (yG (sees:=sees) (b:=2) hs (by simp)) ?_ ?_ ?_
  iterate 2· simp (maxDischargeDepth:=8)-implicitDefEqProofs [-getElem?_pos,avf]
  by_cases h:pV sees 2=0
  ·simp (maxSteps:=9^7)-implicitDefEqProofs [-getElem?_pos,avf,f,d,c,g,h]
   exact n _ _ ⟨rfl,by simp [f],by simp [d],by simp [c],by simp [g,vk,h]⟩
  ·have A:=eI (a:=B) (b:=⟨#[116]⟩) (by rw [dT];omega)
   simp (maxSteps:=9^7)-implicitDefEqProofs [-getElem?_pos,avf,f,d,c,g,h,du,A]
   obtain ⟨s9,t⟩:∃s9,B++⟨#[116]⟩=s9:=⟨_,rfl⟩
   have L:s9.size=B.size+1:=by rw [←t,avz,dT]
   rw [t];refine pP (fun i j h=>h=[.cells 7 (du r)]∧j.get 0=pi level∧j.get 1=pi sees∧j.get 5= .ref 0 0 7∧j.get 7=ps (ey s9 (AN r.trace) i)∧j.get 10=pi i) r.trace.length ?_ ?_
   ·exact ⟨by simp [du],by simp [f],by simp [d],by simp [c],by simp [ey],by simp⟩
   rintro i j h hi ⟨rfl,s,q,p,y,x⟩;by_cases u:i<r.trace.length
   ·obtain ⟨e,M⟩:∃e,r.trace[i]?=some e:=⟨_,avg u⟩
    have D:=k.trace e (avl M);have I:=Qz r.trace M s9;have H:=ff s9 (AN r.trace) (EV r.trace) i;generalize ey s9 (AN r.trace) i=w at y I H;have d1:=eo e.kind;have d2:=eo e.at_;have d3:=eo e.val;have m:=eI (a:=w) (b:=⟨#[32]⟩) (by rw [dT];omega);have z:=eI (a:=w++⟨#[32]⟩) (b:=eL e.kind) (by simp only [avz,dT];omega);have V:=eI (a:=w++⟨#[32]⟩++eL e.kind) (b:=⟨#[58]⟩) (by simp only [avz,dT];omega);have U:=eI (a:=w++⟨#[32]⟩++eL e.kind++⟨#[58]⟩) (b:=eL e.at_) (by simp only [avz,dT];omega);have c6:=eI (a:=w++⟨#[32]⟩++eL e.kind++⟨#[58]⟩++eL e.at_) (b:=⟨#[58]⟩) (by simp only [avz,dT];omega);have c7:=eI (a:=w++⟨#[32]⟩++eL e.kind++⟨#[58]⟩++eL e.at_++⟨#[58]⟩) (b:=eL e.val) (by simp only [avz,dT];omega);have K:IntKind.i64.wrap ((i:Int)+1)=((i+1:Nat):Int):=ai ⟨by omega,by omega⟩;simp (maxSteps:=9^7)-implicitDefEqProofs [-getElem?_pos,avf,s,q,p,y,x,u,QA,M,m,du];refine aF (pX D.1) ?_ ?_ ?_
    iterate 2· simp (maxDischargeDepth:=8)-implicitDefEqProofs [-getElem?_pos,avf]
    simp (maxSteps:=9^7)-implicitDefEqProofs [-getElem?_pos,avf,z,V];refine aF (pX D.2.1) ?_ ?_ ?_
    iterate 2· simp (maxDischargeDepth:=8)-implicitDefEqProofs [-getElem?_pos,avf]
    simp (maxSteps:=9^7)-implicitDefEqProofs [-getElem?_pos,avf,U,c6];refine aF (pX D.2.2) ?_ ?_ ?_
    iterate 2· simp (maxDischargeDepth:=8)-implicitDefEqProofs [-getElem?_pos,avf]
    simp (maxSteps:=9^7)-implicitDefEqProofs [-getElem?_pos,avf,c7,x,K];refine .for u ⟨by simp [du],by simp [s],by simp [q],by simp [p],by simp [I],by simp⟩
   ·obtain rfl:i=r.trace.length:=by omega
    have H:=ff s9 (AN r.trace) (EV r.trace) r.trace.length;have m:=eI (a:=ey s9 (AN r.trace) r.trace.length) (b:=⟨#[59]⟩) (by rw [dT];omega);simp (maxSteps:=9^7)-implicitDefEqProofs [-getElem?_pos,avf,s,q,p,y,x,m,du,yT];exact n _ _ ⟨by simp [du,yT],by simp [s],by simp [q],by simp [p],by simp [vk,h,t]⟩
 clear f d c g j;have X:=wO sees r B;generalize P:vk sees r B=s3 at X⊢;rintro j h ⟨rfl,f,d,c,g⟩;have hd:=eo r.cost;have W:mE level sees r=CZ sees r s3:=by rw [mE,R,Q,P]
 simp (maxSteps:=9^7)-implicitDefEqProofs [-getElem?_pos,avf,Q9,f,d,c,g];refine aF (yG (sees:=sees) (b:=4) hs (by simp)) ?_ ?_ ?_
 iterate 2· simp (maxDischargeDepth:=8)-implicitDefEqProofs [-getElem?_pos,avf]
 by_cases h:pV sees 4=0
 ·simp (maxSteps:=9^7)-implicitDefEqProofs [-getElem?_pos,avf,f,d,c,g,h,W,CZ]
 ·have A:=eI (a:=s3) (b:=⟨#[99]⟩) (by rw [dT];omega)
  have m:=eI (a:=s3++⟨#[99]⟩) (b:=eL r.cost) (by rw [avz,dT];omega);have z:=eI (a:=s3++⟨#[99]⟩++eL r.cost) (b:=⟨#[59]⟩) (by rw [avz,avz,dT,dT];omega);have e:mE level sees r=s3++⟨#[99]⟩++eL r.cost++⟨#[59]⟩:=by rw [W,CZ,if_neg h,ByteArray.append_assoc,ByteArray.append_assoc,ByteArray.append_assoc]
  rw [e];simp (maxSteps:=9^7)-implicitDefEqProofs [-getElem?_pos,avf,f,d,c,g,h,du,A];refine aF (pX k.cost) ?_ ?_ ?_
  iterate 2· simp (maxDischargeDepth:=8)-implicitDefEqProofs [-getElem?_pos,avf]
  simp (maxSteps:=9^7)-implicitDefEqProofs [-getElem?_pos,avf,c,m,z]
end P
section
open Go
def sm (n:Int):Prop:=0≤n∧n≤1024
def QC (e:Ev):Prop:=sm e.kind∧sm e.at_∧sm e.val
structure G3 (c:dY):Prop where
 outs:∀o∈c.outs,sm o.1∧sm o.2
 trace:∀e∈c.trace,QC e
theorem E9 {i m:Int} (h:sm i):sm (i%m):=by
 obtain ⟨a,rfl⟩:=Int.eq_ofNat_of_zero_le h.1
 have key:∀b:Nat,sm ((a:Int)%(b:Int)):=fun b=>by
  have e:((a:Int)%(b:Int))=((a%b:Nat):Int):=(Int.natCast_emod a b).symm;have c:=Nat.mod_le a b;have h2:=h.2;rw [e];exact ⟨Int.natCast_nonneg _,by omega⟩
 rcases Int.eq_nat_or_neg m with⟨b,rfl|rfl⟩
 ·exact key b
 ·rw [Int.emod_neg];exact key b
theorem yH {w:Int} {V:List Vr} {S:List (List Int)} {x:Ev}:∀{l:List ch},x∈eN w V S l→∃e∈l,x∈mF w V S e
 |[],h=>by simp [eN]at h
 |e::l,h=>by
  rw [eN]at h;rcases avA.1 h with h|h
  ·exact ⟨e,by simp,h⟩
  ·obtain ⟨y,a,b⟩:=yH h
   exact ⟨y,by simp [a],b⟩
theorem Fa {w:Int} {V:List Vr} {S:List (List Int)} (a:aC w V=true) (d:Bd w V S) {l:List ch} (b:∀e∈l,dq w V S.length e=true) (i:Nat):sm (eu (bV w V S l) i):=by
 have f:=fT (w:=w) ⟨(aD a).1,(aD a).2.1⟩;unfold eu;rw [qv]
 cases c:l[i]? with
 |none=>exact ⟨by simp,by simp⟩
 |some e=>
  have:=iw a d e (b e (avl c));simp only [Option.map_some,Option.getD_some];exact ⟨this.1,by omega⟩
theorem Wz {w:Int} {V:List Vr} {S:List (List Int)} (b:aC w V=true) (k:Bd w V S):∀e,dq w V S.length e=true→∀x∈mF w V S e,QC x:=nQ fun op n o args ih h x a=>by
 have f:1≤w∧w≤8:=⟨(aD b).1,(aD b).2.1⟩
 have j:=(aD b).2.2.2;obtain ⟨d,i⟩:=kj f h;rw [mF]at a;rcases avA.1 a with a|a
 ·obtain ⟨e,c,a⟩:=yH a
  exact ih e c (d e c) x a
 ·split at a
  ·rename_i m
   simp only [List.mem_singleton]at a;subst a
   have g:0≤n∧n<V.length:=by
    rcases i with⟨q,_⟩|⟨q,l,h2,_⟩|⟨q,_⟩|⟨q,_⟩|⟨q,_⟩;all_goals first|exact ⟨l,h2⟩|omega
   exact ⟨⟨by simp,by simp⟩,⟨g.1,by show n≤1024;omega⟩,E9 (Fa b k d 0)⟩
  ·cases a
theorem LM {c:dY} (h:G3 c) {e:Ev} (b:QC e) (l:List kJ):G3 {c with trace:=c.trace++[e],todo:=l}:=⟨h.outs,fun x a=>by
 rcases avA.1 a with a|a
 ·exact h.trace x a
 ·simp only [List.mem_singleton]at a;subst a;exact b⟩
theorem Fb {V:List Vr} {c:dY} (h:G3 c) {n i a:Int} (d:sm n) (hi:sm i):G3 (gh V c n i a):=⟨h.outs,fun x b=>by
 rcases avA.1 b with b|b
 ·exact h.trace x b
 ·split at b
  ·simp only [List.mem_singleton]at b
   subst b;exact ⟨⟨by simp,by simp⟩,d,E9 hi⟩
  ·cases b⟩
theorem qT {c:dY} (h:G3 c) (e n:Int):G3 (dZ c e n):=⟨h.outs,h.trace⟩
theorem LN {P:Prop} [Decidable P] {a b:Int} (d:sm a) (c:sm b):sm (if P then a else b):=by split<;>assumption
theorem sm0:sm 0:=⟨by decide,by decide⟩
theorem sm1:sm 1:=⟨by decide,by decide⟩
theorem LO {p:aU} {ps:List Int} {c:dY} (I:Inv p ps c) (h:G3 c):G3 (bI p ps c):=by
 unfold bI;by_cases g:c.over=true
 ·rw [if_pos g];exact h
 rw [if_neg g]
 cases u:c.todo with
 |nil=>exact h
 |cons it next=>
  obtain ⟨k,s⟩:=it;show G3 (if c.fuel=0 then _ else _);by_cases K:c.fuel=0
  ·rw [if_pos K];exact qT h _ _
  rw [if_neg K];obtain ⟨op,n,args,d,els⟩:=s;obtain ⟨J,H,B,W⟩:=I.todo (k,.mk op n args d els) (by rw [u];simp);obtain ⟨S,U,V,Q⟩:=gj B;have E:bg (.mk op n args d els)=1+ar d+ar els:=by rw [bg]
  have X:=aK d;have be:=aK els;have P:=I.UT;simp only at J H;have T:=(aD I.head).2.2.2;have N:Bd p.w p.vars [c.store]:=fun t u=>by simp at u;subst u;exact I.store
  have M:∀e∈args,dq p.w p.vars [c.store].length e=true:=fun e D=>(S e D).1
  have r:∀i,sm (eu (bV p.w p.vars [c.store] args) i):=Fa I.head N M
  have R:sm k:=⟨J,by rw [E]at H;omega⟩
  have f:G3 (iz p c (.mk op n args d els) next):=⟨h.outs,fun x j=>by
   rcases avA.1 j with j|j
   ·exact h.trace x j
   ·obtain ⟨e,D,j⟩:=yH j
    exact Wz I.head N e (M e D) x j⟩
  have m:op=0∨op=4→sm n:=by
   intro q
   have:0≤n∧n<p.vars.length:=by
    rcases Q with⟨_,a,_⟩|⟨v,_⟩|⟨v,_⟩|⟨v,_⟩|⟨_,a,_⟩|⟨v,_⟩;all_goals first|exact a|omega
   exact ⟨this.1,by omega⟩
  have C:op=3→sm n:=by
   intro q;rw [fu,avj]at B;have O:=B.1;unfold cD at O;subst q;simp at O;exact ⟨by omega,by omega⟩
  generalize iz p c (.mk op n args d els) next=b at f
  rw [show(bF.mk op n args d els).args=args from rfl];generalize bV p.w p.vars [c.store] args=l at r
  have L:QC ⟨0,k,if eu l 0=0 then 0 else 1⟩:=⟨sm0,R,LN sm0 sm1⟩
  unfold cN;by_cases A:op=0
  ·simp only [if_pos A]
   exact Fb f (m (.inl A)) (LN (r 0) sm0)
  simp only [if_neg A];by_cases G:op=1
  ·simp only [if_pos G];exact LM f L _
  simp only [if_neg G];by_cases F:op=2
  ·simp only [if_pos F];exact LM f L _
  simp only [if_neg F];by_cases z:op=3
  ·simp only [if_pos z]
   exact ⟨fun o g=>by
    rcases avA.1 g with g|g
    ·exact f.outs o g
    ·simp only [List.mem_singleton]at g;subst g;exact ⟨C z,r 0⟩,f.trace⟩
  simp only [if_neg z];by_cases y:op=4
  ·simp only [if_pos y]
   split
   ·exact qT f _ _
   ·exact Fb (c:={b with used:=b.used+1}) ⟨f.outs,f.trace⟩ (m (.inr y)) (LN (r 0) sm0)
  simp only [if_neg y];split
  ·split
   ·exact qT f _ _
   ·exact f
  ·split
   ·exact qT f _ _
   ·exact f
theorem AU {p:aU} {ps:List Int}:∀(n:Nat) {c:dY},Inv p ps c→G3 c→G3 (iterM p ps n c)
 |0,_,_,h=>h
 |n+1,_,I,h=>AU n (qF I) (LO I h)
theorem Fc {p:aU} {ps:List Int}:∀(n:Nat) {c:dY},Inv p ps c→Inv p ps (iterM p ps n c)
 |0,_,h=>h
 |n+1,_,h=>Fc n (qF h)
theorem AV {n:Int} (h:sm n):oO n:=⟨by have:=h.1;omega,by have:=h.2;omega⟩
theorem Fe {p:aU} {fuel:Int} {t:dW} (h:fQ p fuel t=0):GW (gJ p fuel t):=by
 have a:=P.Lx p fuel t;unfold gJ at a⊢;rw [if_pos h]at a⊢;obtain ⟨f,_⟩:=ot h;have b:G3 (lK p t.bN (ee p fuel t)):=AU _ f ⟨by simp [ee],by simp [ee]⟩;have I:Inv p t.bN (lK p t.bN (ee p fuel t)):=Fc _ f;generalize lK p t.bN (ee p fuel t)=c at a b I;have j:=I.fuel;have k:=I.co;have g:=I.ou;have i:=I.tr;exact ⟨⟨by omega,by omega⟩,⟨by show-9223372036854775808≤c.cost;omega,by show c.cost≤9223372036854775807;omega⟩,fun o d=>⟨AV (b.outs o d).1,AV (b.outs o d).2⟩,fun e a=>⟨AV (b.trace e a).1,AV (b.trace e a).2.1,AV (b.trace e a).2.2⟩,by show c.outs.length≤2^31;omega,by show c.trace.length≤2^31;omega⟩
end
namespace P
open Go Go.RowKit
def fa (K:Nat→ByteArray) (i:Nat):List (List Nat)→Nat
 |[]=>0
 |c::l=>if bD (K (c.headD 0)) (K i)=true then 0 else fa K i l+1
def sT (K:Nat→ByteArray) (out:List (List Nat)) (i:Nat):List (List Nat):=if fa K i out=out.length then out++[[i]]else out.set (fa K i out) (out.getD (fa K i out) []++[i])
def iY (K:Nat→ByteArray):Nat→List (List Nat)
 |0=>[]
 |n+1=>sT K (iY K n) n
theorem Ff (K:Nat→ByteArray) (i:Nat):∀l,fa K i l≤l.length
 |[]=>avk _
 |c::l=>by
  have:=Ff K i l;rw [fa,List.length_cons];split<;>omega
theorem LP {K:Nat→ByteArray} {i:Nat}:∀{l:List (List Nat)},fa K i l<l.length→∃c,l[fa K i l]?=some c∧bD (K (c.headD 0)) (K i)=true
 |[],h=>by simp at h
 |c::l,h=>by
  rw [fa]at h⊢;by_cases q:bD (K (c.headD 0)) (K i)=true
  ·rw [if_pos q];exact ⟨c,rfl,q⟩
  ·rw [if_neg q]at h⊢
   obtain ⟨d,a,h2⟩:=LP (l:=l) (by simpa using h);exact ⟨d,by simpa using a,h2⟩
theorem Sv {K:Nat→ByteArray} {i:Nat}:∀{l:List (List Nat)} {j:Nat} {c:List Nat},j<fa K i l→l[j]?=some c→bD (K (c.headD 0)) (K i)=false
 |[],j,c,h,e=>by simp at e
 |d::l,j,c,h,e=>by
  rw [fa]at h;by_cases q:bD (K (d.headD 0)) (K i)=true
  ·rw [if_pos q]at h;omega
  ·rw [if_neg q]at h
   cases j with
   |zero=>simp at e;subst e;exact avT.2 q
   |succ j=>exact Sv (l:=l) (j:=j) (by omega) (by simpa using e)
structure CI (out:List (List Nat)) (n:Nat):Prop where
 ne:∀c∈out,c≠[]
 lt:∀c∈out,∀x∈c,x<n
 len:∀c∈out,c.length≤n
 num:out.length≤n
theorem yI (K:Nat→ByteArray):∀n,CI (iY K n) n
 |0=>⟨by simp [iY],by simp [iY],by simp [iY],by simp [iY]⟩
 |n+1=>by
  have h:=yI K n;rw [iY];generalize iY K n=out at h;unfold sT;split
  ·refine ⟨fun c a=>?_,fun c a x b=>?_,fun c a=>?_,?_⟩
   ·rcases avA.1 a with q|q
    ·exact h.ne c q
    ·simp at q;subst q;simp
   ·rcases avA.1 a with q|q
    ·have:=h.lt c q x b;omega
    ·simp at q;subst q;simp at b;omega
   ·rcases avA.1 a with q|q
    ·have:=h.len c q;omega
    ·simp at q;subst q;simp
   ·have:=h.num;simp;exact this
  ·rename_i j
   have i:fa K n out<out.length:=by have:=Ff K n out;omega
   obtain ⟨d,g⟩:∃d,out[fa K n out]?=some d:=⟨_,avg i⟩
   have e:out.getD (fa K n out) []=d:=by simp [List.getD_eq_getElem?_getD,g]
   have f:=avl g;rw [e];refine ⟨fun c a=>?_,fun c a x b=>?_,fun c a=>?_,?_⟩
   ·rcases List.mem_or_eq_of_mem_set a with q|q
    ·exact h.ne c q
    ·subst q;simp
   ·rcases List.mem_or_eq_of_mem_set a with q|q
    ·have:=h.lt c q x b;omega
    ·subst q
     rcases avA.1 b with q|q
     ·have:=h.lt d f x q;omega
     ·simp at q;omega
   ·rcases List.mem_or_eq_of_mem_set a with q|q
    ·have:=h.len c q;omega
    ·subst q
     have:=h.len d f;simp;exact this
   ·have:=h.num;simp;omega
theorem vx (a b:ByteArray):bD a b=bD b a:=by
 rw [avM,gQ,gQ];exact eq_comm
def ni (c:List Nat):List Int:=c.map fun(i:Nat)=>(i:Int)
@[simp]theorem LQ (c:List Nat):(ni c).length=c.length:=by simp [ni]
def nr (c:List Nat):List PV:=(ni c).map pi
def mq (pos:List Nat) (out:List (List Nat)):List PV:=List.zipWith (fun p c=>PV.sl 1 p 0 c.length c.length) pos out
structure LL (h:PH) (b:Nat) (pos:List Nat) (out:List (List Nat)):Prop where
 top:h[b]?=some (.cells 1 (mq pos out))
 len:pos.length=out.length
 nd:pos.Nodup
 off:b∉pos
 Sw:∀(k p:Nat) (c:List Nat),pos[k]?=some p→out[k]?=some c→h[p]?=some (.cells 1 (nr c))
theorem LL.nil {h:PH} {b:Nat} (a:h[b]?=some (.cells 1 [])):LL h b [] []:=⟨a,rfl,List.nodup_nil,by simp,by simp⟩
theorem fg {pos:List Nat} {out:List (List Nat)} (h:pos.length=out.length):(mq pos out).length=out.length:=by simp [mq,h]
theorem Fg {pos:List Nat} {out:List (List Nat)} {k p:Nat} {c:List Nat} (a:pos[k]?=some p) (h2:out[k]?=some c):(mq pos out)[k]?=some (.sl 1 p 0 c.length c.length):=by
 simp [mq,List.getElem?_zipWith,a,h2]
theorem LL.pos {h:PH} {b:Nat} {pos:List Nat} {out:List (List Nat)} (L:LL h b pos out) {k:Nat} {c:List Nat} (d:out[k]?=some c):∃p,pos[k]?=some p∧(mq pos out)[k]?=some (.sl 1 p 0 c.length c.length)∧h[p]?=some (.cells 1 (nr c))∧p≠b∧p<h.length:=by
 obtain ⟨p,a⟩:∃p,pos[k]?=some p:=⟨_,avg (by have:=(avm.1 d).1;rw [L.len];exact this)⟩
 have hi:=L.Sw k p c a d;exact ⟨p,a,Fg a d,hi,fun e=>L.off (e▸avl a),(avm.1 hi).1⟩
theorem LL.more {h g:PH} {b:Nat} {pos:List Nat} {out:List (List Nat)} (L:LL h b pos out):LL (h++g) b pos out:=
 ⟨by rw [avt (avm.1 L.top).1];exact L.top,L.len,L.nd,L.off,fun k p c a h2=>by
  have:=L.Sw k p c a h2
  rw [avt (avm.1 this).1];exact this⟩
theorem LL.set {h:PH} {b a:Nat} {B:PB} {pos:List Nat} {out:List (List Nat)} (L:LL h b pos out) (g:a≠b) (f:a∉pos):LL (h.set a B) b pos out:=
 ⟨by rw [avE g];exact L.top,L.len,L.nd,L.off,fun k p c d h2=>by
  rw [avE (fun e=>f (by rw [e];exact avl d))];exact L.Sw k p c d h2⟩
theorem LL.add {h:PH} {b:Nat} {pos:List Nat} {out:List (List Nat)} (L:LL h b pos out) {k p i:Nat} {c:List Nat} (d:pos[k]?=some p) (f:out[k]?=some c):
 LL ((h.set p (.cells 1 (nr (c++[i])))).set b (.cells 1 ((mq pos out).set k (.sl 1 p 0 (c.length+1) (c.length+1))))) b pos (out.set k (c++[i])):=by
 have r:=(avm.1 L.top).1;have g:=(avm.1 (L.Sw k p c d f)).1;have t:p≠b:=fun e=>L.off (e▸avl d)
 refine ⟨?_,by simp [L.len],L.nd,L.off,fun o p' s a h2=>?_⟩
 ·rw [avR (by simpa using r)]
  congr 2;apply List.ext_getElem?;intro j;by_cases n:j=k
  ·subst n
   rw [avR (by rw [fg L.len];exact (avm.1 f).1),Fg d (avR (avm.1 f).1)];simp
  ·rw [avE (Ne.symm n)]
   simp [mq,List.getElem?_zipWith,avE (Ne.symm n)]
 ·have l:p'≠b:=fun e=>L.off (e▸avl a)
  rw [avE (Ne.symm l)];by_cases m:o=k
  ·subst m
   rw [d]at a;cases a;rw [avR (avm.1 f).1]at h2;cases h2;rw [avR g]
  ·have q:p≠p':=by
    intro e;subst e;exact m ((List.getElem?_inj (avm.1 a).1 L.nd).1 (a.trans d.symm))
   rw [avE (Ne.symm m)]at h2;rw [avE q];exact L.Sw o p' s a h2
theorem LL.new {h g:PH} {b p i:Nat} {pos:List Nat} {out:List (List Nat)} (L:LL h b pos out) (r:∀a,a<h.length→a≠b→g[a]?=h[a]?) (s:g[b]?=some (.cells 1 (mq pos out++[.sl 1 p 0 1 1]))) (n:g[p]?=some (.cells 1 [pi i])) (u:h.length≤p):LL g b (pos++[p]) (out++[[i]]):=by
 have v:=(avm.1 L.top).1
 have l:∀q∈pos,q<h.length:=by
  intro q m;obtain ⟨k,f⟩:=List.getElem?_of_mem m
  obtain ⟨c,j⟩:∃c,out[k]?=some c:=⟨_,avg (by rw [←L.len];exact (avm.1 f).1)⟩
  exact (avm.1 (L.Sw k q c f j)).1
 refine ⟨?_,by simp [L.len],?_,?_,fun k q c d h2=>?_⟩
 ·rw [s,mq,mq,List.zipWith_append L.len]
  rfl
 ·rw [List.nodup_append]
  refine ⟨L.nd,by simp,fun a t c j=>?_⟩;simp at j;have:=l a t;omega
 ·intro o
  rcases avA.1 o with q|q
  ·exact L.off q
  ·simp at q;omega
 ·by_cases f:k<pos.length
  ·rw [avt f]at d
   rw [avt (by rw [←L.len];exact f)]at h2;have:=L.Sw k q c d h2;rw [r q (l q (avl d)) (fun e=>L.off (e▸avl d))];exact this
  ·rw [avx (by omega)]at d
   rw [avx (by rw [←L.len];omega)]at h2;rw [←L.len]at h2
   have:k- pos.length=0:=by
    have:=(avm.1 d).1;simp at this;omega
   rw [this]at d h2;simp at d h2;subst d;subst h2;exact n
def AW (out:List (List Nat)):List (List PV):=out.map fun c=>[jh (ni c)]
theorem ab0 {A:Nat→Prop} {h:PH} {p:Nat} {c:List Nat} (b:A p) (a:h[p]?=some (.cells 1 (nr c))):Vz A h (.sl 1 p 0 c.length c.length) (jh (ni c)):=by
 have:=x8 (l:=ni c) b a;rwa [LQ]at this
theorem LL.vz {h:PH} {b:Nat} {pos:List Nat} {out:List (List Nat)} {A:Nat→Prop} (L:LL h b pos out) (f:∀x,A x):Vz A h (.sl 1 b 0 out.length out.length) (.fs 1 (AW out)):=by
 refine Am (f b) L.top (by simp [mq,L.len]) (by decide) (avk _) (avk _) (by simp [AW]) (by intro r e;simp only [AW,avN]at e;obtain ⟨x,_,rfl⟩:=e;rfl) ?_;have hi:=L.Sw;have a:=L.len;clear L;simp only [Nat.zero_mul,List.drop_zero,Nat.mul_one];rw [avn (by simp [mq,a])]
 induction out generalizing pos with
 |nil=>
  simp [mq,AW,Ep]
 |cons c out ih=>
  cases pos with
  |nil=>simp at a
  |cons p pos=>
   have j:=hi 0 p c rfl rfl;have g:=ih (pos:=pos) (fun k q d i h2=>hi (k+1) q d (by simpa using i) (by simpa using h2)) (by simpa using a);exact ⟨ab0 (f p) j,g⟩
open Go Go.RowKit
def sr (l:List ByteArray):List (List PV):=l.map fun s=>[ps s]
@[simp]theorem G4 (l:List ByteArray):(sr l).length=l.length:=by simp [sr]
def cG (l:List ByteArray) (i:Nat):ByteArray:=l.getD i .empty
theorem LR {l:List ByteArray} {i:Nat} (h:i<l.length):(sr l)[i]?=some [ps (cG l i)]:=by
 simp [sr,cG,avg h]
def CI3 (l:List ByteArray) (i:Nat) (fr:PF) (h:PH):Prop:=∃pos,LL h 0 pos (iY (cG l) i)∧fr.get 0= .fs 1 (sr l)∧fr.get 3= .sl 1 0 0 (iY (cG l) i).length (iY (cG l) i).length∧fr.get 4=pi i
theorem C5 {l:List ByteArray} (hl:l.length≤2^20):Fz E O 32 [.fs 1 (sr l)] (.fs 1 (AW (iY (cG l) l.length))):=by
 refine fM.body (F:=a32) rfl rfl rfl ?_;simp (maxSteps:=9^7)-implicitDefEqProofs+contextual [-getElem?_pos,avf,a32];refine dV (CI3 l) l.length (bX (h2:=[.cells 1 []]) [9] [(0,.fs 1 (sr l)),(3,.sl 1 0 0 0 0),(4,pi 0)] ?_ ?_ ?_ ?_ ?_ ?_) ⟨[],LL.nil rfl,by simp,by simp [iY],by simp⟩ ?_
 ·simp []
 iterate 2· simp
 ·intro b hb;omega
 iterate 2· simp (maxDischargeDepth:=8)-implicitDefEqProofs [aj,avf,]
 rintro i fr h hi ⟨pos,L,f0,N,f4⟩;have w:=yI (cG l) i;by_cases o:i<l.length
 ·have r:iY (cG l) (i+1)=sT (cG l) (iY (cG l) i) i:=rfl
  have w4:IntKind.i64.wrap ((i:Int)+1)=((i+1:Nat):Int):=ai ⟨by omega,by omega⟩
  obtain ⟨out,ho⟩:∃out,iY (cG l) i=out:=⟨_,rfl⟩
  rw [ho]at L N w r;have alG:=w.num;simp (maxSteps:=9^7)-implicitDefEqProofs [-getElem?_pos,avf,f0,N,f4,o];refine pP (fun a M h'=>h'=h∧M.get 0= .fs 1 (sr l)∧M.get 3= .sl 1 0 0 out.length out.length∧M.get 4=pi i∧M.get 5=pi a) (fa (cG l) i out) ?_ ?_
  ·exact ⟨rfl,by simp [f0],by simp [N],by simp [f4],by simp⟩
  rintro a gv h2 I ⟨rfl,e,j,m,q⟩;have gF:=Ff (cG l) i out;have t:=LR o;have U:=(avm.1 L.top).1;by_cases D:a<out.length
  ·have Sx:0<out.length:=by omega
   obtain ⟨c,n⟩:∃c,out[a]?=some c:=⟨_,avg D⟩
   obtain ⟨p,hp,qd,V,ZT,WA⟩:=L.pos n;have T:=avl n
   obtain ⟨x,c',rfl⟩:∃x c',c=x::c':=by
    cases c with
    |nil=>exact absurd rfl (w.ne _ T)
    |cons x c'=>exact ⟨x,c',rfl⟩
   have Q:x<l.length:=by have:=w.lt _ T x (by simp);omega
   have s:=LR Q;have B:=L.top;have W:(mq pos out).length=out.length:=fg L.len;by_cases cO:a<fa (cG l) i out
   ·have gw:=Sv cO n
    simp only [List.headD_cons]at gw;have w5:IntKind.i64.wrap ((a:Int)+1)=((a+1:Nat):Int):=ai ⟨by omega,by omega⟩;simp (maxSteps:=9^7)-implicitDefEqProofs [-getElem?_pos,avf,e,j,m,q,D,B,qd,V,W,nr,ni,t,s,gw,w5,o,Q,Sx];refine .for cO ⟨rfl,by simp [e],by simp [j],by simp [m],by simp⟩
   ·have H:a=fa (cG l) i out:=by omega
    obtain ⟨c2,ME,v⟩:=LP (K:=cG l) (i:=i) (l:=out) (by omega);rw [←H,n]at ME;cases ME;simp only [List.headD_cons]at v;have X:¬ (a:Int)=out.length:=by omega
    have y:sT (cG l) out i=out.set a ((x::c')++[i]):=by
     rw [sT,if_neg (by omega),←H];simp [List.getD_eq_getElem?_getD,n]
    have Ml:(nr (x::c')).length=c'.length+1:=by simp [nr]
    have WB:=w.len _ T;simp only [List.length_cons]at WB;simp (maxSteps:=9^7)-implicitDefEqProofs [-getElem?_pos,avf,e,j,m,q,D,B,qd,V,W,nr,ni,t,s,v,X,o,Q,Sx];refine cj (cs:=nr (x::c')) (new:=[pi i]) (by rw [avt WA];exact V) rfl (by simp [eB]) (by rw [Ml];omega) (by omega) rfl (by simp [fG]) (by omega) (by omega) ?_
    obtain ⟨g,f⟩:∃g,(h2++[PB.cells 1 [pi i]]).set p (.cells 1 (nr (x::c')++[pi i]))=g:=⟨_,rfl⟩
    have d:g[0]?=some (.cells 1 (mq pos out)):=by
     rw [←f,avE ZT,avt (avm.1 B).1];exact B
    have C:=kT (x:=PV.sl 1 p 0 (c'.length+1+1) (c'.length+1+1)) (l:=mq pos out) (k:=a) (by omega);rw [f];simp (maxSteps:=9^7)-implicitDefEqProofs [-getElem?_pos,avf,e,j,m,q,d,W,D,C,w4];have S:nr ((x::c')++[i])=nr (x::c')++[pi i]:=by simp [nr,ni]
    have hL:=(L.more (g:=[PB.cells 1 [pi i]])).add (i:=i) hp n;rw [S,f]at hL;refine ⟨by omega,by omega,.for o ⟨pos,?_,by simp [e],by simp [j,r,y],by simp⟩⟩;rw [r,y];exact hL
  ·have H:a=out.length:=by omega
   subst H
   have y:sT (cG l) out i=out++[[i]]:=by
    rw [sT,if_pos (by omega)]
   simp (maxSteps:=9^7)-implicitDefEqProofs [-getElem?_pos,avf,e,j,m,q];refine cj (cs:=mq pos out) (new:=[da]) (by rw [avt U];exact L.top) rfl (by simp [eB]) (by rw [fg L.len];omega) (by omega) rfl (by simp [fG]) (by omega) (by omega) ?_
   obtain ⟨g,f⟩:∃g,(h2++[PB.cells 1 [da]]).set 0 (.cells 1 (mq pos out++[da]))=g:=⟨_,rfl⟩
   have d:g[0]?=some (.cells 1 (mq pos out++[da])):=by
    rw [←f,avR (by simp)]
   have u:g.length=h2.length+1:=by rw [←f];simp
   have LS:(mq pos out++[da]).length=out.length+1:=by rw [avp,fg L.len];rfl
   have WC:(mq pos out++[da])[out.length]?=some da:=by
    rw [avx (by rw [fg L.len];omega),fg L.len,Nat.sub_self];rfl
   rw [f];simp (maxSteps:=9^7)-implicitDefEqProofs [-getElem?_pos,avf,e,j,m,q,d,LS,WC];refine ⟨by omega,?_⟩;rw [Al (new:=[pi i]) (by decide) rfl (by simp [eB]) (by decide) (by decide) (by decide)]
   obtain ⟨P,J⟩:∃P,(g++[PB.cells 1 [pi i]]).length=P:=⟨_,rfl⟩
   obtain ⟨G,hG⟩:∃G,g++[PB.cells 1 [pi i]]++[PB.cells 1 [pi i]]=G:=⟨_,rfl⟩
   have Y:P=h2.length+2:=by rw [←J,avp,u];rfl
   have z:∀a,a<h2.length+1→G[a]?=g[a]?:=by
    intro a I;rw [←hG,avt (by rw [J,Y];omega),avt (by rw [u];exact I)]
   have Z:G[P]?=some (.cells 1 [pi i]):=by
    rw [←hG,avx (by omega),J,Nat.sub_self];rfl
   have A:G[0]?=some (.cells 1 (mq pos out++[da])):=by
    rw [z 0 (by omega)];exact d
   have C:=kT (x:=PV.sl 1 P 0 1 1) (l:=mq pos out++[da]) (k:=out.length) (by omega)
   have R:(mq pos out++[da]).set out.length (.sl 1 P 0 1 1)=mq pos out++[.sl 1 P 0 1 1]:=by
    rw [List.set_append_right _ _ (by rw [fg L.len];omega),fg L.len,Nat.sub_self];rfl
   rw [R]at C;rw [J,hG];simp (maxSteps:=9^7)-implicitDefEqProofs [-getElem?_pos,avf,e,j,m,q,A,LS,C,w4];refine ⟨by omega,.for o ⟨pos++[P],?_,by simp [e],by simp [r,y],by simp⟩⟩;rw [r,y];refine L.new (fun a I h0=>?_) ?_ ?_ (by omega)
   ·rw [avE (Ne.symm h0),z a (by omega),←f,avE (Ne.symm h0),avt I]
   ·rw [avR (avm.1 A).1]
   ·rw [avE (by omega)]
    exact Z
 ·obtain rfl:i=l.length:=by omega
  simp (maxSteps:=9^7)-implicitDefEqProofs [-getElem?_pos,avf,f0,N,f4];refine bW ?_;exact oL (L.vz (fun _=>trivial))
end P
namespace P
open Go Go.RowKit
theorem WD {out:List (List Nat)} {i:Nat} {c:List Nat} (h:out[i]?=some c):(AW out)[i]?=some [jh (ni c)]:=by simp [AW,h]
@[simp]theorem WE (out:List (List Nat)):(AW out).length=out.length:=by simp [AW]
theorem QD {out:List (List Nat)} (n:out.length≤2^40) (k:∀c∈out,c.length≤2^40):Fz E O 31 [.fs 1 (AW out),.fs 1 (AW out)] (pb true):=by
 refine Fz.body (F:=a31) rfl rfl rfl rfl ?_;simp (maxSteps:=9^7)-implicitDefEqProofs+contextual [-getElem?_pos,avf,a31];refine pP (fun i a h=>h=[]∧a.get 0= .fs 1 (AW out)∧a.get 1= .fs 1 (AW out)∧a.get 5=pi i) out.length ?_ ?_
 ·exact ⟨rfl,by simp,by simp,by simp⟩
 rintro i a h hi ⟨rfl,d,b,e⟩;by_cases h:i<out.length
 ·obtain ⟨c,f⟩:∃c,out[i]?=some c:=⟨_,avg h⟩
  have o:=k c (avl f);have g:IntKind.i64.wrap ((i:Int)+1)=((i+1:Nat):Int):=ai ⟨by omega,by omega⟩;have j:=WD f;simp (maxSteps:=9^7)-implicitDefEqProofs+contextual [-getElem?_pos,avf,d,b,e,h,j];refine aF (yq (l:=ni c) (m:=ni c) (by rw [LQ];omega)) ?_ ?_ ?_
  iterate 2· simp (maxDischargeDepth:=8)-implicitDefEqProofs [-getElem?_pos,avf]
  simp (maxSteps:=9^7)-implicitDefEqProofs+contextual [-getElem?_pos,avf,d,b,e,g];exact .for h ⟨rfl,by simp [d],by simp [b],by simp⟩
 ·obtain rfl:i=out.length:=by omega
  simp (maxSteps:=9^7)-implicitDefEqProofs+contextual [-getElem?_pos,avf,d,b,e]
def yJ (level sees:Int) (p:aU) (fuel:Int) (l:List dW):List ByteArray:=l.map fun t=>mE level sees (gJ p fuel t)
@[simp]theorem iZ (level sees:Int) (p:aU) (fuel:Int) (l:List dW):(yJ level sees p fuel l).length=l.length:=by simp [yJ]
def src (l:List ByteArray):List PV:=(sr l).flatten
theorem qU (l:List ByteArray) (s:ByteArray):src (l++[s])=src l++[ps s]:=by simp [src,sr]
@[simp]theorem C7:∀l:List ByteArray,(src l).length=l.length
 |[]=>rfl
 |a::l=>by
  have:=C7 l;simp only [src,sr,List.map_cons,List.flatten_cons,avp,List.length_cons,List.length_nil]at*;omega
@[simp]theorem QE:∀l:List ByteArray,dN (src l)=true
 |[]=>rfl
 |a::l=>by
  have:=QE l;simp only [src,sr,List.map_cons,List.flatten_cons]at*;rw [aj];exact ⟨rfl,this⟩
theorem Fh:∀l:List ByteArray,(src l).all tn=true
 |[]=>rfl
 |a::l=>by
  have:=Fh l;simp only [src,sr,List.map_cons,List.flatten_cons]at*;rw [List.all_append,this];rfl
theorem Sy {A:Nat→Prop} {c:Nat→Nat} {h g:PH} {b n:Nat} {l:List ByteArray} (d:l.length=n) (f:A b) (e:h[b]?=some (.cells 1 (src l))):Vg A c h g (.sl 1 b 0 n n) (.fs 1 (sr l))↔True:=⟨fun _=>trivial,fun _=>d▸oL (mj f e (by omega) (G4 l) (by
 intro r a;simp only [sr,avN]at a;obtain ⟨t,_,rfl⟩:=a
 rfl) (jR (Fh l)))⟩
theorem AX {level sees:Int} {p:aU} {fuel:Int} {l:List dW} {j:Nat} {t:dW} (h:l[j]?=some t):yJ level sees p fuel (l.take (j+1))=yJ level sees p fuel (l.take j)++[mE level sees (gJ p fuel t)]:=by
 rw [avB,h];simp [yJ]
def ZL (level sees:Int) (p:aU) (fuel:Int) (l:List dW) (j:Nat):List (Nat×PV):=[(0,pi level),(1,pi sees),(2,.fs 7 (Bl p fuel l)),(7,.sl 1 0 0 j j),(8,pi j)]
def ZH (level sees:Int) (p:aU) (fuel:Int) (l:List dW) (j:Nat):PH:=[.cells 1 (src (yJ level sees p fuel (l.take j)))]
def ZI (level sees:Int) (p:aU) (fuel:Int) (l:List dW) (j:Nat) (fr:PF) (h:PH):Prop:=h=ZH level sees p fuel l j∧∀t∈ZL level sees p fuel l j,fr.get t.1=t.2
theorem LU {level sees:Int} {p:aU} {fuel:Int} {l:List dW} {j:Nat}:ZI level sees p fuel l j (PF.tm (ZL level sees p fuel l j)) (ZH level sees p fuel l j):=⟨rfl,fun t a=>by
 simp only [ZL,avy,avQ,or_false]at a
 rcases a with rfl|rfl|rfl|rfl|rfl<;>simp [ZL]⟩
theorem LV {level sees:Int} {p:aU} {fuel:Int} {l:List dW} (v:0≤level∧level≤15) (hs:0≤sees∧sees≤15) (z:l.length≤16384) (w:∀t∈l,fQ p fuel t=0):Fz E O 33 [pi level,pi sees,.fs 7 (Bl p fuel l)] (.fs 1 (sr (yJ level sees p fuel l))):=by
 refine fM.body (F:=a33) rfl rfl rfl ?_;simp (maxSteps:=9^7)-implicitDefEqProofs+contextual [-getElem?_pos,avf,a33];refine dV (ZI level sees p fuel l) l.length (bX (h2:=ZH level sees p fuel l 0) [9] (ZL level sees p fuel l 0) ?_ ?_ ?_ ?_ ?_ ?_) LU ?_
 ·simp [ZH,ZL,src,sr,yJ]
 iterate 2· simp
 ·intro b y;omega
 iterate 2· simp (maxDischargeDepth:=8)-implicitDefEqProofs [aj,avf,ZH,ZL,src,sr,yJ]
 rintro j B h A ⟨rfl,s⟩;simp only [ZL,avy,avQ,or_false,forall_eq_or_imp,forall_eq]at s;obtain ⟨d,c,a,e,r⟩:=s;by_cases i:j<l.length
 ·obtain ⟨t,f⟩:∃t,l[j]?=some t:=⟨_,avg i⟩
  have u:IntKind.i64.wrap ((j:Int)+1)=((j+1:Nat):Int):=ai ⟨by omega,by omega⟩;have x:(l.take j).length=j:=by simp;omega
  have g:=AX (level:=level) (sees:=sees) (p:=p) (fuel:=fuel) f
  obtain ⟨T,q⟩:∃T,yJ level sees p fuel (l.take j)=T:=⟨_,rfl⟩
  have o:T.length=j:=by rw [←q,iZ,x]
  rw [q]at g;have n:dN (du (gJ p fuel t))=true:=by simp [du]
  have m:(du (gJ p fuel t)).length=7:=rfl;have k:(du (gJ p fuel t)).take 7=du (gJ p fuel t):=rfl;simp (maxSteps:=9^7)-implicitDefEqProofs+contextual [-getElem?_pos,avf,d,c,a,e,r,i,Qw,f,ZH,q,m,k];refine aF (QB (Fe (w t (avl f))) v hs) ?_ ?_ ?_
  iterate 2· simp (maxDischargeDepth:=8)-implicitDefEqProofs [-getElem?_pos,avf,n]
  simp (maxSteps:=9^7)-implicitDefEqProofs+contextual [-getElem?_pos,avf,e];apply cj
  iterate 9· first|rfl|omega|(simp-implicitDefEqProofs [-getElem?_pos,avf,o];first|done|rfl|omega)
  simp (maxSteps:=9^7)-implicitDefEqProofs+contextual [-getElem?_pos,avf,d,c,a,e,r,u];refine .ny i (bX (h2:=ZH level sees p fuel l (j+1)) [0] (ZL level sees p fuel l (j+1)) ?_ ?_ ?_ ?_ ?_ ?_) LU
  ·simp [ZH,ZL,g,qU,o,d,c,a]
  iterate 2· simp
  ·intro b y;omega
  iterate 2· simp (maxDischargeDepth:=8)-implicitDefEqProofs [aj,avf,ZH,ZL,g,qU,o,d,c,a]
 ·obtain rfl:j=l.length:=by omega
  simp (maxSteps:=9^7)-implicitDefEqProofs+contextual [-getElem?_pos,avf,d,c,a,e,r,ZH];refine bW ?_;simp (maxDischargeDepth:=8)-implicitDefEqProofs [Sy]
open Go Go.RowKit
def AY (K:Nat→ByteArray):Nat→List (List Nat)→List (Value×PV)
 |_,[]=>[]
 |b,c::l=>(.string (K (c.headD 0)),pi b)::AY K (b+1) l
theorem Fi (a b:ByteArray):jB (.string a) (.string b)=some (bD a b):=rfl
theorem wS (K:Nat→ByteArray) (i:Nat):∀(b:Nat) (l:List (List Nat)),sD (.string (K i)) (AY K b l)=some (if fa K i l<l.length then some (pi ((b+fa K i l:Nat):Int))else none)
 |b,[]=>by simp [AY]
 |b,c::l=>by
  rw [AY,sD,Fi,vx,fa]
  cases h:bD (K (c.headD 0)) (K i)with
  |true=>simp
  |false=>
   simp only [Bool.false_eq_true,if_false];rw [wS K i (b+1) l];simp only [List.length_cons,Nat.add_lt_add_iff_right];rw [show b+1+fa K i l=b+(fa K i l+1) by omega]
theorem AZ (K:Nat→ByteArray) (i:Nat):∀(b:Nat) (l:List (List Nat)),fa K i l=l.length→vR (.string (K i)) (pi ((b+l.length:Nat):Int)) (AY K b l)=some (AY K b (l++[[i]]))
 |b,[],_=>by simp [AY,vR]
 |b,c::l,h=>by
  rw [fa]at h;rw [AY,vR,Fi,vx]
  cases q:bD (K (c.headD 0)) (K i)with
  |true=>rw [q]at h;simp at h
  |false=>
   rw [q]at h;simp only [Bool.false_eq_true,if_false,List.length_cons]at h;have:=AZ K i (b+1) l (by omega);rw [show b+(c::l).length=b+1+l.length by simp;omega];simp only [this,Option.map_some,List.cons_append];rw [AY]
theorem Fj (K:Nat→ByteArray) {x i:Nat} {c:List Nat}:∀(b:Nat) (l:List (List Nat)) (a:Nat),l[a]?=some (x::c)→AY K b (l.set a ((x::c)++[i]))=AY K b l
 |b,[],a,h=>by simp at h
 |b,d::l,0,h=>by
  simp at h;subst h;rfl
 |b,d::l,a+1,h=>by
  rw [List.set_cons_succ,AY,AY,Fj K (b+1) l a (by simpa using h)]
def MI (l:List ByteArray) (i:Nat) (fr:PF) (h:PH):Prop:=∃pos,LL h 1 pos (iY (cG l) i)∧h[0]?=some (.map (AY (cG l) 0 (iY (cG l) i)))∧0∉pos∧fr.get 3= .mp 0∧fr.get 4= .sl 1 1 0 (iY (cG l) i).length (iY (cG l) i).length∧fr.get 10= .fs 1 (sr l)∧fr.get 11=pi l.length∧fr.get 12=pi i
theorem G5 {l:List ByteArray} (hl:l.length≤2^20):Fz E O 62 [.fs 1 (sr l)] (.fs 1 (AW (iY (cG l) l.length))):=by
 refine fM.body (F:=a62) rfl rfl rfl ?_;simp (maxSteps:=9^7)-implicitDefEqProofs+contextual [-getElem?_pos,avf,a62];have v:Vg (fun _=>False) (fun i=>([0,9]:List Nat)[i]?.getD 0) [PB.map []] [PB.map [],PB.cells 1 []] (.mp 0) (.mp 0):=abp rfl rfl rfl;refine dV (MI l) l.length (bX (h2:=[.map [],.cells 1 []]) [0,9] [(3,.mp 0),(4,.sl 1 1 0 0 0),(10,.fs 1 (sr l)),(11,pi l.length),(12,pi 0)] ?_ ?_ ?_ ?_ ?_ ?_) ⟨[],LL.nil rfl,rfl,by simp,by simp,by simp [iY],by simp,by simp,by simp⟩ ?_
 ·simp [v]
 iterate 2· simp
 ·intro b hb;omega
 iterate 2· simp (maxDischargeDepth:=8)-implicitDefEqProofs [aj,avf,v]
 rintro i fr h hi ⟨pos,L,y,f,s,n,f10,f11,f12⟩;have Q:=yI (cG l) i;by_cases I:i<l.length
 ·have o:iY (cG l) (i+1)=sT (cG l) (iY (cG l) i) i:=rfl
  have w4:IntKind.i64.wrap ((i:Int)+1)=((i+1:Nat):Int):=ai ⟨by omega,by omega⟩
  obtain ⟨out,ho⟩:∃out,iY (cG l) i=out:=⟨_,rfl⟩
  rw [ho]at L n Q o y;have alG:=Q.num;have A:=(avm.1 y).1;have W:=(avm.1 L.top).1;have z:=LR I;have gF:=Ff (cG l) i out;have d:=wS (cG l) i 0 out;by_cases u:fa (cG l) i out<out.length
  ·obtain ⟨a,C⟩:∃a,fa (cG l) i out=a:=⟨_,rfl⟩
   rw [if_pos u,Nat.zero_add]at d;obtain ⟨c,t,heq⟩:=LP (K:=cG l) (i:=i) (l:=out) u;rw [C]at d t u;obtain ⟨p,hp,qd,XU,ZT,WA⟩:=L.pos t;have M:=avl t
   obtain ⟨x,c',rfl⟩:∃x c',c=x::c':=by
    cases c with
    |nil=>exact absurd rfl (Q.ne _ M)
    |cons x c'=>exact ⟨x,c',rfl⟩
   have C6:=L.top;have mN:(mq pos out).length=out.length:=fg L.len
   have r:sT (cG l) out i=out.set a ((x::c')++[i]):=by
    rw [sT,if_neg (by omega),C];simp [List.getD_eq_getElem?_getD,t]
   have Ml:(nr (x::c')).length=c'.length+1:=by simp [nr]
   have WB:=Q.len _ M;simp only [List.length_cons]at WB;have T:p≠0:=fun e=>f (e▸avl hp)
   simp (maxSteps:=9^7)-implicitDefEqProofs [-getElem?_pos,avf,s,n,f10,f11,f12,I,z,y,d,cU,C6,qd,mN,u];refine ⟨by omega,?_⟩;refine cj (cs:=nr (x::c')) (new:=[pi i]) (by rw [avt WA];exact XU) rfl (by simp [eB]) (by rw [Ml];omega) (by omega) rfl (by simp [fG]) (by omega) (by omega) ?_
   obtain ⟨g,m⟩:∃g,(h++[PB.cells 1 [pi i]]).set p (.cells 1 (nr (x::c')++[pi i]))=g:=⟨_,rfl⟩
   have N:g[1]?=some (.cells 1 (mq pos out)):=by
    rw [←m,avE ZT,avt W];exact C6
   have X:g[0]?=some (.map (AY (cG l) 0 out)):=by
    rw [←m,avE T,avt A];exact y
   have J:=kT (x:=PV.sl 1 p 0 (c'.length+1+1) (c'.length+1+1)) (l:=mq pos out) (k:=a) (by omega);rw [m];simp (maxSteps:=9^7)-implicitDefEqProofs [-getElem?_pos,avf,s,n,f10,f11,f12,N,mN,u,J,w4];have U:nr ((x::c')++[i])=nr (x::c')++[pi i]:=by simp [nr,ni]
   have hL:=(L.more (g:=[PB.cells 1 [pi i]])).add (i:=i) hp t;rw [U,m]at hL;refine ⟨by omega,by omega,.for I ⟨pos,?_,?_,f,by simp [s],by simp [n,o,r],by simp [f10],by simp [f11],by simp⟩⟩
   ·rw [o,r]
    exact hL
   ·rw [o,r,Fj _ _ _ _ t,avE (by omega)]
    exact X
  ·have C:fa (cG l) i out=out.length:=by omega
   have r:sT (cG l) out i=out++[[i]]:=by rw [sT,if_pos C]
   rw [if_neg u]at d;have w:=AZ (cG l) i 0 out C;rw [Nat.zero_add]at w
   obtain ⟨h3,j⟩:∃h3,h.set 0 (.map (AY (cG l) 0 (out++[[i]])))=h3:=⟨_,rfl⟩
   have hl3:h3.length=h.length:=by rw [←j,List.length_set]
   have L3:LL h3 1 pos out:=by rw [←j];exact L.set (by omega) f
   have V:h3[0]?=some (.map (AY (cG l) 0 (out++[[i]]))):=by rw [←j,avR A]
   simp (maxSteps:=9^7)-implicitDefEqProofs [-getElem?_pos,avf,s,n,f10,f11,f12,I,z,y,d,cU,w,j];refine cj (cs:=mq pos out) (new:=[da]) (by rw [avt (by omega)];exact L3.top) rfl (by simp [eB]) (by rw [fg L.len];omega) (by omega) rfl (by simp [fG]) (by omega) (by omega) ?_
   obtain ⟨g,m⟩:∃g,(h3++[PB.cells 1 [da]]).set 1 (.cells 1 (mq pos out++[da]))=g:=⟨_,rfl⟩
   have N:g[1]?=some (.cells 1 (mq pos out++[da])):=by
    rw [←m,avR (by simp;omega)]
   have B:g.length=h3.length+1:=by rw [←m];simp
   have LS:(mq pos out++[da]).length=out.length+1:=by rw [avp,fg L.len];rfl
   have WC:(mq pos out++[da])[out.length]?=some da:=by
    rw [avx (by rw [fg L.len];omega),fg L.len,Nat.sub_self];rfl
   rw [m];simp (maxSteps:=9^7)-implicitDefEqProofs [-getElem?_pos,avf,s,n,f10,f11,f12,N,LS,WC];refine ⟨by omega,?_⟩;rw [Al (new:=[pi i]) (by decide) rfl (by simp [eB]) (by decide) (by decide) (by decide)]
   obtain ⟨P,R⟩:∃P,(g++[PB.cells 1 [pi i]]).length=P:=⟨_,rfl⟩
   obtain ⟨G,hG⟩:∃G,g++[PB.cells 1 [pi i]]++[PB.cells 1 [pi i]]=G:=⟨_,rfl⟩
   have Z:P=h3.length+2:=by rw [←R,avp,B];rfl
   have D:∀a,a<h3.length+1→G[a]?=g[a]?:=by
    intro a Y;rw [←hG,avt (by rw [R,Z];omega),avt (by rw [B];exact Y)]
   have hGP:G[P]?=some (.cells 1 [pi i]):=by
    rw [←hG,avx (by omega),R,Nat.sub_self];rfl
   have H:G[1]?=some (.cells 1 (mq pos out++[da])):=by
    rw [D 1 (by omega)];exact N
   have J:=kT (x:=PV.sl 1 P 0 1 1) (l:=mq pos out++[da]) (k:=out.length) (by omega)
   have S:(mq pos out++[da]).set out.length (.sl 1 P 0 1 1)=mq pos out++[.sl 1 P 0 1 1]:=by
    rw [List.set_append_right _ _ (by rw [fg L.len];omega),fg L.len,Nat.sub_self];rfl
   rw [S]at J;rw [R,hG];simp (maxSteps:=9^7)-implicitDefEqProofs [-getElem?_pos,avf,s,n,f10,f11,f12,H,LS,J,w4]
   have Sz:∀a,a<h3.length→a≠1→(G.set 1 (PB.cells 1 (mq pos out++[.sl 1 P 0 1 1])))[a]?=h3[a]?:=fun a Y h0=>by
    rw [avE (Ne.symm h0),D a (by omega),←m,avE (Ne.symm h0),avt Y]
   refine ⟨by omega,.for I ⟨pos++[P],?_,?_,?_,by simp [s],by simp [o,r],by simp [f10],by simp [f11],by simp⟩⟩
   ·rw [o,r]
    refine L3.new Sz ?_ ?_ (by omega)
    ·rw [avR (avm.1 H).1]
    ·rw [avE (by omega)]
     exact hGP
   ·rw [o,r,Sz 0 (by omega) (by omega)]
    exact V
   ·intro M
    rcases avA.1 M with q|q
    ·exact f q
    ·simp at q;omega
 ·obtain rfl:i=l.length:=by omega
  simp (maxSteps:=9^7)-implicitDefEqProofs [-getElem?_pos,avf,n,f11,f12];refine bW ?_;exact oL (L.vz (fun _=>trivial))
end P
namespace P
open Go Go.RowKit
def okV (level sees:Int):Prop:=(0≤level∧level≤15)∧0≤sees∧sees≤15
instance(level sees:Int):Decidable (okV level sees):=inferInstanceAs(Decidable (_∧_))
def vA (level sees:Int) (p:aU) (fuel:Int) (l:List dW):List (List Nat):=iY (cG (yJ level sees p fuel l)) l.length
def sU (p:aU) (fuel level sees:Int):List PV:=
 if cC p fuel≠0 then [da,pi (cC p fuel)]else if¬ okV level sees then [da,pi 1]else match eV p fuel with
  |some l=>[.fs 1 (AW (vA level sees p fuel l)),pi 0]
  |none=>[da,pi 5]
def KL (fuel level sees:Int) (l:List dW) (j:Nat):List (Nat×PV):=[(1,pi fuel),(2,pi level),(3,pi sees),(4,.ref 0 0 3),(12,.sl 1 1 0 j j),(51,.fs 2 (str l)),(52,pi l.length),(53,pi j)]
def KH (level sees:Int) (p:aU) (fuel:Int) (l:List dW) (j:Nat):PH:=[.cells 3 (au p),.cells 1 (src (yJ level sees p fuel (l.take j)))]
def KI (level sees:Int) (p:aU) (fuel:Int) (l:List dW) (j:Nat) (fr:PF) (h:PH):Prop:=h=KH level sees p fuel l j∧∀t∈KL fuel level sees l j,fr.get t.1=t.2
theorem LW {level sees:Int} {p:aU} {fuel:Int} {l:List dW} {j:Nat}:KI level sees p fuel l j (PF.tm (KL fuel level sees l j)) (KH level sees p fuel l j):=⟨rfl,fun t a=>by
 simp only [KL,avy,avQ,or_false]at a
 rcases a with rfl|rfl|rfl|rfl|rfl|rfl|rfl|rfl<;>simp [KL]⟩
theorem G6 {p:aU} {fuel level sees:Int} (r:gZ p):Fz E O 30 [.agg (au p),pi fuel,pi level,pi sees] (.hZ (sU p fuel level sees)):=by
 refine fM.body (F:=a30) rfl rfl rfl ?_;simp (maxSteps:=9^7)-implicitDefEqProofs+contextual [-getElem?_pos,avf,a30,au];refine aF (qR r) ?_ ?_ ?_
 iterate 2· simp (maxDischargeDepth:=8)-implicitDefEqProofs [-getElem?_pos,avf,au]
 cases h:bm p with
 |false=>
  have e:sU p fuel level sees=[da,pi 30]:=by simp [sU,cC,h]
  rw [e];simp (maxSteps:=9^7)-implicitDefEqProofs+contextual [-getElem?_pos,avf,h];refine bW ?_;simp
 |true=>
  by_cases a:fuel<0
  ·have e:sU p fuel level sees=[da,pi 1]:=by simp [sU,cC,h,a]
   rw [e];simp (maxSteps:=9^7)-implicitDefEqProofs [-getElem?_pos,avf,h,a];refine bW ?_;simp
  by_cases h2:4096<fuel
  ·have e:sU p fuel level sees=[da,pi 1]:=by simp [sU,cC,h,a,h2]
   rw [e];simp (maxSteps:=9^7)-implicitDefEqProofs [-getElem?_pos,avf,h,a,h2];refine bW ?_;simp
  have c:cC p fuel=0:=by simp [cC,h];omega
  by_cases d:level<0
  ·have e:sU p fuel level sees=[da,pi 1]:=by rw [sU,if_neg (by simp [c]),if_pos (fun k=>by have:=k.1.1;omega)]
   rw [e];simp (maxSteps:=9^7)-implicitDefEqProofs [-getElem?_pos,avf,h,a,h2,d];refine bW ?_;simp
  by_cases f:15<level
  ·have e:sU p fuel level sees=[da,pi 1]:=by rw [sU,if_neg (by simp [c]),if_pos (fun k=>by have:=k.1.2;omega)]
   rw [e];simp (maxSteps:=9^7)-implicitDefEqProofs [-getElem?_pos,avf,h,a,h2,d,f];refine bW ?_;simp
  by_cases g:sees<0
  ·have e:sU p fuel level sees=[da,pi 1]:=by rw [sU,if_neg (by simp [c]),if_pos (fun k=>by have:=k.2.1;omega)]
   rw [e];simp (maxSteps:=9^7)-implicitDefEqProofs [-getElem?_pos,avf,h,a,h2,d,f,g];refine bW ?_;simp
  by_cases q:15<sees
  ·have e:sU p fuel level sees=[da,pi 1]:=by rw [sU,if_neg (by simp [c]),if_pos (fun k=>by have:=k.2.2;omega)]
   rw [e];simp (maxSteps:=9^7)-implicitDefEqProofs [-getElem?_pos,avf,h,a,h2,d,f,g,q];refine bW ?_;simp
  have I:okV level sees:=⟨⟨by omega,by omega⟩,by omega,by omega⟩
  have P:sU p fuel level sees=match eV p fuel with|some l=>[.fs 1 (AW (vA level sees p fuel l)),pi 0]|none=>[da,pi 5]:=by simp [sU,c,I]
  have m:=yy (fuel:=fuel) r;rw [P]
  cases i:eV p fuel with
  |none=>
   have A:vT p fuel=[da,pi 5]:=by simp [vT,c,i]
   rw [A]at m;simp (maxSteps:=9^7)-implicitDefEqProofs [-getElem?_pos,avf,h,a,h2,d,f,g,q,au];refine aF (m) ?_ ?_ ?_
   iterate 2· simp (maxDischargeDepth:=8)-implicitDefEqProofs [-getElem?_pos,avf,au]
   simp (maxSteps:=9^7)-implicitDefEqProofs [-getElem?_pos,avf];refine bW ?_;simp
  |some l=>
   have A:vT p fuel=[.fs 2 (str l),pi 0]:=by simp [vT,c,i]
   rw [A]at m;have D:=qS h i;have K:=rU c i;simp (maxSteps:=9^7)-implicitDefEqProofs [-getElem?_pos,avf,h,a,h2,d,f,g,q,au];refine aF (m) ?_ ?_ ?_
   iterate 2· simp (maxDischargeDepth:=8)-implicitDefEqProofs [-getElem?_pos,avf,au]
   simp (maxSteps:=9^7)-implicitDefEqProofs [-getElem?_pos,avf];refine dV (KI level sees p fuel l) l.length (bX (h2:=KH level sees p fuel l 0) [0,9] (KL fuel level sees l 0) ?_ ?_ ?_ ?_ ?_ ?_) LW ?_
   ·simp [KH,KL,au,src,sr,yJ]
   iterate 2· simp
   ·intro b L;omega
   iterate 2· simp (maxDischargeDepth:=8)-implicitDefEqProofs [aj,avf,KH,KL,au,src,sr,yJ]
   rintro j S h R ⟨rfl,C⟩;simp only [KL,avy,avQ,or_false,forall_eq_or_imp,forall_eq]at C;obtain ⟨z,o,n,y,f12,f51,f52,f53⟩:=C;have Q:=D.2;by_cases v:j<l.length
   ·obtain ⟨t,s⟩:∃t,l[j]?=some t:=⟨_,avg v⟩
    have B:=avl s;have H:IntKind.i64.wrap ((j:Int)+1)=((j+1:Nat):Int):=ai ⟨by omega,by omega⟩;have J:(l.take j).length=j:=by simp;omega
    have N:=CJ (fuel:=fuel) r (D.1 t B);have M:=Lw (level:=level) (bits:=sees) (Fe (K t B));have u:=AX (level:=level) (sees:=sees) (p:=p) (fuel:=fuel) s
    obtain ⟨T,x⟩:∃T,yJ level sees p fuel (l.take j)=T:=⟨_,rfl⟩
    have w:T.length=j:=by rw [←x,iZ,J]
    rw [x]at u;simp (maxSteps:=9^7)-implicitDefEqProofs+contextual [-getElem?_pos,avf,z,o,n,y,f12,f51,f52,f53,v,tt,s,KH,au,cH,x];refine aF (N) ?_ ?_ ?_
    iterate 2· simp (maxDischargeDepth:=8)-implicitDefEqProofs [-getElem?_pos,avf,au,cH]
    simp (maxSteps:=9^7)-implicitDefEqProofs+contextual [-getElem?_pos,avf,du,o,n,f12];refine aF (M) ?_ ?_ ?_
    iterate 2· simp (maxDischargeDepth:=8)-implicitDefEqProofs [-getElem?_pos,avf,du]
    simp (maxSteps:=9^7)-implicitDefEqProofs+contextual [-getElem?_pos,avf];apply cj
    iterate 9· first|rfl|omega|(simp-implicitDefEqProofs [-getElem?_pos,avf,w];first|done|rfl|omega)
    simp (maxSteps:=9^7)-implicitDefEqProofs+contextual [-getElem?_pos,avf,f53,H];refine .ny v (bX (h2:=KH level sees p fuel l (j+1)) [0,1] (KL fuel level sees l (j+1)) ?_ ?_ ?_ ?_ ?_ ?_) LW
    ·simp [KH,KL,au,u,qU,w,z,o,n,y,f51,f52]
    iterate 2· simp
    ·intro b L;omega
    iterate 2· simp (maxDischargeDepth:=8)-implicitDefEqProofs [aj,avf,KH,KL,au,u,qU,w,z,o,n,y,f51,f52]
   ·obtain rfl:j=l.length:=by omega
    have G:=G5 (l:=yJ level sees p fuel l) (by rw [iZ];omega);rw [iZ]at G;simp (maxSteps:=9^7)-implicitDefEqProofs+contextual [-getElem?_pos,avf,f52,f53,f12,KH];refine rL [1] (G) ?_ ?_
    ·simp (maxDischargeDepth:=8)-implicitDefEqProofs [-getElem?_pos,avf,Sy]
    simp (maxSteps:=9^7)-implicitDefEqProofs+contextual [-getElem?_pos,avf,vA];refine bW ?_;simp
open Go Go.RowKit
theorem vU {p:aU} {fuel level sees:Int} (i:gZ p):Fz E O 8 [.agg (au p),pi fuel,pi level,pi sees] (pb true):=by
 refine Fz.body (F:=a8) rfl rfl rfl rfl ?_;have z:=G6 (fuel:=fuel) (level:=level) (sees:=sees) i;have o:=V3 (fuel:=fuel) i;have d:=Qu;simp (maxSteps:=9^7)-implicitDefEqProofs+contextual [-getElem?_pos,avf,a8,au];refine aF (P5 (l:=p.body) (m:=600) i.2.2.1 i.2.2.2 (by omega)) ?_ ?_ ?_
 iterate 2· simp (maxDischargeDepth:=8)-implicitDefEqProofs [-getElem?_pos,avf]
 by_cases t:av p.body≤600
 case neg=>
  simp (maxSteps:=9^7)-implicitDefEqProofs [-getElem?_pos,avf,t];refine aF (d) ?_ ?_ ?_
  iterate 2· simp (maxDischargeDepth:=8)-implicitDefEqProofs [-getElem?_pos,avf]
  simp (maxSteps:=9^7)-implicitDefEqProofs [-getElem?_pos,avf]
 simp (maxSteps:=9^7)-implicitDefEqProofs [-getElem?_pos,avf,t,au];refine aF (z) ?_ ?_ ?_
 iterate 2· simp (maxDischargeDepth:=8)-implicitDefEqProofs [-getElem?_pos,avf,au]
 by_cases a:cC p fuel=0
 case neg=>
  have e:sU p fuel level sees=[da,pi (cC p fuel)]:=by simp [sU,a]
  rw [e];simp (maxSteps:=9^7)-implicitDefEqProofs [-getElem?_pos,avf,au];refine aF (o) ?_ ?_ ?_
  iterate 2· simp (maxDischargeDepth:=8)-implicitDefEqProofs [-getElem?_pos,avf,au]
  simp (maxSteps:=9^7)-implicitDefEqProofs [-getElem?_pos,avf,a];refine aF (d) ?_ ?_ ?_
  iterate 2· simp (maxDischargeDepth:=8)-implicitDefEqProofs [-getElem?_pos,avf]
  simp (maxSteps:=9^7)-implicitDefEqProofs [-getElem?_pos,avf]
 by_cases b:okV level sees
 case neg=>
  have e:sU p fuel level sees=[da,pi 1]:=by simp [sU,a,b]
  rw [e];simp (maxSteps:=9^7)-implicitDefEqProofs [-getElem?_pos,avf,au];refine aF (o) ?_ ?_ ?_
  iterate 2· simp (maxDischargeDepth:=8)-implicitDefEqProofs [-getElem?_pos,avf,au]
  rw [a];by_cases f:level<0
  ·simp (maxSteps:=9^7)-implicitDefEqProofs [-getElem?_pos,avf,f]
   refine aF (d) ?_ ?_ ?_
   iterate 2· simp (maxDischargeDepth:=8)-implicitDefEqProofs [-getElem?_pos,avf]
   simp (maxSteps:=9^7)-implicitDefEqProofs [-getElem?_pos,avf]
  by_cases h:15<level
  ·simp (maxSteps:=9^7)-implicitDefEqProofs [-getElem?_pos,avf,f,h]
   refine aF (d) ?_ ?_ ?_
   iterate 2· simp (maxDischargeDepth:=8)-implicitDefEqProofs [-getElem?_pos,avf]
   simp (maxSteps:=9^7)-implicitDefEqProofs [-getElem?_pos,avf]
  by_cases k:sees<0
  ·simp (maxSteps:=9^7)-implicitDefEqProofs [-getElem?_pos,avf,f,h,k]
   refine aF (d) ?_ ?_ ?_
   iterate 2· simp (maxDischargeDepth:=8)-implicitDefEqProofs [-getElem?_pos,avf]
   simp (maxSteps:=9^7)-implicitDefEqProofs [-getElem?_pos,avf]
  have j:15<sees:=by
   apply Decidable.byContradiction;intro j;exact b ⟨⟨by omega,by omega⟩,by omega,by omega⟩
  simp (maxSteps:=9^7)-implicitDefEqProofs [-getElem?_pos,avf,f,h,k,j];refine aF (d) ?_ ?_ ?_
  iterate 2· simp (maxDischargeDepth:=8)-implicitDefEqProofs [-getElem?_pos,avf]
  simp (maxSteps:=9^7)-implicitDefEqProofs [-getElem?_pos,avf]
 have f:¬ level<0:=by have:=b.1.1;omega
 have h:¬ 15<level:=by have:=b.1.2;omega
 have k:¬ sees<0:=by have:=b.2.1;omega
 have j:¬ 15<sees:=by have:=b.2.2;omega
 have s:=AS a;have n:=Ln (fuel:=fuel) i s a (by omega)
 cases g:eV p fuel with
 |none=>
  have e:sU p fuel level sees=[da,pi 5]:=by simp [sU,a,b,g]
  rw [e];rw [g]at n;simp (maxSteps:=9^7)-implicitDefEqProofs [-getElem?_pos,avf,au];refine aF (o) ?_ ?_ ?_
  iterate 2· simp (maxDischargeDepth:=8)-implicitDefEqProofs [-getElem?_pos,avf,au]
  rw [a];simp (maxSteps:=9^7)-implicitDefEqProofs [-getElem?_pos,avf,f,h,k,j,au];refine aF (n) ?_ ?_ ?_
  iterate 2· simp (maxDischargeDepth:=8)-implicitDefEqProofs [-getElem?_pos,avf,au]
  simp (maxSteps:=9^7)-implicitDefEqProofs [-getElem?_pos,avf,yz];refine aF (d) ?_ ?_ ?_
  iterate 2· simp (maxDischargeDepth:=8)-implicitDefEqProofs [-getElem?_pos,avf]
  simp (maxSteps:=9^7)-implicitDefEqProofs [-getElem?_pos,avf]
 |some l=>
  have e:sU p fuel level sees=[.fs 1 (AW (vA level sees p fuel l)),pi 0]:=by simp [sU,a,b,g]
  rw [e];rw [g]at n;have q:=qS s g;have A:=q.2;have x:=Ww (fuel:=fuel) (l:=l) i (by omega) q.2 (rU a g);have w:=LV (level:=level) (sees:=sees) (p:=p) (fuel:=fuel) (l:=l) b.1 b.2 q.2 (rU a g);have r:=C5 (l:=yJ level sees p fuel l) (by rw [iZ];omega);rw [iZ]at r;have u:=yI (cG (yJ level sees p fuel l)) l.length;have y:=QD (out:=vA level sees p fuel l) (by have:=u.num;unfold vA;omega) (fun c v=>by have:=u.len c v;omega);rw [show iY (cG (yJ level sees p fuel l)) l.length=vA level sees p fuel l from rfl]at r;simp (maxSteps:=9^7)-implicitDefEqProofs [-getElem?_pos,avf,au];refine aF (o) ?_ ?_ ?_
  iterate 2· simp (maxDischargeDepth:=8)-implicitDefEqProofs [-getElem?_pos,avf,au]
  rw [a];simp (maxSteps:=9^7)-implicitDefEqProofs [-getElem?_pos,avf,f,h,k,j,au];refine aF (n) ?_ ?_ ?_
  iterate 2· simp (maxDischargeDepth:=8)-implicitDefEqProofs [-getElem?_pos,avf,au]
  simp (maxSteps:=9^7)-implicitDefEqProofs [-getElem?_pos,avf,yz,au];refine aF (x) ?_ ?_ ?_
  iterate 2· simp (maxDischargeDepth:=8)-implicitDefEqProofs [-getElem?_pos,avf,au]
  simp (maxSteps:=9^7)-implicitDefEqProofs [-getElem?_pos,avf];refine aF (w) ?_ ?_ ?_
  iterate 2· simp (maxDischargeDepth:=8)-implicitDefEqProofs [-getElem?_pos,avf]
  simp (maxSteps:=9^7)-implicitDefEqProofs [-getElem?_pos,avf];refine aF (r) ?_ ?_ ?_
  iterate 2· simp (maxDischargeDepth:=8)-implicitDefEqProofs [-getElem?_pos,avf]
  simp (maxSteps:=9^7)-implicitDefEqProofs [-getElem?_pos,avf];refine aF (y) ?_ ?_ ?_
  iterate 2· simp (maxDischargeDepth:=8)-implicitDefEqProofs [-getElem?_pos,avf]
  simp (maxSteps:=9^7)-implicitDefEqProofs [-getElem?_pos,avf];refine aF (d) ?_ ?_ ?_
  iterate 2· simp (maxDischargeDepth:=8)-implicitDefEqProofs [-getElem?_pos,avf]
  simp (maxSteps:=9^7)-implicitDefEqProofs [-getElem?_pos,avf]
end P
end Go.Proofs.YtppcmpmnglaleaaGreatDoor.A
