/- Texts that stand one behind the other: U3, U4, U5, U6, U7, U8, V1, V2, V3, V4, V5, V6, U9, V7, V8, V9, O1, O2, O3, O4, O5. -/
import Derived.Test.YtppcmpmnglaleaaGreatDoorG20
import Derived.KernelRfl
set_option linter.unusedVariables false
set_option linter.unusedSimpArgs false
set_option maxRecDepth 10000
namespace Go.Proofs.YtppcmpmnglaleaaGreatDoor.A
namespace P
open Go Go.RowKit
def jA (l:List (List Int)):List PV:=l.map fun q=>lG q
@[simp]theorem Si (l:List (List Int)):(jA l).length=l.length:=by simp [jA]
theorem eh (a b:List (List Int)):jA (a++b)=jA a++jA b:=by simp [jA]
@[simp]theorem MB:∀l:List (List Int),dE (jA l)=true
 |[]=>rfl
 |a::l=>by
  show dE (lG a::jA l)=true;rw [qm];exact ⟨rfl,MB l⟩
@[simp]theorem abm:jA []=[]:=rfl
@[simp]theorem Yk (a:List Int) (l:List (List Int)):jA (a::l)=lG a::jA l:=rfl
@[simp]theorem Yl (l:List (List Int)):(jA l).tail=jA l.tail:=by cases l<;>rfl
theorem Cv (l:List (List Int)) (i:Nat):(jA l)[i]?=(l[i]?).map fun q=>lG q:=by simp [jA]
theorem IF {b:Nat} {h:PH} {x v:PV} {xs ys:List PV} (d:h[b]?=some (.cells 1 (xs++ys))) (c:qh x=some 1) (a:gJ h 1 1 x=some [v]) (f:gI h x=true) (g:xs.length<2^40):
 ud 1 24 h (.sl 1 b 0 xs.length (xs.length+ys.length)) x=some (.sl 1 b 0 (xs.length+1) ((xs++[v]).length+(ys.drop 1).length),h.set b (.cells 1 ((xs++[v])++ys.drop 1))):=by
 unfold ud;rw [c];simp only [Nat.one_ne_zero,if_false,a,d];rw [if_pos ⟨trivial,trivial,Nat.one_pos,by simp,by omega,by omega,by omega⟩]
 cases ys with
 |nil=>
  cases xs with
  |nil=>simp
  |cons u us=>simp
 |cons y ys=>
  rw [if_neg (by simp),if_pos (by simp)]
  have e:uc (xs++y::ys) ((0+xs.length)*1) [v]=xs++[v]++ys:=by
   rw [pF (by simp),Nat.zero_add,Nat.mul_one];simp
  rw [e];simp;omega
@[simp]theorem Ef:∀l:List Int,kV (l.map pi)=true
 |[]=>rfl
 |a::l=>by simp [Ef l]
theorem wE {A:Nat→Prop} {d:Nat→Nat} {h e:PH}:∀{a b c:List PV},dE a=true→(lA A d h e (a++b) (a++c)↔lA A d h e b c)
 |[],_,_,_=>Iff.rfl
 |p::a,b,c,k=>by
  rw [qm]at k;simp only [List.cons_append,Il,wE k.2];exact ⟨fun q=>q.2,fun q=>⟨tq k.1,q⟩⟩
attribute [simp] wE
theorem nZ {a:PF} {h h2:PH} (Z L:List Nat) (l:List (Nat×PV)) (e:L.length=h2.length) (c:L.Nodup) (d:∀b∈L,b∉Z) (K:kz (· ∈Z) (fun i=>L.getD i 0) h h2 0 h2) (V:pB (· ∈Z) (fun i=>L.getD i 0) h h2 a l):Gh 0 a h (PF.uI l) h2:=
 Iv _ _ l (kU.at L e c d K) V
def isI (o:Option PB) (l:List Int):Prop:=match o with
 |some (.cells z cs)=>z=1∧cs=l.map pi
 |_=>False
@[simp]theorem akh (z:Nat) (cs:List PV) (l:List Int):isI (some (.cells z cs)) l↔z=1∧cs=l.map pi:=Iff.rfl
@[simp]theorem MC {A:Nat→Prop} {c:Nat→Nat} {h g:PH} {b n:Nat} {l:List Int} (d:l.length=n) (f:A b) (a:isI h[b]? l):Vg A c h g (.sl 1 b 0 n n) (lG l)↔True:=⟨fun _=>trivial,fun _=>by
 subst d;unfold isI at a;split at a
 ·rename_i z cs e
  obtain ⟨rfl,rfl⟩:=a;exact wk (RZ f e)
 ·exact a.elim⟩
theorem Sj {A:Nat→Prop} {h:PH} {b:Nat} {l:List gA} (c:A b) (a:h[b]?=some (.cells 2 (yK l))):Vz A h (.sl 2 b 0 l.length l.length) (.fs 2 (str l)):=
 pC c a (by omega) (AE l) (MA l) (mU (wD l))
@[simp]theorem ahg {A:Nat→Prop} {a:Nat→Nat} {h f:PH} {b n:Nat} {l:List gA} (c:l.length=n) (e:A b) (d:h[b]?=some (.cells 2 (yK l))):Vg A a h f (.sl 2 b 0 n n) (.fs 2 (str l))↔True:=⟨fun _=>trivial,fun _=>c▸wk (Sj e d)⟩
def qq (s:List Int) (l:List (List Int)):List gA:=l.map fun ps=>⟨s,ps⟩
@[simp]theorem abn (s:List Int):qq s []=[]:=rfl
@[simp]theorem ahh:ir []=[]:=rfl
@[simp]theorem abo {A:Nat→Prop} {a:Nat→Nat} {h b:PH}:Vg A a h b (.v (.slice none 0 0)) (lG [])↔True:=⟨fun _=>trivial,fun _=>(RO 1).2 trivial⟩
@[simp]theorem Sk (s:List Int) (l:List (List Int)):(qq s l).length=l.length:=by simp [qq]
theorem tD (s:List Int) (a b:List (List Int)):qq s (a++b)=qq s a++qq s b:=by simp [qq]
def AI (s:List Int):Option (List (List Int))→List PV
 |some l=>[.fs 2 (str (qq s l)),pi 0]
 |none=>[iy,pi 5]
theorem Cw {E:Env} {O:jD} {n:Nat} {Q:Ex→PF→PH→Prop} {a:List Kp} {fr:PF} {m:Mp} {l:List AO} {d:Option Nat} {V:List Nat} {b j c:Nat} {h:PH} {x v:PV} {xs ys:List PV} (p:h[b]?=some (.cells 1 (xs++ys))) (i:j=xs.length) (k:c=xs.length+ys.length) (g:qh x=some 1) (e:gJ h 1 1 x=some [v]) (f:gI h x=true) (o:xs.length<2^40)
 (next:PK E O n Q (.ops (m.up V (fr.aO d (.sl 1 b 0 (xs.length+1) ((xs++[v]).length+(ys.drop 1).length))) (h.set b (.cells 1 ((xs++[v])++ys.drop 1)))) l a) (fr.aO d (.sl 1 b 0 (xs.length+1) ((xs++[v]).length+(ys.drop 1).length))) (h.set b (.cells 1 ((xs++[v])++ys.drop 1)))):PO E O n Q (ud 1 24 h (.sl 1 b 0 j c) x) V d m l a fr:=by
 subst i k;rw [IF p g e f o];exact (XI _ _ _).2 next
def OH (p:bC) (s:List Int) (out lH junk:List (List Int)):PH:=[.cells 3 (aI p),.cells 2 (yK (qq s out)),.cells 1 (jA lH++jA junk)]
def OL (p:bC) (s:List Int) (fuel:Int) (most:Nat) (out lH junk:List (List Int)):List (Nat×PV):=[(1,pi fuel),(2,lG s),(3,pi most),(4,.ref 0 0 3),(10,.sl 2 1 0 out.length out.length),(11,.sl 1 2 0 lH.length (lH.length+junk.length))]
def OI (p:bC) (s:List Int) (fuel:Int) (most:Nat) (k:Nat) (fr:PF) (h:PH):Prop:=∃out lH junk,k=jY lH∧tB lH∧out.length≤most∧jK p fuel s=(rest p fuel s lH).map (fun x=>out++x)∧h=OH p s out lH junk∧∀t∈OL p s fuel most out lH junk,fr.get t.1=t.2
theorem q6 {k n c:Nat} (h:n≤c):bz k c none (some (.int .i64 (n:Int))) none=some (0,n,c):=by
 simp [bz,ij,h]
def WI (p:bC) (s:List Int) (fuel:Int) (most:Nat) (out st:List (List Int)) (q:List Int) (junk:List (List Int)) (j:Nat) (fr:PF) (h:PH):Prop:=
 h=OH p s out (st++(kids p q).reverse.take j) ((q::junk).drop j)∧∀t∈(12,lG q)::(15,pi ((aY p:Int)- 1- j))::OL p s fuel most out (st++(kids p q).reverse.take j) ((q::junk).drop j),fr.get t.1=t.2
theorem AJ {p:bC} {s:List Int} {fuel:Int} {most:Nat} {out st:List (List Int)} {q:List Int} {junk:List (List Int)} {j:Nat}:
 WI p s fuel most out st q junk j (PF.uI ((12,lG q)::(15,pi ((aY p:Int)- 1- j))::OL p s fuel most out (st++(kids p q).reverse.take j) ((q::junk).drop j))) (OH p s out (st++(kids p q).reverse.take j) ((q::junk).drop j)):=by
 refine ⟨rfl,fun t a=>?_⟩;simp only [OL,aqY,arh,or_false]at a;rcases a with rfl|rfl|rfl|rfl|rfl|rfl|rfl|rfl<;>simp [OL]
theorem wF {p:bC} {s:List Int} {fuel:Int} {most:Nat} {out a junk:List (List Int)} (t:Nat×PV) (b:t∈OL p s fuel most out a junk):(PF.uI (OL p s fuel most out a junk)).get t.1=t.2:=by
 simp only [OL,aqY,arh,or_false]at b;rcases b with rfl|rfl|rfl|rfl|rfl|rfl<;>simp [OL]
theorem Ym {p:bC} {s:List Int} {fuel:Int} {most:Nat} (iF:jz p) (L:bw p=true) (hs:s.length≤2^40) (AK:∀n∈s,jR n) (hm:most≤16384):
 Fz E O 39 [.agg (aI p),pi fuel,lG s,pi most] (.fF (AI s (ofM p fuel s most))):=by
 refine mf.body (F:=Td) rfl rfl rfl ?_;have G:=qZ L;simp (maxSteps:=9^7)-implicitDefEqProofs+contextual [-getElem?_pos,aqF,Td,aI];refine tm (OI p s fuel most) (jY [[]]) (dt (h2:=OH p s [] [[]] []) [0,9,1] (OL p s fuel most [] [[]] []) ?_ ?_ ?_ ?_ ?_ ?_) ⟨[],[[]],[],rfl,?_,aq8 _,?_,rfl,?_⟩ ?_
 ·simp [OH,OL,aI,jA]
 iterate 2· simp
 ·intro b hb;omega
 iterate 2· simp (maxDischargeDepth:=8)-implicitDefEqProofs [aF,aqF,OH,OL,aI,jA]
 ·intro i q h
  cases i with
  |zero=>simp at h;subst h;simp
  |succ i=>simp at h
 ·cases h:under p fuel s []<;>simp [rest,jX,jK,h]
 ·exact wF
 rintro k fr h ⟨out,lH,junk,rfl,u,M,o,rfl,t⟩;simp only [OL,aqY,arh,or_false,forall_eq_or_imp,forall_eq]at t;obtain ⟨g,d,c,f,f10,f11⟩:=t;have r:=uL u;rcases List.eq_nil_or_concat lH with rfl|⟨st,q,rfl⟩
 ·
  have e:ofM p fuel s most=some out:=by
   unfold ofM;rw [o];simp [rest,jX,M]
  rw [e];simp (maxSteps:=9^7)-implicitDefEqProofs+contextual [-getElem?_pos,aqF,g,d,c,f,f10,f11,OH];refine ⟨_,_,dD ?_,rfl,rfl,by simp [AI]⟩;simp (maxDischargeDepth:=8)-implicitDefEqProofs [AI]
 rw [List.concat_eq_append]at*;have I:=u st.length q (by simp);have Yn:=I.2.1;simp only [aqP,List.length_singleton]at r;have Z:IntKind.i64.wrap (st.length:Int)=st.length:=ai ⟨by omega,by omega⟩
 obtain ⟨T,R⟩:∃T:gA,T=⟨s,q⟩:=⟨_,rfl⟩
 have wu:wu T:=by subst R;exact ⟨by show s.length<_;omega,by show q.length<_;omega,AK,fun n hn=>by have:=I.2.2 n hn;exact ⟨by omega,by omega⟩⟩
 have hg:(jA (st++[q])++jA junk)[st.length]?=some (lG q):=by rw [aqT (by simp),Cv];simp
 have ab:bz (st.length+1) (st.length+1+junk.length) none (some (.int .i64 (st.length:Int))) none=some (0,st.length,st.length+1+junk.length):=q6 (by omega);have c1:0<st.length+1+junk.length∧(st.length:Int)<st.length+1:=by omega
 have c2:st.length≤st.length+1+junk.length:=by omega
 have y:st.length+(junk.length+1)=st.length+1+junk.length:=by omega
 simp (maxSteps:=9^7)-implicitDefEqProofs+contextual [-getElem?_pos,aqF,g,d,c,f,f10,f11,OH,Z,hg,ab,c1,c2];subst R;refine bP (AB (fuel:=fuel) iF wu) ?_ ?_ ?_
 iterate 2· simp (maxDischargeDepth:=8)-implicitDefEqProofs [-getElem?_pos,aqF,iA]
 have x:AD p fuel s q=(lz p fuel ⟨s,q⟩).en:=rfl;by_cases m:(lz p fuel ⟨s,q⟩).en=4
 ·by_cases hl:q.length=16
  ·have e:ofM p fuel s most=none:=by
    unfold ofM;rw [o,fB,tz (by rw [x];exact m) (by omega)];rfl
   rw [e];simp (maxSteps:=9^7)-implicitDefEqProofs+contextual [-getElem?_pos,aqF,kY,m,hl];refine ⟨_,_,dD ?_,rfl,rfl,by simp [AI]⟩;simp (maxDischargeDepth:=8)-implicitDefEqProofs [AI]
  ·have Bv:¬ (q.length:Int)=16:=by omega
   have S:=qp L;have nv:=jH G;have A:(2:Int)^p.w.toNat=(aY p:Int):=by simp [aY]
   have X:IntKind.i64.wrap ((aY p:Int)- 1)=(aY p:Int)- 1:=ai ⟨by omega,by omega⟩;have H:=uy G;rw [A]at H;have g0:(aI p)[0]?=some (pi p.w):=rfl;simp (maxSteps:=9^7)-implicitDefEqProofs+contextual [-getElem?_pos,aqF,kY,m,Bv,f,H,X,g0];refine fT (WI p s fuel most out st q junk) (aY p) (nZ (h2:=OH p s out (st++(kids p q).reverse.take 0) ((q::junk).drop 0)) [] [0,1,2] ((12,lG q)::(15,pi ((aY p:Int)- 1- (0:Nat)))::OL p s fuel most out (st++(kids p q).reverse.take 0) ((q::junk).drop 0)) ?_ ?_ ?_ ?_ ?_) AJ ?_
   ·simp [OH,OL,eh,g,d,c,f,f10,y]
   iterate 2· simp
   iterate 2· simp (maxDischargeDepth:=8)-implicitDefEqProofs [aF,aqF,OH,OL,eh,g,d,c,f,f10,y]
   clear g d c f f10 f11;rintro j fr h hj ⟨rfl,t⟩;simp only [OL,aqY,arh,or_false,forall_eq_or_imp,forall_eq]at t;obtain ⟨f12,f15,g,d,c,f,f10,f11⟩:=t
   obtain ⟨a,ha⟩:∃a:Int,(aY p:Int)- 1- j=a:=⟨_,rfl⟩
   rw [ha]at f15
   have zi:(st++(kids p q).reverse.take j).length≤5000:=by
    have:(kids p q).length=aY p:=by simp [kids]
    simp;omega
   by_cases Q:j<aY p
   ·have FD:0≤a:=by omega
    have V:IntKind.i64.wrap (a- 1)=a- 1:=ai ⟨by omega,by omega⟩;have P:=uM (q:=q) Q;have z:(((aY p- 1- j:Nat):Int))=a:=by omega
    rw [z]at P
    obtain ⟨K,C⟩:∃K,st++(kids p q).reverse.take j=K:=⟨_,rfl⟩
    obtain ⟨J,U⟩:∃J,(q::junk).drop j=J:=⟨_,rfl⟩
    have B:st++(kids p q).reverse.take (j+1)=K++[q++[a]]:=by rw [P,←aq5,C]
    have D:(q::junk).drop (j+1)=J.drop 1:=by rw [←U,List.drop_drop]
    rw [C]at zi;rw [C,U]at f11⊢;simp (maxSteps:=9^7)-implicitDefEqProofs+contextual [-getElem?_pos,aqF,f12,f15,f11,FD,OH];refine nY (mV (l:=q) (by omega)) ?_ ?_ ?_
    iterate 2· simp (maxDischargeDepth:=8)-implicitDefEqProofs [-getElem?_pos,aqF]
    simp (maxSteps:=9^7)-implicitDefEqProofs+contextual [-getElem?_pos,aqF,f15];apply fi
    iterate 9· first|rfl|omega|(simp-implicitDefEqProofs [-getElem?_pos,aqF];first|done|rfl|omega)
    simp (maxSteps:=9^7)-implicitDefEqProofs+contextual [-getElem?_pos,aqF];refine Cw (xs:=jA K) (ys:=jA J) (v:=.sl 1 3 0 (q.length+1) (q.length+1)) ?_ ?_ ?_ ?_ ?_ ?_ ?_ ?_
    iterate 6· first|rfl|(simp;done)
    ·simp;omega
    simp (maxSteps:=9^7)-implicitDefEqProofs+contextual [-getElem?_pos,aqF,f15,V];have e1:(aY p:Int)- 1- ((j+1:Nat):Int)=a- 1:=by omega
    have W:=AJ (p:=p) (s:=s) (fuel:=fuel) (most:=most) (out:=out) (st:=st) (q:=q) (junk:=junk) (j:=j+1);rw [B,D,e1]at W;refine .rj Q (nZ (h2:=OH p s out (K++[q++[a]]) (J.drop 1)) [3] [0,1,2] ((12,lG q)::(15,pi (a- 1))::OL p s fuel most out (K++[q++[a]]) (J.drop 1)) ?_ ?_ ?_ ?_ ?_) W
    ·simp [OH,OL,eh,g,d,c,f,f10,f12]
    iterate 2· simp
    iterate 2· simp (maxDischargeDepth:=8)-implicitDefEqProofs [aF,aqF,OH,OL,eh,g,d,c,f,f10,f12]
   ·obtain rfl:j=aY p:=by omega
    have cN:¬ 0≤a:=by omega
    have ahk:(kids p q).length=aY p:=by simp [kids]
    rw [pH]at f11;simp (maxSteps:=9^7)-implicitDefEqProofs+contextual [-getElem?_pos,aqF,f15,cN,OH];refine .ofG ?_ (nZ (h2:=OH p s out (st++(kids p q).reverse) ((q::junk).drop (aY p))) [] [0,1,2] (OL p s fuel most out (st++(kids p q).reverse) ((q::junk).drop (aY p))) ?_ ?_ ?_ ?_ ?_) ⟨out,st++(kids p q).reverse,(q::junk).drop (aY p),rfl,tC S u (by omega),M,?_,rfl,wF⟩
    ·rw [fC,fC]
     have:=uN (q:=q) S (by omega);simp only [jY,List.map_cons,List.map_nil,List.sum_cons,List.sum_nil,Nat.add_zero]at*;omega
    ·simp [OH,OL,pH,g,d,c,f,f10,f11]
    iterate 2· simp
    iterate 2· simp (maxDischargeDepth:=8)-implicitDefEqProofs [aF,aqF,OH,OL,pH,g,d,c,f,f10,f11]
    ·rw [o,fB,uK,tA (by rw [x];exact m) (by omega)]
 ·by_cases N:out.length=most
  ·have e:ofM p fuel s most=none:=by
    unfold ofM;rw [o,fB,mW (by rw [x];exact m)];cases rest p fuel s st<;>simp [N]
   rw [e];simp (maxSteps:=9^7)-implicitDefEqProofs+contextual [-getElem?_pos,aqF,kY,m,N,c,f10];refine ⟨_,_,dD ?_,rfl,rfl,by simp [AI]⟩;simp (maxDischargeDepth:=8)-implicitDefEqProofs [AI]
  ·have Y:¬ (out.length:Int)=(most:Int):=by omega
   simp (maxSteps:=9^7)-implicitDefEqProofs+contextual [-getElem?_pos,aqF,kY,m,d,c,f10,Y];refine nY (mV (l:=s) hs) ?_ ?_ ?_
   iterate 2· simp (maxDischargeDepth:=8)-implicitDefEqProofs [-getElem?_pos,aqF]
   simp (maxSteps:=9^7)-implicitDefEqProofs+contextual [-getElem?_pos,aqF,d];refine nY (mV (l:=q) (by omega)) ?_ ?_ ?_
   iterate 2· simp (maxDischargeDepth:=8)-implicitDefEqProofs [-getElem?_pos,aqF]
   simp (maxSteps:=9^7)-implicitDefEqProofs+contextual [-getElem?_pos,aqF,f10];apply fi
   iterate 9· first|rfl|omega|(simp-implicitDefEqProofs [-getElem?_pos,aqF];first|done|rfl|omega)
   simp (maxSteps:=9^7)-implicitDefEqProofs+contextual [-getElem?_pos,aqF];refine .ofG ?_ (nZ (h2:=OH p s (out++[q]) st (q::junk)) [4,5] [0,1,2] (OL p s fuel most (out++[q]) st (q::junk)) ?_ ?_ ?_ ?_ ?_) ⟨out++[q],st,q::junk,rfl,qo u,?_,?_,rfl,?_⟩
   ·rw [fC]
    have:0<jY [q]:=by simp [jY];exact Nat.pow_pos (by omega)
    omega
   ·simp [OH,OL,tD,kZ,eh,iA,qq,g,d,c,f,y]
   iterate 2· simp
   iterate 2· simp (maxDischargeDepth:=8)-implicitDefEqProofs [aF,aqF,OH,OL,tD,kZ,eh,iA,qq,g,d,c,f,y]
   ·simp;omega
   ·rw [o,fB,mW (by rw [x];exact m)]
    cases rest p fuel s st<;>simp
   ·exact wF
open Go Go.RowKit
theorem Cy {p:bC} {s:List Int}:jg p ⟨s,[]⟩=bB p.w p.vars s:=by simp [jg]
theorem Cz {s:List Int} (hs:s.length<2^60) (b:∀n∈s,jR n):wu ⟨s,[]⟩:=⟨hs,by show(0:Nat)<_;omega,b,fun n a=>by cases a⟩
theorem mn {p:bC} {s:List Int} (h:bw p=true) (hs:bB p.w p.vars s=true):s.length≤48:=by
 simp only [bw,aA,aqJ,aqS]at h;simp only [bB,aqJ,aqS]at hs;have a:=h.1.2.2.2.2;have h2:=hs.1;omega
def Eg (p:bC) (fuel:Int) (s:List Int):List PV:=
 if cM p fuel≠0 then [iy,pi (cM p fuel)]else if bB p.w p.vars s=false then [iy,pi 1]else AI s (ofM p fuel s 16384)
theorem MD (p:bC) (fuel:Int) (s:List Int):dE (Eg p fuel s)=true:=by
 unfold Eg;split
 ·simp
 ·split
  ·simp
  ·cases ofM p fuel s 16384<;>simp [AI]
theorem ahl {p:bC} {fuel:Int} {s:List Int} (b:jz p) (hs:s.length<2^60) (d:∀n∈s,jR n):Fz E O 12 [.agg (aI p),pi fuel,lG s] (.fF (Eg p fuel s)):=by
 refine Fz.body (F:=a12) rfl rfl rfl (by simp [MD]) ?_;have f:wu ⟨s,[]⟩:=Cz hs d;simp (maxSteps:=9^7)-implicitDefEqProofs+contextual [-getElem?_pos,aqF,a12];refine bP (pG b) ?_ ?_ ?_
 iterate 2· simp (maxDischargeDepth:=8)-implicitDefEqProofs [-getElem?_pos,aqF]
 cases h:bw p with
 |false=>
  have e:Eg p fuel s=[iy,pi 30]:=by simp [Eg,cM,h]
  rw [e];simp (maxSteps:=9^7)-implicitDefEqProofs+contextual [-getElem?_pos,aqF,h]
 |true=>
  by_cases a:fuel<0
  ·have e:Eg p fuel s=[iy,pi 1]:=by simp [Eg,cM,h,a]
   rw [e];simp (maxSteps:=9^7)-implicitDefEqProofs [-getElem?_pos,aqF,h,a]
  ·by_cases h2:4096<fuel
   ·have e:Eg p fuel s=[iy,pi 1]:=by simp [Eg,cM,h,a,h2]
    rw [e];simp (maxSteps:=9^7)-implicitDefEqProofs [-getElem?_pos,aqF,h,a,h2]
   ·have g:cM p fuel=0:=by simp [cM,h];omega
    have j:Eg p fuel s=if bB p.w p.vars s=false then [iy,pi 1]else AI s (ofM p fuel s 16384):=by simp [Eg,g]
    simp (maxSteps:=9^7)-implicitDefEqProofs [-getElem?_pos,aqF,h,a,h2];refine qn [] (yI b f) ?_ ?_
    ·simp (maxDischargeDepth:=8)-implicitDefEqProofs [iA]
    have i:gC p 0 ⟨s,[]⟩=if bB p.w p.vars s=false then 50 else 0:=by simp [gC,h,Cy]
    rw [i,j]
    cases c:bB p.w p.vars s with
    |false=>
     simp (maxSteps:=9^7)-implicitDefEqProofs [-getElem?_pos,aqF,c,cG]
    |true=>
     simp (maxSteps:=9^7)-implicitDefEqProofs [-getElem?_pos,aqF,c,cG];have k:=mn h c;refine bP (Ym (fuel:=fuel) (most:=16384) b h (s:=s) (by omega) d (aqK _)) ?_ ?_ ?_
     iterate 2· simp (maxDischargeDepth:=8)-implicitDefEqProofs [-getElem?_pos,aqF]
     cases m:ofM p fuel s 16384 with
     |none=>
      simp (maxSteps:=9^7)-implicitDefEqProofs [-getElem?_pos,aqF,AI]
     |some l=>
      simp (maxSteps:=9^7)-implicitDefEqProofs [-getElem?_pos,aqF,AI]
def GL (fuel:Int) (out:List (List Int)) (j:Nat):List (Nat×PV):=[(1,pi fuel),(3,.sl 2 0 0 out.length out.length),(4,.ref 1 0 3),(6,.ref 2 0 2),(10,pi j)]
end P
namespace P
open Go Go.RowKit
open Go Go.RowKit
def iB (p:bC):Int:=cT (p.vars.map (·.cells))
theorem yN:∀(l:List Int) (a:Int),(∀c∈l,1≤c∧c≤8)→0≤a→a+8*l.length≤10000→a+l.length≤l.foldl (fun a c=>IntKind.i64.wrap (a+c)) a∧l.foldl (fun a c=>IntKind.i64.wrap (a+c)) a≤a+8*l.length
 |[],a,_,_,_=>by simp
 |c::l,a,h,g,f=>by
  have d:=h c (by simp);simp only [List.length_cons]at*;have e:IntKind.i64.wrap (a+c)=a+c:=ai ⟨by omega,by omega⟩;have:=yN l (a+c) (fun x b=>h x (by simp [b])) (by omega) (by omega);simp only [List.foldl_cons,e];omega
theorem qt {p:bC} (h:bw p=true):1≤iB p∧iB p≤48:=by
 simp only [bw,aA,aqJ,aqS,aqW]at h;obtain ⟨⟨_,g,h2,f,d⟩,_⟩:=h
 have:=yN (p.vars.map (·.cells)) 0 (fun c a=>by
  simp only [ard]at a;obtain ⟨v,b,rfl⟩:=a;obtain ⟨i,hi,e⟩:=List.mem_iff_getElem.1 b;have:=f i (by simpa using hi);rw [aqG hi,e]at this
  exact qL this) (Int.le_refl _) (by simp;omega)
 simp only [List.length_map]at this;exact ⟨by unfold iB cT;omega,d⟩
theorem mX {p:bC} (h:jz p):p.vars.length<2^60:=h.2.1.1
theorem uO {V:List Vr} {i:Nat} {y:Vr} (a:V[i]?=some y):cT ((V.map (·.cells)).take (i+1))=IntKind.i64.wrap (cT ((V.map (·.cells)).take i)+y.cells):=by
 rw [aq1];simp [cT,a,List.foldl_append]
theorem wG {p:bC} (j:jz p) (k:p.vars.length<2^60):Fz E O 76 [.agg (aI p)] (pi (iB p)):=by
 refine Fz.body (F:=a76) rfl rfl rfl rfl ?_;simp (maxSteps:=9^7)-implicitDefEqProofs+contextual [-getElem?_pos,aqF,a76,aI];refine fT (fun i a h=>h=[]∧a.get 3=pi (cT ((p.vars.map (·.cells)).take i))∧a.get 7=gk p.vars∧a.get 8=pi p.vars.length∧a.get 9=pi i) p.vars.length (nZ (h2:=[]) [] [] [(3,pi 0),(7,gk p.vars),(8,pi p.vars.length),(9,pi 0)] ?_ ?_ ?_ ?_ ?_) ⟨rfl,by simp [cT],by simp,by simp,by simp⟩ ?_
 ·simp
 iterate 2· simp
 iterate 2· simp (maxDischargeDepth:=8)-implicitDefEqProofs [aF,aqF]
 rintro i a h hi ⟨rfl,e,c,b,g⟩;by_cases h:i<p.vars.length
 ·obtain ⟨y,d⟩:∃y,p.vars[i]?=some y:=⟨_,aqG h⟩
  have f:IntKind.i64.wrap ((i:Int)+1)=((i+1:Nat):Int):=ai ⟨by omega,by omega⟩;simp (maxSteps:=9^7)-implicitDefEqProofs+contextual [-getElem?_pos,aqF,e,c,b,g,h,d,ni];refine .rj h (nZ (h2:=[]) [] [] [(3,pi (cT ((p.vars.map (·.cells)).take (i+1)))),(7,gk p.vars),(8,pi p.vars.length),(9,pi (i+1:Nat))] ?_ ?_ ?_ ?_ ?_) ⟨rfl,by simp,by simp,by simp,by simp⟩
  ·simp [c,b,f,uO d]
  iterate 2· simp
  iterate 2· simp (maxDischargeDepth:=8)-implicitDefEqProofs [aF,aqF,c,b,f,uO d]
 ·obtain rfl:i=p.vars.length:=by omega
  rw [aqN (by simp)]at e;simp (maxSteps:=9^7)-implicitDefEqProofs+contextual [-getElem?_pos,aqF,e,c,b,g,iB]
theorem Yr {n:Int} (h:0≤n∧n≤60):cj .shl (.int .i64 1) (.int .u64 (IntKind.u64.wrap n))=some (.int .i64 (2^n.toNat)):=by
 obtain ⟨m,rfl⟩:=Int.eq_ofNat_of_zero_le h.1;have a:m≤60:=by omega
 have e:IntKind.u64.wrap (m:Int)=m:=by
  simp [IntKind.wrap,IntKind.bits,IntKind.signed];omega
 have b:(2:Int)^m≤2^60:=by
  have:=Nat.pow_le_pow_right (n:=2) (by omega) a
  exact_mod_cast this
 have c:(0:Int)<2^m:=Int.pow_pos (by omega);have w:IntKind.i64.wrap ((2:Int)^m)=2^m:=ai ⟨by omega,by omega⟩;rw [e];simp [cj,df,IntKind.bits,show min m 64=m by omega,w]
def hY (p:bC):Int:=p.w*iB p
theorem IH {p:bC} (h:bw p=true):1≤hY p∧hY p≤400:=by
 have a:=qZ h;have b:=qt h;unfold hY;have c:p.w*iB p≤8*48:=Int.mul_le_mul a.2 b.2 (by omega) (by omega);have h2:1*1≤p.w*iB p:=Int.mul_le_mul a.1 b.1 (by omega) (by omega);omega
def eJ (p:bC):Int:=2^(hY p).toNat
def oh (p:bC):List PV:=if bw p=false then [pi 0,pi 30]else if 60<hY p then [pi 0,pi 5]else [pi (eJ p),pi 0]
theorem II (p:bC):dE (oh p)=true:=by unfold oh;split<;>(try split)<;>simp
theorem CA {p:bC} (a:jz p):Fz E O 45 [.agg (aI p)] (.fF (oh p)):=by
 refine Fz.body (F:=Zi) rfl rfl rfl (by simp [II]) ?_;simp (maxSteps:=9^7)-implicitDefEqProofs+contextual [-getElem?_pos,aqF,Zi,aI];refine bP (pG a) ?_ ?_ ?_
 iterate 2· simp (maxDischargeDepth:=8)-implicitDefEqProofs [-getElem?_pos,aqF,aI]
 cases h:bw p with
 |false=>
  have e:oh p=[pi 0,pi 30]:=by simp [oh,h]
  rw [e];simp (maxSteps:=9^7)-implicitDefEqProofs+contextual [-getElem?_pos,aqF,h]
 |true=>
  have g:=IH h;have d:IntKind.i64.wrap (p.w*iB p)=hY p:=ai ⟨by unfold hY at g;omega,by unfold hY at g;omega⟩;simp (maxSteps:=9^7)-implicitDefEqProofs+contextual [-getElem?_pos,aqF,h,aI];refine bP (wG a (mX a)) ?_ ?_ ?_
  iterate 2· simp (maxDischargeDepth:=8)-implicitDefEqProofs [-getElem?_pos,aqF,aI]
  by_cases c:60<hY p
  ·have e:oh p=[pi 0,pi 5]:=by simp [oh,h,c]
   rw [e];simp (maxSteps:=9^7)-implicitDefEqProofs+contextual [-getElem?_pos,aqF,d,c]
  ·have e:oh p=[pi (eJ p),pi 0]:=by simp [oh,h,c]
   rw [e];simp (maxSteps:=9^7)-implicitDefEqProofs+contextual [-getElem?_pos,aqF,d,c,aI];refine bP (wG a (mX a)) ?_ ?_ ?_
   iterate 2· simp (maxDischargeDepth:=8)-implicitDefEqProofs [-getElem?_pos,aqF,aI]
   have f:cj .shl (.int .i64 1) (.int .u64 (IntKind.u64.wrap (hY p)))=some (.int .i64 (eJ p)):=Yr (n:=hY p) ⟨by omega,by omega⟩;generalize eJ p=S at f⊢;generalize hY p=b at f d⊢;generalize i:IntKind.u64.wrap b=v at f;clear c e g h;simp (maxSteps:=9^7)-implicitDefEqProofs [-getElem?_pos,aqF,d,i,f]
end P
namespace P
open Go Go.RowKit
def mq (B i:Int):Nat→List Int
 |0=>[]
 |n+1=>mq B i n++[i/B^n%B]
@[simp]theorem k8 (B i:Int):∀n,(mq B i n).length=n
 |0=>rfl
 |n+1=>by simp [mq,k8 B i n]
def e8 (p:bC) (i:Int):List Int:=mq (2^p.w.toNat) i (iB p).toNat
theorem qu {w i:Int} (a:1≤w∧w≤8):∀n,∀x∈mq (2^w.toNat) i n,isWord w x=true
 |0,x,h=>by cases h
 |n+1,x,h=>by
  have d:=jH a;rcases aq0.1 h with h|h
  ·exact qu a n x h
  ·simp only [List.mem_singleton]at h
   have c:0≤x:=by rw [h];exact Int.emod_nonneg _ (by omega)
   have b:x<2^w.toNat:=by rw [h];exact Int.emod_lt_of_pos _ (by omega)
   have:bA w=true:=by simp [bA];omega
   simp [isWord,this,c,b]
theorem uP {p:bC} (h:bw p=true) (i:Int):(e8 p i).length≤48:=by
 have a:=qt h;rw [e8,k8];omega
theorem yO {w x:Int} (h:isWord w x=true):jR x:=by
 simp only [isWord,bA,aqJ,aqS]at h;have:=jH (w:=w) (by omega);exact ⟨by omega,by omega⟩
theorem Ys {a b:Int} (f:0≤a∧a<2^62) (d:1≤b∧b≤8):cj .shr (.int .i64 a) (.int .u64 (IntKind.u64.wrap b))=some (.int .i64 (a/2^b.toNat)):=by
 obtain ⟨n,rfl⟩:∃n:Nat,b=n:=⟨b.toNat,by omega⟩
 have e:IntKind.u64.wrap (n:Int)=n:=by
  simp [IntKind.wrap,IntKind.bits,IntKind.signed];omega
 rw [e];have c:(0:Int)≤2^n:=Int.le_of_lt (Int.pow_pos (by omega));simp [cj,df,IntKind.bits,show min n 64=n by omega,Int.fdiv_eq_ediv_of_nonneg _ c]
theorem div_pow (i B:Int) (a:0<B) (n:Nat):i/B^n/B=i/B^(n+1):=by
 rw [Int.pow_succ,Int.ediv_ediv_of_nonneg (Int.le_of_lt (Int.pow_pos a))]
theorem ME {i B:Int} (hi:0≤i∧i<2^62) (a:0<B) (n:Nat):0≤i/B^n∧i/B^n<2^62:=by
 have b:0<B^n:=Int.pow_pos a;have c:i/B^n≤i:=Int.ediv_le_self _ hi.1;exact ⟨Int.ediv_nonneg hi.1 (by omega),by omega⟩
theorem IJ {p:bC} (h:hY p≤60):eJ p≤2^60:=by
 unfold eJ;have:=Nat.pow_le_pow_right (n:=2) (by omega) (show(hY p).toNat≤60 by omega)
 exact_mod_cast this
def SL (B i:Int) (c j:Nat):List (Nat×PV):=[(1,pi (i/B^j)),(2,.ref 0 0 3),(8,.sl 1 1 0 j j),(25,pi c),(26,pi j)]
def JD (p:bC) (i:Int) (j:Nat):PH:=[.cells 3 (aI p),.cells 1 ((mq (2^p.w.toNat) i j).map pi)]
def SI7 (p:bC) (B i:Int) (c j:Nat) (fr:PF) (h:PH):Prop:=h=JD p i j∧∀t∈SL B i c j,fr.get t.1=t.2
theorem CB {p:bC} {B i:Int} {c j:Nat}:SI7 p B i c j (PF.uI (SL B i c j)) (JD p i j):=⟨rfl,fun t a=>by
 simp only [SL,aqY,arh,or_false]at a
 rcases a with rfl|rfl|rfl|rfl|rfl<;>simp [SL]⟩
theorem IK {p:bC} {i:Int} (g:jz p) (h:bw p=true) (r:hY p≤60) (hi:0≤i∧i<eJ p):Fz E O 46 [.agg (aI p),pi i] (.fF [lG (e8 p i),pi 0]):=by
 refine mf.body (F:=a46) rfl rfl rfl ?_;have k:=qZ h;have N:=qt h;have K:=jH k;have L:=IJ r
 have m:0≤i∧i<2^62:=⟨hi.1,by omega⟩
 have q:=CA g;have e:oh p=[pi (eJ p),pi 0]:=by simp [oh,h];omega
 rw [e]at q
 obtain ⟨S,o⟩:∃S,eJ p=S:=⟨_,rfl⟩
 rw [o]at q hi;have n:¬ i<0:=by omega
 have I:¬ S≤i:=by omega
 obtain ⟨c,y⟩:∃c:Nat,iB p=c:=⟨(iB p).toNat,by omega⟩
 have z:=wG g (mX g);rw [y]at z;simp (maxSteps:=9^7)-implicitDefEqProofs+contextual [-getElem?_pos,aqF,a46,aI];refine bP (q) ?_ ?_ ?_
 iterate 2· simp (maxDischargeDepth:=8)-implicitDefEqProofs [-getElem?_pos,aqF,aI]
 simp (maxSteps:=9^7)-implicitDefEqProofs [-getElem?_pos,aqF,n,I,aI];refine bP (z) ?_ ?_ ?_
 iterate 2· simp (maxDischargeDepth:=8)-implicitDefEqProofs [-getElem?_pos,aqF,aI]
 simp (maxSteps:=9^7)-implicitDefEqProofs+contextual [-getElem?_pos,aqF];refine fT (SI7 p (2^p.w.toNat) i c) c (dt (h2:=JD p i 0) [0,9] (SL (2^p.w.toNat) i c 0) ?_ ?_ ?_ ?_ ?_ ?_) CB ?_
 ·simp [JD,SL,aI,mq]
 iterate 2· simp
 ·intro b J;omega
 iterate 2· simp (maxDischargeDepth:=8)-implicitDefEqProofs [aF,aqF,JD,SL,aI,mq]
 rintro j P h M ⟨rfl,v⟩;simp only [SL,aqY,arh,or_false,forall_eq_or_imp,forall_eq]at v;obtain ⟨f,d,A,f25,f26⟩:=v;have shl:=uy k;have shr:=Ys (ME m (show(0:Int)<2^p.w.toNat by omega) j) k;have and:=BJ (x:=i/(2^p.w.toNat)^j) (w:=p.w.toNat) (by omega);have C:=div_pow i (2^p.w.toNat) (by omega) j
 obtain ⟨B,a⟩:∃B:Int,2^p.w.toNat=B:=⟨_,rfl⟩
 rw [a]at shl shr and C K f⊢;rw [C]at shr
 obtain ⟨u,l⟩:∃u,i/B^j=u:=⟨_,rfl⟩
 rw [l]at shr and f;by_cases t:j<c
 ·have G:IntKind.i64.wrap ((j:Int)+1)=((j+1:Nat):Int):=ai ⟨by omega,by omega⟩
  have D:IntKind.i64.wrap (B- 1)=B- 1:=ai ⟨by omega,by omega⟩;simp (maxSteps:=9^7)-implicitDefEqProofs+contextual [-getElem?_pos,aqF,f,d,A,f25,f26,t,JD,aI,shl,D,and,a];apply fi
  iterate 9· first|rfl|omega|(simp-implicitDefEqProofs [-getElem?_pos,aqF];first|done|rfl|omega)
  simp (maxSteps:=9^7)-implicitDefEqProofs+contextual [-getElem?_pos,aqF,f,d,f25,f26,shr,G];refine .rj t (dt (h2:=JD p i (j+1)) [0,1] (SL B i c (j+1)) ?_ ?_ ?_ ?_ ?_ ?_) CB
  ·simp [JD,SL,aI,mq,l,a,d,f25]
  iterate 2· simp
  ·intro b J;omega
  iterate 2· simp (maxDischargeDepth:=8)-implicitDefEqProofs [aF,aqF,JD,SL,aI,mq,l,a,d,f25]
 ·obtain rfl:j=c:=by omega
  have s:mq B i j=e8 p i:=by rw [e8,a,y];rfl
  simp (maxSteps:=9^7)-implicitDefEqProofs+contextual [-getElem?_pos,aqF,f,d,A,f25,f26,JD,a,s];have H:(e8 p i).length=j:=by rw [←s,k8]
  refine dD ?_;simp (maxDischargeDepth:=8)-implicitDefEqProofs [H]
open Go Go.RowKit
def fy (p:bC) (fuel:Int):Nat→Option (List gA)
 |0=>some []
 |n+1=>(fy p fuel n).bind fun l=>(ofM p fuel (e8 p n) (16384- l.length)).map fun m=>l++qq (e8 p n) m
def jZ (p:bC) (fuel:Int):Option (List gA):=if hY p≤60∧eJ p≤4096 then fy p fuel (eJ p).toNat else none
theorem CC {p:bC} {fuel:Int} {s:List Int} {most:Nat} {m:List (List Int)} (h:ofM p fuel s most=some m):m.length≤most:=by
 unfold ofM at h
 cases a:jK p fuel s with
 |none=>simp [a]at h
 |some l=>simp [a]at h;rw [←h.2];exact h.1
theorem wH {p:bC} {fuel:Int}:∀{n:Nat} {l:List gA},fy p fuel n=some l→l.length≤16384
 |0,l,h=>by simp [fy]at h;subst h;simp
 |n+1,l,h=>by
  simp only [fy]at h
  cases a:fy p fuel n with
  |none=>simp [a]at h
  |some b=>
   have c:=wH a;simp only [a,Option.bind_some]at h
   cases h2:ofM p fuel (e8 p n) (16384- b.length)with
   |none=>simp [h2]at h
   |some m=>
    have:=CC h2;simp [h2]at h;subst h;simp;omega
theorem yP {p:bC} {fuel:Int} {n:Nat} (h:fy p fuel n=none):∀k,fy p fuel (n+k)=none
 |0=>h
 |k+1=>by rw [←Nat.add_assoc,fy,yP h k];rfl
def yQ (p:bC) (fuel:Int):List PV:=
 if cM p fuel≠0 then [iy,pi (cM p fuel)]else match jZ p fuel with
  |some l=>[.fs 2 (str l),pi 0]
  |none=>[iy,pi 5]
def EH (p:bC) (out:List gA):PH:=[.cells 3 (aI p),.cells 2 (yK out)]
def IL (fuel:Int) (out:List gA) (n j:Nat):List (Nat×PV):=[(1,pi fuel),(2,.ref 0 0 3),(8,.sl 2 1 0 out.length out.length),(34,pi n),(35,pi j)]
def EI8 (p:bC) (fuel:Int) (n j:Nat) (fr:PF) (h:PH):Prop:=∃out,fy p fuel j=some out∧h=EH p out∧∀t∈IL fuel out n j,fr.get t.1=t.2
theorem CD {p:bC} {fuel:Int} {n j:Nat} {out:List gA} (h:fy p fuel j=some out):EI8 p fuel n j (PF.uI (IL fuel out n j)) (EH p out):=⟨out,h,rfl,fun t a=>by
 simp only [IL,aqY,arh,or_false]at a
 rcases a with rfl|rfl|rfl|rfl|rfl<;>simp [IL]⟩
theorem Sl {h:PH} {s:List Int} {m:List (List Int)}:gJ h 2 m.length (.fs 2 (str (qq s m)))=some (yK (qq s m)):=by
 simp only [gJ];rw [if_pos ⟨trivial,by simp⟩,aqN (by simp)];rfl
theorem CF {p:bC} {fuel:Int} (o:jz p):Fz E O 17 [.agg (aI p),pi fuel] (.fF (yQ p fuel)):=by
 refine mf.body (F:=Y8) rfl rfl rfl ?_;simp (maxSteps:=9^7)-implicitDefEqProofs+contextual [-getElem?_pos,aqF,Y8,aI];refine bP (pG o) ?_ ?_ ?_
 iterate 2· simp (maxDischargeDepth:=8)-implicitDefEqProofs [-getElem?_pos,aqF,aI]
 cases h:bw p with
 |false=>
  have e:yQ p fuel=[iy,pi 30]:=by simp [yQ,cM,h]
  rw [e];simp (maxSteps:=9^7)-implicitDefEqProofs+contextual [-getElem?_pos,aqF,h];refine dD ?_;simp
 |true=>
  by_cases d:fuel<0
  ·have e:yQ p fuel=[iy,pi 1]:=by simp [yQ,cM,h,d]
   rw [e];simp (maxSteps:=9^7)-implicitDefEqProofs [-getElem?_pos,aqF,h,d];refine dD ?_;simp
  by_cases h2:4096<fuel
  ·have e:yQ p fuel=[iy,pi 1]:=by simp [yQ,cM,h,d,h2]
   rw [e];simp (maxSteps:=9^7)-implicitDefEqProofs [-getElem?_pos,aqF,h,d,h2];refine dD ?_;simp
  have N:cM p fuel=0:=by simp [cM,h];omega
  have A:yQ p fuel=match jZ p fuel with|some l=>[.fs 2 (str l),pi 0]|none=>[iy,pi 5]:=by simp [yQ,N]
  simp (maxSteps:=9^7)-implicitDefEqProofs [-getElem?_pos,aqF,h,d,h2,aI];refine bP (CA o) ?_ ?_ ?_
  iterate 2· simp (maxDischargeDepth:=8)-implicitDefEqProofs [-getElem?_pos,aqF,aI]
  by_cases z:hY p≤60
  case neg=>
   have e:oh p=[pi 0,pi 5]:=by simp [oh,h];omega
   rw [A,e,jZ,if_neg (fun q=>z q.1)];simp (maxSteps:=9^7)-implicitDefEqProofs [-getElem?_pos,aqF];refine dD ?_;simp
  have e:oh p=[pi (eJ p),pi 0]:=by simp [oh,h];omega
  rw [e];by_cases y:eJ p≤4096
  case neg=>
   have t:4096<eJ p:=by omega
   rw [A,jZ,if_neg (fun q=>y q.2)];simp (maxSteps:=9^7)-implicitDefEqProofs [-getElem?_pos,aqF,t];refine dD ?_;simp
  have t:¬ 4096<eJ p:=by omega
  rw [A,jZ,if_pos ⟨z,y⟩];have R:0<eJ p:=Int.pow_pos (by omega)
  obtain ⟨n,M⟩:∃n:Nat,eJ p=n:=⟨(eJ p).toNat,by omega⟩
  rw [M]at y t⊢;rw [Int.toNat_natCast];simp (maxSteps:=9^7)-implicitDefEqProofs [-getElem?_pos,aqF,t];refine fT (EI8 p fuel n) n (dt (h2:=EH p []) [0,9] (IL fuel [] n 0) ?_ ?_ ?_ ?_ ?_ ?_) (CD rfl) ?_
  ·simp [EH,IL,aI]
  iterate 2· simp
  ·intro b P;omega
  iterate 2· simp (maxDischargeDepth:=8)-implicitDefEqProofs [aF,aqF,EH,IL,aI]
  rintro j U h T ⟨out,a,rfl,G⟩;simp only [IL,aqY,arh,or_false,forall_eq_or_imp,forall_eq]at G;obtain ⟨g,f,u,f34,f35⟩:=G;have C:=wH a;by_cases D:j<n
  ·have I:IntKind.i64.wrap (16384- (out.length:Int))=((16384- out.length:Nat):Int):=by rw [ai ⟨by omega,by omega⟩];omega
   have H:IntKind.i64.wrap ((j:Int)+1)=((j+1:Nat):Int):=ai ⟨by omega,by omega⟩;have Q:=uP h j;have v:=fun x (J:x∈e8 p j)=>yO (qu (qZ h) _ x J)
   have B:=IK (i:=j) o h z ⟨by omega,by omega⟩;have c:=Ym (fuel:=fuel) (most:=16384- out.length) o h (s:=e8 p j) (by omega) v (by omega);have r:fy p fuel (j+1)=(ofM p fuel (e8 p j) (16384- out.length)).map fun m=>out++qq (e8 p j) m:=by rw [fy,a];rfl
   obtain ⟨s,K⟩:∃s,e8 p j=s:=⟨_,rfl⟩
   rw [K]at B c r;simp (maxSteps:=9^7)-implicitDefEqProofs+contextual [-getElem?_pos,aqF,g,f,u,f34,f35,D,EH,aI];refine bP (B) ?_ ?_ ?_
   iterate 2· simp (maxDischargeDepth:=8)-implicitDefEqProofs [-getElem?_pos,aqF,aI]
   simp (maxSteps:=9^7)-implicitDefEqProofs+contextual [-getElem?_pos,aqF,g,f,u,aI,I];refine bP (c) ?_ ?_ ?_
   iterate 2· simp (maxDischargeDepth:=8)-implicitDefEqProofs [-getElem?_pos,aqF,aI]
   cases w:ofM p fuel s (16384- out.length)with
   |none=>
    have L:fy p fuel n=none:=by
     have:=yP (show fy p fuel (j+1)=none by rw [r,w];rfl) (n- (j+1));rwa [show j+1+(n- (j+1))=n by omega]at this
    rw [L];simp (maxSteps:=9^7)-implicitDefEqProofs [-getElem?_pos,aqF,AI];refine dD ?_;simp
   |some m=>
    have S:=CC w;rw [w]at r;simp (maxSteps:=9^7)-implicitDefEqProofs+contextual [-getElem?_pos,aqF,AI,u];apply fi (k:=m.length) (new:=yK (qq s m))
    iterate 9· first|omega|exact Sl|rfl|(simp-implicitDefEqProofs [];done)
    simp (maxSteps:=9^7)-implicitDefEqProofs+contextual [-getElem?_pos,aqF,f35,H];refine .rj D (dt (h2:=EH p (out++qq s m)) [0,1] (IL fuel (out++qq s m) n (j+1)) ?_ ?_ ?_ ?_ ?_ ?_) (CD r)
    ·simp [EH,IL,aI,kZ,g,f,f34]
    iterate 2· simp
    ·intro b P;omega
    iterate 2· simp (maxDischargeDepth:=8)-implicitDefEqProofs [aF,aqF,EH,IL,aI,kZ,g,f,f34]
  ·obtain rfl:j=n:=by omega
   simp (maxSteps:=9^7)-implicitDefEqProofs+contextual [-getElem?_pos,aqF,g,f,u,f34,f35,EH];rw [a];refine ⟨_,_,dD ?_,rfl,rfl,by simp⟩;simp (maxDischargeDepth:=8)-implicitDefEqProofs []
end P
section
open Go
def Sn (S:Nat→Bool):cv→Bool
 | .call f _=>S f
 | .callv _ _=>false
 | .xt .oA _=>false
 |_=>true
def yR (S:Nat→Bool) (l:List AO):Bool:=l.all fun o=>Sn S o.o
def yS (S:Nat→Bool):AC→Bool
 | .bI l| .bJ l _=>yR S l
 | .seq a b| .cond _ a b=>yS S a&&yS S b
 | .block _ a| .loop a=>yS S a
 |_=>true
theorem CG {H H':AH} {a:Addr} {vs:List Value} (h:H.st a vs=some H'):H'.bs=H.bs:=by
 unfold AH.st at h;split at h
 ·obtain ⟨_,h⟩:=aw h
  cases h;rfl
 ·cases h
theorem So {sz bytes:Nat} {H H':AH} {s x v:Value} (h:bm sz bytes H s x=some (v,H')):H'.bs=H.bs:=by
 unfold bm at h;split at h
 case h_2=>cases h
 split at h
 ·obtain ⟨_,h⟩:=aw h
  cases h;rfl
 split at h
 ·cases h
 obtain ⟨_,h⟩:=aw h;split at h
 ·split at h
  ·obtain ⟨_,h⟩:=aw h
   obtain ⟨b,a,h2⟩:=aqQ.1 h;cases h2;exact CG a
  ·cases h
 split at h
 ·obtain ⟨_,h⟩:=aw h
  cases h;rfl
 split at h
 ·obtain ⟨_,h⟩:=aw h
  obtain ⟨_,_,h2⟩:=aqQ.1 h;cases h2;rfl
 ·cases h
theorem MF {sz:Nat} {H H':AH} {d s v:Value} (h:j6 sz H d s=some (v,H')):H'.bs=H.bs:=by
 unfold j6 at h;split at h
 case h_2=>cases h
 obtain ⟨c,_,h⟩:=aqR.1 h;split at h
 ·cases a:c.isEmpty with
  |true=>simp only [a,cond_true,aqH,aqO]at h;rw [h.2]
  |false=>
   simp only [a,cond_false]at h;obtain ⟨e,b,h2⟩:=aqQ.1 h;cases h2;exact CG b
 ·cases h;rfl
theorem IM {S:Nat→Bool} {o:AO} {j:Fr} {H H':AH} {r:iY} (i:Sn S o.o=true) (h:aq o.o (X.ev j) H=some (r,H')):H'.bs=H.bs:=by
 cases a:eP o.o with
 |pure=>rw [(mB a h).1]
 |load=>rw [(mC a h).1]
 |read=>rw [(mD a h).1]
 |alloc=>
  obtain ⟨aR,e,_⟩:=ja a h;rw [e];rfl
 |st=>
  obtain ⟨c,aR,h2,_,e,_⟩:=rp a h;rw [e];rfl
 |j8=>
  obtain ⟨g,d,o⟩:=o;dsimp only at*
  cases o with
  |pJ kk x k v=>
   simp only [aq]at h;split at h
   case h_2=>cases h
   split at h
   case h_2=>cases h
   obtain ⟨_,h⟩:=aw h;obtain ⟨_,_,h2⟩:=aqQ.1 h;cases h2;rfl
  |call f xs=>cases h;rfl
  |callv x xs=>cases i
  |app sz bytes s x=>
   obtain ⟨⟨v,m⟩,b,h2⟩:=aqQ.1 h;cases h2;exact So b
  |copy sz d s=>
   obtain ⟨⟨v,m⟩,b,h2⟩:=aqQ.1 h;cases h2;exact MF b
  |xt k l=>
   cases k with
   |oA=>cases i
   |bad=>cases h
   |_=>cases a
  |sl sz x lo hi mx=>cases lo<;>cases a
  |_=>cases a
def IN (S:Nat→Bool) (call:Cl):Prop:=∀f xs H v H',S f=true→call f xs H=some (v,H')→H'.bs=H.bs
section
variable{S:Nat→Bool} {call:Cl} (K:IN S call)
include K
theorem IP {o:AO} {n p:Fr} {H H':AH} (c:Sn S o.o=true) (h:jM call o n H=some (p,H')):H'.bs=H.bs:=by
 unfold jM at h
 cases i:o.wanted n with
 |false=>simp only [i,cond_false,aqH,aqO]at h;rw [h.2]
 |true=>
  simp only [i,cond_true]at h;split at h
  ·rename_i x b e
   cases h;exact IM c e
  ·rename_i f xs b e
   have r:=IM c e;split at h
   ·rename_i x t q
    cases h;refine (K f xs b x H' ?_ q).trans r;obtain ⟨g,d,o⟩:=o;have j:=iS e;dsimp only at*
    cases o with
    |call g a=>cases e;exact c
    |callv x a=>cases c
    |pJ kk x k v=>
     simp only [aq]at e;split at e
     case h_2=>cases e
     split at e
     case h_2=>cases e
     obtain ⟨_,e⟩:=aw e;obtain ⟨_,_,h2⟩:=aqQ.1 e;cases h2
    |app sz bytes s x=>
     obtain ⟨⟨v,b⟩,m,h2⟩:=aqQ.1 e;cases h2
    |copy sz d s=>
     obtain ⟨⟨v,b⟩,m,h2⟩:=aqQ.1 e;cases h2
    |xt k l=>
     obtain ⟨⟨v,b⟩,m,h2⟩:=aqQ.1 e;cases h2
    |sl sz x lo hi mx=>cases lo<;>cases j
    |_=>cases j
   ·cases h
  ·cases h
theorem IQ:∀{l:List AO} {c b:Fr} {H H':AH},yR S l=true→ops call l c H=some (b,H')→H'.bs=H.bs
 |[],_,_,_,_,_,h=>by cases h;rfl
 |o::l,c,b,H,H',a,h=>by
  simp only [yR,List.all_cons,aqJ]at a;unfold ops at h;split at h
  ·rename_i d f e
   exact (IQ (by simpa [yR]using a.2) h).trans (IP K a.1 e)
  ·cases h
theorem CH:∀{l:List AO} {c:Fr} {H:AH} {a:List (Fr×AH)},yR S l=true→jN call l c H=some a→(fJ (c,H) a).2.bs=H.bs
 |[],_,_,_,_,h=>by cases h;rfl
 |o::l,c,H,a,b,h=>by
  simp only [yR,List.all_cons,aqJ]at b;unfold jN at h;split at h
  ·rename_i g i e
   split at h
   ·rename_i d f
    cases h;exact (CH (by simpa [yR]using b.2) f).trans (IP K b.1 e)
   ·cases h
  ·cases h
theorem MG {l:List AO} {ck:List (Nat×Nat×Nat)} {c i:Fr} {H H':AH} (g:yR S l=true) (h:wZ call l ck c H=some (i,H')):H'.bs=H.bs:=by
 unfold wZ at h;split at h
 ·rename_i d e
  obtain ⟨_,h⟩:=aw h;have:=CH K g e
  cases f:fJ (c,H) d with
  |mk a b=>
   rw [f]at h this;cases h;exact this
 ·cases h
theorem fV:∀(m:Nat) {c:AC} {g f:Fr} {H H':AH} {ex:Ex},yS S c=true→aD call m c g H=some (ex,f,H')→H'.bs=H.bs
 |0,_,_,_,_,_,_,_,h=>by cases h
 |m+1,c,g,f,H,H',ex,d,h=>by
  cases c with
  |skip=>cases h;rfl
  |exit i=>cases h;rfl
  |ret=>cases h;rfl
  |bI l=>
   simp only [aD]at h;split at h
   ·rename_i a b e
    cases h;exact IQ K d e
   ·cases h
  |bJ l p=>
   simp only [aD]at h;split at h
   ·rename_i a b e
    cases h;exact MG K d e
   ·cases h
  |seq a b=>
   simp only [yS,aqJ]at d;simp only [aD]at h;split at h
   ·rename_i k n e
    exact (fV m d.2 h).trans (fV m d.1 e)
   ·exact fV m d.1 h
  |cond x a b=>
   simp only [yS,aqJ]at d;simp only [aD]at h;split at h
   ·exact fV m d.1 h
   ·exact fV m d.2 h
   ·cases h
  |block i a=>
   simp only [aD]at h;split at h
   ·rename_i j k n e
    have:=fV m (c:=a) d e;cases o:Nat.beq j i<;>simp only [o,cond_true,cond_false,aqH,aqO]at h<;>rw [←h.2.2]<;>exact this
   ·exact fV m (c:=a) d h
  |loop a=>
   simp only [aD]at h;split at h
   ·rename_i k n e
    exact (fV m (c:=.loop a) d h).trans (fV m (c:=a) d e)
   ·exact fV m (c:=a) d h
end
theorem IS {E:Env} {O:jD} {S:Nat→Bool} (c:∀f F,S f=true→O f=none→E f=some F→yS S F.body=true) (d:∀f g,S f=true→O f=some g→∀xs H v H',g xs H=some (v,H')→H'.bs=H.bs):∀n,IN S (fk E O n)
 |0=>fun _ _ _ _ _ _ h=>by cases h
 |n+1=>fun f xs H v H' b h=>by
  unfold fk at h;split at h
  · rename_i g a
    exact d f g b a xs H v H' h
  · rename_i a
    split at h
    · cases h
    · rename_i F i
      obtain ⟨_,h⟩:=aw h;split at h
      · cases h
      · rename_i ex j k _ e
        split at h
        · cases h
          exact fV (IS c d n) n (c f F b a i) e
        · cases h
      · cases h
theorem Ca.nc {E:Env} {O:jD} {S:Nat→Bool} (b:∀f F,S f=true→O f=none→E f=some F→yS S F.body=true) (c:∀f g,S f=true→O f=some g→∀xs H v H',g xs H=some (v,H')→H'.bs=H.bs)
 {f:Nat} {xs:List Value} {H:AH} {Q:Value→AH→Prop} (a:S f=true) (h:Ca E O f xs H Q):Ca E O f xs H (fun x H'=>Q x H'∧H'.bs=H.bs):=by
 obtain ⟨n,x,H',e,q⟩:=h;exact ⟨n,x,H',e,q,IS b c n f xs H x H' a e⟩
end
section
open Go
theorem ic {H:AH} {b:Nat} {s t:ByteArray} (h:H.bs=some (b,s)) (hs:s.size+t.size≤140737488355328):
 Ca E O 83 [.pointer (some ⟨b,0,none⟩),.string t] H (fun _ H'=>Ext H H'∧H'.bs=some (b,s++t)):=
 Ca.xq (g:=sA) (x:=.tuple #[.int .i64 t.size,.nilIface]) (H':={H with bs:=some (b,s++t)}) rfl (by simp [sA,h,hs]) ⟨⟨rfl,aqK _,fun _ _=>rfl⟩,rfl⟩
theorem MI {H:AH} {b:Nat} {s:ByteArray} (h:H.bs=some (b,s)):
 Ca E O 86 [.pointer (some ⟨b,0,none⟩)] H (fun x H'=>x= .string s∧H'=H):=
 Ca.xq (g:=FP) (x:=.string s) (H':=H) rfl (by simp [FP,h]) ⟨rfl,rfl⟩
def Sp:Nat→Nat→List UInt8
 |0,_=>[]
 |f+1,n=>if n<10 then [UInt8.ofNat (48+n)]else Sp f (n/10)++[UInt8.ofNat (48+n%10)]
theorem AL:∀(f n:Nat),n<10^f→Sp f n=Lib.decDigits n∨f=0
 |0,n,h=>.inr rfl
 |f+1,n,h=>by
  rw [Sp,Lib.decDigits];by_cases a:n<10
  ·rw [if_pos a,dif_pos a];exact .inl rfl
  ·rw [if_neg a,dif_neg a]
   rcases AL f (n/10) (by rw [Nat.pow_succ]at h;omega)with e|rfl
   ·rw [e];exact .inl rfl
   ·simp at h;omega
theorem wI:∀(f n:Nat),(Sp f n).length≤f
 |0,n=>aqK _
 |f+1,n=>by
  rw [Sp];have:=wI f (n/10);split<;>simp<;>omega
def nj (n:Int):ByteArray:=⟨(if n<0 then 45::Sp 20 n.natAbs else Sp 20 n.toNat).toArray⟩
def tE (n:Int):Prop:=-9223372036854775808≤n∧n≤9223372036854775807
theorem Eh {n:Int} (h:tE n):(⟨(Lib.itoa n).toArray⟩:ByteArray)=nj n:=by
 have a:=h.1;have h2:=h.2;unfold nj Lib.itoa;split
 ·rcases AL 20 n.natAbs (by omega)with e|e
  ·rw [e]
  ·cases e
 ·rcases AL 20 n.toNat (by omega)with e|e
  ·rw [e]
  ·cases e
theorem wJ {H:AH} {n:Int} (h:tE n):Ca E O 84 [.int .i64 n] H (fun x H'=>x= .string (nj n)∧H'=H):=
 Ca.xq (g:=xy) (x:=.string (nj n)) (H':=H) rfl (by simp [xy,h.1,h.2,Eh h]) ⟨rfl,rfl⟩
theorem kA (n:Int):(nj n).size≤21:=by
 unfold nj;have a:=wI 20 n.natAbs;have h2:=wI 20 n.toNat;split<;>simp [ByteArray.size]<;>omega
def IT (i:Nat):ByteArray:=if i=0 then⟨#[32]⟩else⟨#[58]⟩
theorem qv (i:Nat):(IT i).size=1:=by unfold IT;split<;>rfl
def nC (s:ByteArray) (ns:List Int):Nat→ByteArray
 |0=>s
 |j+1=>nC s ns j++IT j++nj (ns.getD j 0)
theorem oi (s:ByteArray) (a:List Int):∀j,(nC s a j).size≤s.size+22*j
 |0=>by simp [nC]
 |j+1=>by
  have c:=oi s a j;have h2:=kA (a.getD j 0);have b:=qv j;simp only [nC,aqZ];omega
theorem CI {a:List Int} {v:Value} {b:Nat} {s:ByteArray} {H:AH} (D:H.n0≤H.nx) (u:fb H v a) (S:a.length≤3) (G:∀n∈a,tE n) (L:H.bs=some (b,s)) (hs:s.size≤2^40):
 Ca E O 82 [v,.pointer (some ⟨b,0,none⟩)] H (fun _ H'=>Ext H H'∧H'.bs=some (b,nC s a a.length)):=by
 refine Ca.aW (F:=Zx) rfl rfl rfl ?_;obtain ⟨P,U,q⟩:=u.len;simp (maxSteps:=9^7)-implicitDefEqProofs+contextual [-X.ev,Zx,q];refine cm (fun k f H'=>(Ext H H'∧∃i:Nat,i+k=a.length∧H'.bs=some (b,nC s a i)∧f.get 1= .pointer (some ⟨b,0,none⟩)∧f.get 5=v∧f.get 6= .int .i64 a.length∧f.get 7= .int .i64 i)) ?_ a.length ⟨Ext.refl _,0,by simp,by simpa [nC]using L,by simp,by simp [q],by simp,by simp⟩;rintro k f d ⟨l,i,hi,A,c,e,j,g⟩;have C:=l.wf D;have R:=oi s a i;by_cases h:i<a.length
 ·obtain ⟨n,m⟩:∃n,a[i]?=some n:=⟨_,aqG h⟩
  obtain ⟨W,Q,V,r,I⟩:=(u.ext l).at m;rw [r]at e;have o:=G n (aqL m);have y:ng 3 1 [.string ⟨#[]⟩,.string ⟨#[]⟩,.string ⟨#[]⟩] d [(0,1,.string ⟨#[32]⟩),(1,1,.string ⟨#[58]⟩),(2,1,.string ⟨#[58]⟩)]=some (.slice (some ⟨d.nx,0,none⟩) 3 3,d.alloc (.cells 1 [.string ⟨#[32]⟩,.string ⟨#[58]⟩,.string ⟨#[58]⟩])):=rfl;have B:=Ext.alloc d (.cells 1 [.string ⟨#[32]⟩,.string ⟨#[58]⟩,.string ⟨#[58]⟩])
  have w:(d.alloc (.cells 1 [.string ⟨#[32]⟩,.string ⟨#[58]⟩,.string ⟨#[58]⟩])).ld ⟨d.nx,i,none⟩=some (.string (IT i)):=by
   refine aj C ?_;have:i=0∨i=1∨i=2:=by omega
   rcases this with rfl|rfl|rfl<;>rfl
  have z:(d.alloc (.cells 1 [.string ⟨#[32]⟩,.string ⟨#[58]⟩,.string ⟨#[58]⟩])).bs=some (b,nC s a i):=A;generalize T:d.alloc (.cells 1 [.string ⟨#[32]⟩,.string ⟨#[58]⟩,.string ⟨#[58]⟩])=H2 at y B w z;have p:(i:Int)<3:=by omega
  simp (maxSteps:=9^7)-implicitDefEqProofs+contextual [-X.ev,c,e,j,g,h,I,y,w,p];apply ah
  ·(simp-implicitDefEqProofs [-X.ev,c];rfl)
  refine (ic (t:=IT i) z (by rw [qv];omega)).mono ?_;rintro x H3 ⟨N,K⟩;simp (maxSteps:=9^7)-implicitDefEqProofs+contextual [-X.ev,c,e,j,g];apply ah
  ·(simp-implicitDefEqProofs [-X.ev,c];rfl)
  refine (wJ o).mono ?_;rintro x Z ⟨rfl,rfl⟩;simp (maxSteps:=9^7)-implicitDefEqProofs+contextual [-X.ev,c,e,j,g];apply ah
  ·(simp-implicitDefEqProofs [-X.ev,c];rfl)
  refine (ic (t:=nj n) K (by have:=kA n;have:=qv i;simp only [aqZ];omega)).mono ?_;rintro x Y ⟨M,J⟩;simp (maxSteps:=9^7)-implicitDefEqProofs+contextual [-X.ev,c,e,j,g];refine ⟨k- 1,by omega,((l.trans B).trans N).trans M,i+1,by omega,?_,r.symm,ai ⟨by omega,by omega⟩⟩;rw [J,nC,List.getD_eq_getElem?_getD,m];rfl
 ·obtain rfl:i=a.length:=by omega
  simp (maxSteps:=9^7)-implicitDefEqProofs+contextual [-X.ev,c,e,j,g];exact ⟨l,A⟩
end
namespace P
open Go Go.RowKit
def CJ (a b:Int):Int:=IntKind.i64.wrap (BitVec.ofInt 64 a&&&~~~BitVec.ofInt 64 b).toNat
theorem IU (a b:Int):cj .andNot (.int .i64 a) (.int .i64 b)=some (.int .i64 (CJ a b)):=rfl
def tF (level other:Int):Bool:=decide (0≤other)&&(decide (other≤15)&&decide (CJ other level=0))
theorem Sq {level other:Int}:Fz E O 118 [pi level,pi other] (pb (tF level other)):=by
 refine Fz.body (F:=Dq) rfl rfl rfl rfl ?_;have b:=IU other level;by_cases a:0≤other
 ·by_cases h2:other≤15
  ·simp (maxSteps:=9^7)-implicitDefEqProofs [-getElem?_pos,aqF,Dq,tF,a,h2,b]
  ·simp (maxSteps:=9^7)-implicitDefEqProofs [-getElem?_pos,aqF,Dq,tF,a,h2,b]
 ·simp (maxSteps:=9^7)-implicitDefEqProofs [-getElem?_pos,aqF,Dq,tF,a]
def fD (level:Int) (l:List (Int×Int)):List (Int×Int):=l.filter fun o=>tF level o.1
theorem Ei {level:Int} {l:List (Int×Int)} {i:Nat} {o:Int×Int} (h:l[i]?=some o):fD level (l.take (i+1))=if tF level o.1=true then fD level (l.take i)++[o]else fD level (l.take i):=by
 rw [aq1,h];simp only [fD,List.filter_append,Option.toList_some,List.filter_cons,List.filter_nil];split<;>simp
theorem tG {level:Int} {l:List (Int×Int)}:(fD level l).length≤l.length:=List.length_filter_le ..
def TL (level:Int) (l:List (Int×Int)) (i:Nat):List (Nat×PV):=[(0,pi level),(5,.sl 2 0 0 (fD level (l.take i)).length (fD level (l.take i)).length),(8,.fs 2 (wz l)),(9,pi l.length),(10,pi i)]
def TH (level:Int) (l:List (Int×Int)) (i:Nat):PH:=[.cells 2 (xq (fD level (l.take i)))]
def TI (level:Int) (l:List (Int×Int)) (i:Nat) (fr:PF) (h:PH):Prop:=h=TH level l i∧∀t∈TL level l i,fr.get t.1=t.2
theorem AM {level:Int} {l:List (Int×Int)} {i:Nat}:TI level l i (PF.uI (TL level l i)) (TH level l i):=⟨rfl,fun t a=>by
 simp only [TL,aqY,arh,or_false]at a
 rcases a with rfl|rfl|rfl|rfl|rfl<;>simp [TL]⟩
theorem MJ (l:List (Int×Int)) (i:Nat):(wz l)[i]?=(l[i]?).map fun e=>[pi e.1,pi e.2]:=by simp [wz]
theorem Sr {level:Int} {l:List (Int×Int)} (r:l.length≤2^40):Fz E O 85 [pi level,.fs 2 (wz l)] (.fs 2 (wz (fD level l))):=by
 refine mf.body (F:=a85) rfl rfl rfl ?_;simp (maxSteps:=9^7)-implicitDefEqProofs+contextual [-getElem?_pos,aqF,a85];refine fT (TI level l) l.length (dt (h2:=TH level l 0) [9] (TL level l 0) ?_ ?_ ?_ ?_ ?_ ?_) AM ?_
 ·simp [TH,TL,fD]
 iterate 2· simp
 ·intro b o;omega
 iterate 2· simp (maxDischargeDepth:=8)-implicitDefEqProofs [aF,aqF,TH,TL,fD]
 rintro i s h hi ⟨rfl,m⟩;simp only [TL,aqY,arh,or_false,forall_eq_or_imp,forall_eq]at m;obtain ⟨g,a,f,d,f10⟩:=m;have q:(fD level (l.take i)).length≤i:=aq2 tG (by simp;omega);by_cases h:i<l.length
 ·obtain ⟨e,n⟩:∃e,l[i]?=some e:=⟨_,aqG h⟩
  have c:=Ei (level:=level) n;have j:IntKind.i64.wrap ((i:Int)+1)=((i+1:Nat):Int):=ai ⟨by omega,by omega⟩
  obtain ⟨T,p⟩:∃T,fD level (l.take i)=T:=⟨_,rfl⟩
  rw [p]at c a q;simp (maxSteps:=9^7)-implicitDefEqProofs+contextual [-getElem?_pos,aqF,g,a,f,d,f10,h,MJ,n,TH,p];refine bP (Sq (level:=level) (other:=e.1)) ?_ ?_ ?_
  iterate 2· simp (maxDischargeDepth:=8)-implicitDefEqProofs [-getElem?_pos,aqF]
  cases k:tF level e.1 with
  |true=>
   rw [k,if_pos rfl]at c;simp (maxSteps:=9^7)-implicitDefEqProofs+contextual [-getElem?_pos,aqF,a];apply fi
   iterate 9· first|rfl|omega|(simp-implicitDefEqProofs [-getElem?_pos,aqF];first|done|rfl|omega)
   simp (maxSteps:=9^7)-implicitDefEqProofs+contextual [-getElem?_pos,aqF,f10,j];refine .rj h (dt (h2:=TH level l (i+1)) [0] (TL level l (i+1)) ?_ ?_ ?_ ?_ ?_ ?_) AM
   ·simp [TH,TL,c,tw,g,f,d]
   iterate 2· simp
   ·intro b o;omega
   iterate 2· simp (maxDischargeDepth:=8)-implicitDefEqProofs [aF,aqF,TH,TL,c,tw,g,f,d]
  |false=>
   rw [k,if_neg (by simp)]at c;simp (maxSteps:=9^7)-implicitDefEqProofs+contextual [-getElem?_pos,aqF,a,f10,j];refine .rj h (dt (h2:=TH level l (i+1)) [0] (TL level l (i+1)) ?_ ?_ ?_ ?_ ?_ ?_) AM
   ·simp [TH,TL,c,g,a,f,d]
   iterate 2· simp
   ·intro b o;omega
   iterate 2· simp (maxDischargeDepth:=8)-implicitDefEqProofs [aF,aqF,TH,TL,c,g,a,f,d]
 ·obtain rfl:i=l.length:=by omega
  rw [aqN (aqK _)]at a;simp (maxSteps:=9^7)-implicitDefEqProofs+contextual [-getElem?_pos,aqF,a,f,d,f10,TH];refine dD ?_;simp (maxDischargeDepth:=8)-implicitDefEqProofs []
end P
section
open Go
def AN (H:AH):AH:={H with tr:=T.put none (some none) (H.nx+1) H.tr H.nx,nx:=H.nx+1,bs:=some (H.nx,.empty)}
theorem Ss {m:Md} {d:Nat} {l:List AO} {b:List Ko} {a:Fr} {H:AH} {Q:Ex→Fr→AH→Prop}:Vx E O m (⟨none,some d,.xt .oA []⟩::l) b a H Q↔
 Vx E O (m.up (a.put d (.pointer (some ⟨H.nx,0,none⟩))) (AN H)) l b (a.put d (.pointer (some ⟨H.nx,0,none⟩))) (AN H) Q:=by
 rw [Gp _ (r:=some (.pointer (some ⟨H.nx,0,none⟩),AN H)) rfl rfl];simp [Dx,v1,h2]
theorem Ext.oA (H:AH):Ext H (AN H):=⟨rfl,aq7 _,fun b a=>by
 have e:(AN H).raw b=H.raw b:=by
  show(match(T.put none (some none) (H.nx+1) H.tr H.nx).get none b with|some x=>x|none=>H.base b)=_;rw [T.bG _ _ _ _ _ _ (by omega),if_neg (by omega)];rfl
 rw [AH.eO (show b<(AN H).nx by show b<H.nx+1;omega),AH.eO a,e]⟩
def wK (a b:Int):Int:=IntKind.i64.wrap (BitVec.ofInt 64 a&&&BitVec.ofInt 64 b).toNat
theorem CK (a b:Int):cj .and (.int .i64 a) (.int .i64 b)=some (.int .i64 (wK a b)):=rfl
theorem CL {a b:ByteArray} (h:a.size+b.size≤2^50):cj .add (.string a) (.string b)=some (.string (a++b)):=by
 have:¬ (((a.size+b.size:Nat):Int)>IntKind.i64.max):=by
  have:IntKind.i64.max=9223372036854775807:=by decide
  rw [this];omega
 simp only [cj,uX,if_neg this]
theorem OQ {H:AH} {l:List Int} (c:H.n0≤H.nx):fb (H.alloc (.cells 1 (l.map fun n=>.int .i64 n))) (.slice (some ⟨H.nx,0,none⟩) l.length l.length) l:=by
 refine ⟨some ⟨H.nx,0,none⟩,l.length,by simp [bg],fun i r hi=>?_⟩;refine ⟨H.nx,0,rfl,?_⟩;simp only [bg,ara]at hi
 cases a:l[i]? with
 |none=>rw [a]at hi;cases hi
 |some n=>
  rw [a]at hi;cases hi;have b:=(aqM.1 a).1;have d:(H.alloc (.cells 1 (l.map fun n=>.int .i64 n))).get H.nx=some (.cells 1 (l.map fun n=>.int .i64 n)):=by rw [AH.dF,if_pos rfl]
  rw [bH d c (by simp;omega)];congr 1;rw [List.drop_eq_getElem_cons (by simpa using b)];simp;rw [aqG b]at a;cases a;rfl
def ju (s:ByteArray) (rs:List (List Int)):Nat→ByteArray
 |0=>s
 |j+1=>nC (ju s rs j) (rs.getD j []) (rs.getD j []).length
theorem jv (s:ByteArray) (rs:List (List Int)) (h:∀r∈rs,r.length≤3):∀j,(ju s rs j).size≤s.size+66*j
 |0=>by simp [ju]
 |j+1=>by
  have c:=jv s rs h j;have h2:=oi (ju s rs j) (rs.getD j []) (rs.getD j []).length
  have b:(rs.getD j []).length≤3:=by
   rw [List.getD_eq_getElem?_getD]
   cases a:rs[j]? with
   |none=>simp
   |some r=>exact h r (aqL a)
  rw [ju];omega
def yT (l:List (Int×Int)):List (List Int):=l.map fun o=>[o.1,o.2]
def OR (l:List Ev):List (List Int):=l.map fun e=>[e.kind,e.at_,e.val]
def AP (bits:Int) (r:iw) (s:ByteArray):ByteArray:=if wK bits 8=0 then s else s++(⟨#[101]⟩++nj r.en++⟨#[59]⟩)
def AQ (level bits:Int) (r:iw) (s:ByteArray):ByteArray:=if wK bits 1=0 then s else ju (s++⟨#[111]⟩) (yT (P.fD level r.outs)) (P.fD level r.outs).length++⟨#[59]⟩
def AR (bits:Int) (r:iw) (s:ByteArray):ByteArray:=if wK bits 2=0 then s else ju (s++⟨#[116]⟩) (OR r.trace) r.trace.length++⟨#[59]⟩
def MK (bits:Int) (r:iw) (s:ByteArray):ByteArray:=if wK bits 4=0 then s else s++(⟨#[99]⟩++nj r.cost++⟨#[59]⟩)
def uQ (level bits:Int) (r:iw):ByteArray:=MK bits r (AR bits r (AQ level bits r (AP bits r .empty)))
open Go
open P (fD)
theorem MN {level:Int} {l:List (Int×Int)} {F:Nat→Prop} {H:AH} {φ:Nat→Nat} {c:Value} (S:P.dO ⟨F,H,φ,[]⟩) (d:P.RF F H (.fs 2 (P.wz l)) c) (h:l.length≤2^40):
 Ca E O 85 [.int .i64 level,c] H (fun x H'=>(Ext H H'∧Rows H' 2 x (cY (fD level l)))∧H'.bs=H.bs):=by
 refine Ca.nc (S:=fun f=>f==85||f==118) (fun f G a _ k=>?_) (fun f g a i=>?_) rfl ?_
 ·simp only [Bool.or_eq_true,beq_iff_eq]at a
  rcases a with rfl|rfl<;>(cases k;rfl)
 ·simp only [Bool.or_eq_true,beq_iff_eq]at a
  rcases a with rfl|rfl<;>cases i
 ·refine (P.Sr (level:=level) h F H φ _ S (.cons (.v _) (.cons (.fs d) .nil))).mono ?_
  rintro x H' ⟨r,n,p,m,⟨rfl,rfl,_⟩,e,o,T⟩
  have no:∀x,¬ P.im ⟨F,H,φ,[]⟩ P.qj x:=fun x q=>by
   obtain ⟨b,_,s,_⟩:=q;exact absurd (P.aQ s) (aq6 _)
  exact ⟨⟨T.n0,T.nx,fun b j=>T.out b j (no b)⟩,P.Ct (by simp [P.wz,cY,Am,P.pi]) (P.Ms e)⟩
theorem Ej (bits:Int) (r:iw) (s:ByteArray):(AP bits r s).size≤s.size+30:=by
 have:=kA r.en;unfold AP;split
 ·omega
 ·simp only [aqZ]
  show _+(1+_+1)≤_;omega
theorem IV (l:List (Int×Int)):∀r∈yT l,r.length≤3:=by
 intro r a;simp only [yT,ard]at a;obtain ⟨x,_,rfl⟩:=a;simp
theorem OT (l:List Ev):∀r∈OR l,r.length≤3:=by
 intro r a;simp only [OR,ard]at a;obtain ⟨x,_,rfl⟩:=a;simp
theorem Ek (level bits:Int) (r:iw) (s:ByteArray):(AQ level bits r s).size≤s.size+66*r.outs.length+10:=by
 have a:=jv (s++⟨#[111]⟩) (yT (fD level r.outs)) (IV _) (fD level r.outs).length;have h2:=P.tG (level:=level) (l:=r.outs);unfold AQ;split
 ·omega
 ·simp only [aqZ]at*
  have c:(⟨#[111]⟩:ByteArray).size=1:=rfl;have b:(⟨#[59]⟩:ByteArray).size=1:=rfl;omega
theorem El (bits:Int) (r:iw) (s:ByteArray):(AR bits r s).size≤s.size+66*r.trace.length+10:=by
 have a:=jv (s++⟨#[116]⟩) (OR r.trace) (OT _) r.trace.length;unfold AR;split
 ·omega
 ·simp only [aqZ]at*
  have c:(⟨#[116]⟩:ByteArray).size=1:=rfl;have b:(⟨#[59]⟩:ByteArray).size=1:=rfl;omega
theorem IW {F:Nat→Prop} {H H':AH} {φ:Nat→Nat} (S:P.dO ⟨F,H,φ,[]⟩) (X:Ext H H'):P.dO ⟨F,H',φ,[]⟩:=⟨X.wf S.wf,fun x a=>aq3 (S.fz x a) X.nx,fun b c s=>absurd (P.aQ s) (aq6 _),fun b z cs e=>by simp at e,fun b es e=>by simp at e⟩
theorem Su {F:Nat→Prop} {H H':AH} {φ:Nat→Nat} (S:P.dO ⟨F,H,φ,[]⟩) (X:Ext H H') {p:P.PV} {x:Value} (h:P.RF F H p x):P.RF F H' p x:=P.RF.mono X.n0 (fun x a=>⟨a,X.old x (S.fz x a)⟩) h
def VI (H0:AH) (b bx:Nat) (level bits:Int) (s:ByteArray) (fr:Fr) (H:AH):Prop:=Ext H0 H∧H.bs=some (b,s)∧fr.get 0= .int .i64 level∧fr.get 1= .int .i64 bits∧fr.get 5= .pointer (some ⟨bx,0,none⟩)∧fr.get 7= .pointer (some ⟨b,0,none⟩)∧fr.get 8= .func (.func 82) #[] #[.pointer (some ⟨b,0,none⟩)]
structure MO (r:iw):Prop where
 en:tE r.en
 cost:tE r.cost
 outs:∀o∈r.outs,tE o.1∧tE o.2
 trace:∀e∈r.trace,tE e.kind∧tE e.at_∧tE e.val
 lo:r.outs.length≤2^31
 lt:r.trace.length≤2^31
theorem MP {level bits:Int} {r:iw} {F:Nat→Prop} {H:AH} {φ:Nat→Nat} {us uo ut:Value} (S:P.dO ⟨F,H,φ,[]⟩) (ho:P.RF F H (.fs 2 (P.wz r.outs)) uo) (ht:P.RF F H (.fs 3 (P.Sb r.trace)) ut) (k:MO r):
 Ca E O 51 [.int .i64 level,.int .i64 bits,.agg #[.int .i64 r.en,us,uo,ut,.int .i64 r.cost,.int .i64 r.used,.int .i64 r.wh]] H (fun x H'=>x= .string (uQ level bits r)∧Ext H H'):=by
 have Q:H.n0≤H.nx:=S.wf;have WW:Rows H 3 ut (dB r.trace):=P.Ct (by simp [P.Sb,dB,Ev.row,P.pi]) ht;refine Ca.aW (F:=a51) rfl rfl rfl ?_;have X1:=Ext.alloc H (.cells 7 [.int .i64 r.en,us,uo,ut,.int .i64 r.cost,.int .i64 r.used,.int .i64 r.wh]);have d0:(H.alloc (.cells 7 [.int .i64 r.en,us,uo,ut,.int .i64 r.cost,.int .i64 r.used,.int .i64 r.wh])).ld ⟨H.nx,0,none⟩=some (.int .i64 r.en):=aj Q rfl;have d1:(H.alloc (.cells 7 [.int .i64 r.en,us,uo,ut,.int .i64 r.cost,.int .i64 r.used,.int .i64 r.wh])).ld ⟨H.nx,1,none⟩=some us:=aj Q rfl;have d2:(H.alloc (.cells 7 [.int .i64 r.en,us,uo,ut,.int .i64 r.cost,.int .i64 r.used,.int .i64 r.wh])).ld ⟨H.nx,2,none⟩=some uo:=aj Q rfl;have d3:(H.alloc (.cells 7 [.int .i64 r.en,us,uo,ut,.int .i64 r.cost,.int .i64 r.used,.int .i64 r.wh])).ld ⟨H.nx,3,none⟩=some ut:=aj Q rfl;have d4:(H.alloc (.cells 7 [.int .i64 r.en,us,uo,ut,.int .i64 r.cost,.int .i64 r.used,.int .i64 r.wh])).ld ⟨H.nx,4,none⟩=some (.int .i64 r.cost):=aj Q rfl;have d5:(H.alloc (.cells 7 [.int .i64 r.en,us,uo,ut,.int .i64 r.cost,.int .i64 r.used,.int .i64 r.wh])).ld ⟨H.nx,5,none⟩=some (.int .i64 r.used):=aj Q rfl;have d6:(H.alloc (.cells 7 [.int .i64 r.en,us,uo,ut,.int .i64 r.cost,.int .i64 r.used,.int .i64 r.wh])).ld ⟨H.nx,6,none⟩=some (.int .i64 r.wh):=aj Q rfl;have d:(H.alloc (.cells 7 [.int .i64 r.en,us,uo,ut,.int .i64 r.cost,.int .i64 r.used,.int .i64 r.wh])).ldn ⟨H.nx,0,none⟩ 7=some [.int .i64 r.en,us,uo,ut,.int .i64 r.cost,.int .i64 r.used,.int .i64 r.wh]:=bj Q 7 rfl;generalize cF:H.alloc (.cells 7 [.int .i64 r.en,us,uo,ut,.int .i64 r.cost,.int .i64 r.used,.int .i64 r.wh])=C at X1 d0 d1 d2 d3 d4 d5 d6 d;have bD:=X1.wf Q;have XB:=Ext.oA C;have hbB:(AN C).bs=some (C.nx,.empty):=rfl;have YN:=k.lo;have ez:ByteArray.empty.size=0:=rfl;have cN:=k.lt;refine sL [.r,.r,.r] (VI C C.nx H.nx level bits .empty) rfl ?_ ?_
 case refine_2=>
  intro rest A;simp (maxSteps:=9^7)-implicitDefEqProofs+contextual [-X.ev,a51,cF,Ss];refine A _ _ ⟨XB,hbB,by simp,by simp,by simp,by simp,by simp⟩
 generalize C.nx=b;rintro j W ⟨o,w,m,s,g,f,p⟩;refine sL [.r] (VI C b H.nx level bits (AP bits r .empty)) rfl ?_ ?_
 case refine_2=>
  intro rest A;have D:=CK bits 8;have l0:=o.ld d0;have hd:=kA r.en;by_cases h:wK bits 8=0
  ·simp (maxSteps:=9^7)-implicitDefEqProofs+contextual [-X.ev,a51,m,s,g,f,p,D,h]
   exact A _ _ ⟨o,by rw [AP,if_pos h];exact w,by simp [m],by simp [s],by simp [g],by simp [f],by simp [p]⟩
  ·simp (maxSteps:=9^7)-implicitDefEqProofs+contextual [-X.ev,a51,m,s,g,f,p,D,h,l0]
   apply ah
   ·(simp-implicitDefEqProofs [-X.ev,g,f];rfl)
   refine (wJ k.en).mono ?_;rintro x H3 ⟨rfl,rfl⟩;have c1:=CL (a:=⟨#[101]⟩) (b:=nj r.en) (by show 1+_≤_;omega);have c2:=CL (a:=⟨#[101]⟩++nj r.en) (b:=⟨#[59]⟩) (by rw [aqZ];show 1+_+1≤_;omega);simp (maxSteps:=9^7)-implicitDefEqProofs+contextual [-X.ev,g,f,c1,c2];apply ah
   ·(simp-implicitDefEqProofs [-X.ev,g,f];rfl)
   refine (ic (t:=⟨#[101]⟩++nj r.en++⟨#[59]⟩) w (by simp only [aqZ];show 0+(1+_+1)≤_;omega)).mono ?_;rintro x H4 ⟨X4,M⟩;simp (maxSteps:=9^7)-implicitDefEqProofs+contextual [-X.ev];exact A _ _ ⟨o.trans X4,by rw [AP,if_neg h];exact M,by simp [m],by simp [s],by simp [g],by simp [f],by simp [p]⟩
 clear o w m s g f p j W;have z1:=Ej bits r .empty;generalize hE1:AP bits r .empty=s1 at z1⊢;rintro j W ⟨o,w,m,s,g,f,p⟩;refine sL [.r] (VI C b H.nx level bits (AQ level bits r s1)) rfl ?_ ?_
 case refine_2=>
  intro rest A;have D:=CK bits 1;have jS:=o.wf bD;by_cases h:wK bits 1=0
  ·simp (maxSteps:=9^7)-implicitDefEqProofs+contextual [-X.ev,a51,m,s,g,f,p,D,h]
   exact A _ _ ⟨o,by rw [AQ,if_pos h];exact w,by simp [m],by simp [s],by simp [g],by simp [f],by simp [p]⟩
  ·simp (maxSteps:=9^7)-implicitDefEqProofs+contextual [-X.ev,a51,m,s,g,f,p,D,h]
   apply ah
   ·(simp-implicitDefEqProofs [-X.ev,g,f];rfl)
   refine (ic (t:=⟨#[111]⟩) w (by show _+1≤_;omega)).mono ?_;rintro x H3 ⟨X3,tN⟩;have l2:=(o.trans X3).ld d2;have zX:=X1.trans (o.trans X3);simp (maxSteps:=9^7)-implicitDefEqProofs+contextual [-X.ev,m,g,l2];apply ah
   ·(simp-implicitDefEqProofs [-X.ev,m,g];rfl)
   refine (MN (level:=level) (IW S zX) (Su S zX ho) (by omega)).mono ?_;rintro x H4 ⟨⟨X4,fx⟩,M⟩;rw [tN]at M
   obtain ⟨T,hT⟩:∃T,fD level r.outs=T:=⟨_,rfl⟩
   have htl:T.length≤r.outs.length:=hT▸P.tG;rw [hT]at fx;have hX:Ext C H4:=(o.trans X3).trans X4;obtain ⟨xa,xc,Y⟩:=fx.len;have v:(cY T).length=(T).length:=by simp [cY]
   rw [v]at Y;simp (maxSteps:=9^7)-implicitDefEqProofs+contextual [-X.ev,g,f,Y];generalize Df:s1++⟨#[111]⟩=L at M;have aoV:L.size≤s1.size+1:=by rw [←Df,aqZ];exact aqK _
   have Z:H4.n0≤H4.nx:=hX.wf bD;refine cm (fun k j H'=>Ext H4 H'∧∃i:Nat,i+k=(T).length∧H'.bs=some (b,ju L (yT T) i)∧j.get 0= .int .i64 level∧j.get 1= .int .i64 bits∧j.get 5= .pointer (some ⟨H.nx,0,none⟩)∧j.get 7= .pointer (some ⟨b,0,none⟩)∧j.get 8= .func (.func 82) #[] #[.pointer (some ⟨b,0,none⟩)]∧j.get 30=x∧j.get 31= .int .i64 (T).length∧j.get 32= .int .i64 i) ?_ (T).length ⟨Ext.refl _,0,by simp,by simpa [ju]using M,by simp [m],by simp [s],by simp [g],by simp [f],by simp [p],by simp [Y],by simp,by simp⟩;rintro kk eZ N ⟨R,i,hi,wT,g0,g1,J,I,G,B,gn,gi⟩;have qP:=R.wf Z;have iu:=jv L (yT T) (IV _) i;by_cases IX:i<(T).length
   ·obtain ⟨e,V⟩:∃e,(T)[i]?=some e:=⟨_,aqG IX⟩
    have hem:e∈r.outs:=by rw [←hT]at V;exact (List.mem_filter.1 (aqL V)).1
    obtain ⟨b1,o1,c1,wQ,bL⟩:=(fx.ext R).at (r:=[.int .i64 e.1,.int .i64 e.2]) (by rw [cY,ara,V];rfl);rw [v]at wQ;rw [wQ]at B;obtain ⟨u,Lk,K,QB,QC,q,U⟩:=dZ (H:=N) qP (z:=2) (c:=[.int .i64 0,.int .i64 0]) (vs:=[.int .i64 e.1,.int .i64 e.2]) rfl;have q0:u.ld ⟨N.nx,0,none⟩=some (.int .i64 e.1):=U 0 _ rfl;have q1:u.ld ⟨N.nx,1,none⟩=some (.int .i64 e.2):=U 1 _ rfl;clear U;replace q:u.ldn ⟨N.nx,0,none⟩ 2=some [.int .i64 e.1,.int .i64 e.2]:=q;have Gw:=K.wf qP;have Gx:=(CG Lk).trans wT;have DF:=K.wf qP;have lR:ng 2 1 [.int .i64 0,.int .i64 0] u [(0,1,.int .i64 e.1),(1,1,.int .i64 e.2)]=some (.slice (some ⟨u.nx,0,none⟩) 2 2,u.alloc (.cells 1 [.int .i64 e.1,.int .i64 e.2])):=rfl;have X7:=Ext.alloc u (.cells 1 [.int .i64 e.1,.int .i64 e.2]);have xX:=OQ (l:=[e.1,e.2]) DF;have GD:(u.alloc (.cells 1 [.int .i64 e.1,.int .i64 e.2])).bs=some (b,ju L (yT T) i):=Gx;simp only [List.map_cons,List.map_nil,List.length_cons,List.length_nil,Nat.zero_add]at xX;generalize u.alloc (.cells 1 [.int .i64 e.1,.int .i64 e.2])=H7 at lR X7 xX GD;simp (maxSteps:=9^7)-implicitDefEqProofs+contextual [-X.ev,J,I,G,B,gn,gi,IX,bL,Lk,q0,q1,lR];apply kh
    ·(simp-implicitDefEqProofs [-X.ev,-Value.func.injEq,G,B];rfl)
    ·(simp-implicitDefEqProofs [-X.ev,G,B];rfl)
    refine (CI (X7.wf DF) xX (by simp) (by intro n hn;simp only [aqY,arh,or_false]at hn;have:=k.outs e hem;rcases hn with rfl|rfl<;>simp [this]) GD (by omega)).mono ?_;rintro y H8 ⟨X8,VY⟩;simp (maxSteps:=9^7)-implicitDefEqProofs+contextual [-X.ev,gn,gi];refine ⟨kk- 1,by omega,((R.trans K).trans X7).trans X8,i+1,by omega,?_,g0,g1,J,I,G,B.trans wQ.symm,ai ⟨by omega,by omega⟩⟩;rw [VY,ju,List.getD_eq_getElem?_getD,yT,ara,V];rfl
   ·obtain rfl:i=(T).length:=by omega
    simp (maxSteps:=9^7)-implicitDefEqProofs+contextual [-X.ev,J,I,B,gn,gi];apply ah
    ·(simp-implicitDefEqProofs [-X.ev,J,I];rfl)
    refine (ic (t:=⟨#[59]⟩) wT (by show _+1≤_;omega)).mono ?_;rintro y u ⟨K,Gx⟩;simp (maxSteps:=9^7)-implicitDefEqProofs+contextual [-X.ev];exact A _ _ ⟨(hX.trans R).trans K,by rw [AQ,if_neg h,hT,Df];exact Gx,by simp [g0],by simp [g1],by simp [J],by simp [I],by simp [G]⟩
 clear o w m s g f p j W;have z2:=Ek level bits r s1;generalize hE2:AQ level bits r s1=L at z2⊢;rintro j W ⟨o,w,m,s,g,f,p⟩;refine sL [.r] (VI C b H.nx level bits (AR bits r L)) rfl ?_ ?_
 case refine_2=>
  intro rest A;have D:=CK bits 2;have jS:=o.wf bD;by_cases h:wK bits 2=0
  ·simp (maxSteps:=9^7)-implicitDefEqProofs+contextual [-X.ev,a51,m,s,g,f,p,D,h]
   exact A _ _ ⟨o,by rw [AR,if_pos h];exact w,by simp [m],by simp [s],by simp [g],by simp [f],by simp [p]⟩
  ·simp (maxSteps:=9^7)-implicitDefEqProofs+contextual [-X.ev,a51,m,s,g,f,p,D,h]
   apply ah
   ·(simp-implicitDefEqProofs [-X.ev,g,f];rfl)
   refine (ic (t:=⟨#[116]⟩) w (by show _+1≤_;omega)).mono ?_;rintro x H3 ⟨X3,tN⟩;have l2:=(o.trans X3).ld d3;have zX:=X1.trans (o.trans X3);have fx:=WW.ext zX
   obtain ⟨x,hx0⟩:∃x,ut=x:=⟨_,rfl⟩
   rw [hx0]at l2 fx
   obtain ⟨H4,hH4⟩:∃H4,H3=H4:=⟨_,rfl⟩
   subst hH4;have M:=tN;have hX:Ext C H3:=o.trans X3;obtain ⟨xa,xc,Y⟩:=fx.len;have v:(dB r.trace).length=(r.trace).length:=by simp [dB]
   rw [v]at Y;simp (maxSteps:=9^7)-implicitDefEqProofs+contextual [-X.ev,l2,g,f,Y];generalize hs9:L++⟨#[116]⟩=s9 at M;have aoX:s9.size≤L.size+1:=by rw [←hs9,aqZ];exact aqK _
   have Z:H3.n0≤H3.nx:=hX.wf bD;refine cm (fun k j H'=>Ext H3 H'∧∃i:Nat,i+k=(r.trace).length∧H'.bs=some (b,ju s9 (OR r.trace) i)∧j.get 0= .int .i64 level∧j.get 1= .int .i64 bits∧j.get 5= .pointer (some ⟨H.nx,0,none⟩)∧j.get 7= .pointer (some ⟨b,0,none⟩)∧j.get 8= .func (.func 82) #[] #[.pointer (some ⟨b,0,none⟩)]∧j.get 50=x∧j.get 51= .int .i64 (r.trace).length∧j.get 52= .int .i64 i) ?_ (r.trace).length ⟨Ext.refl _,0,by simp,by simpa [ju]using M,by simp [m],by simp [s],by simp [g],by simp [f],by simp [p],by simp [Y],by simp,by simp⟩;rintro kk eZ N ⟨R,i,hi,wT,g0,g1,J,I,G,B,gn,gi⟩;have qP:=R.wf Z;have iu:=jv s9 (OR r.trace) (OT _) i;by_cases IX:i<(r.trace).length
   ·obtain ⟨e,V⟩:∃e,(r.trace)[i]?=some e:=⟨_,aqG IX⟩
    have hem:e∈r.trace:=aqL V;obtain ⟨b1,o1,c1,wQ,bL⟩:=(fx.ext R).at (r:=[.int .i64 e.kind,.int .i64 e.at_,.int .i64 e.val]) (by rw [dB,ara,V];rfl);rw [v]at wQ;rw [wQ]at B;obtain ⟨u,Lk,K,QB,QC,q,U⟩:=dZ (H:=N) qP (z:=3) (c:=[.int .i64 0,.int .i64 0,.int .i64 0]) (vs:=[.int .i64 e.kind,.int .i64 e.at_,.int .i64 e.val]) rfl;have q0:u.ld ⟨N.nx,0,none⟩=some (.int .i64 e.kind):=U 0 _ rfl;have q1:u.ld ⟨N.nx,1,none⟩=some (.int .i64 e.at_):=U 1 _ rfl;have q2:u.ld ⟨N.nx,2,none⟩=some (.int .i64 e.val):=U 2 _ rfl;clear U;replace q:u.ldn ⟨N.nx,0,none⟩ 3=some [.int .i64 e.kind,.int .i64 e.at_,.int .i64 e.val]:=q;have Gw:=K.wf qP;have Gx:=(CG Lk).trans wT;have DF:=K.wf qP;have lR:ng 3 1 [.int .i64 0,.int .i64 0,.int .i64 0] u [(0,1,.int .i64 e.kind),(1,1,.int .i64 e.at_),(2,1,.int .i64 e.val)]=some (.slice (some ⟨u.nx,0,none⟩) 3 3,u.alloc (.cells 1 [.int .i64 e.kind,.int .i64 e.at_,.int .i64 e.val])):=rfl;have X7:=Ext.alloc u (.cells 1 [.int .i64 e.kind,.int .i64 e.at_,.int .i64 e.val]);have xX:=OQ (l:=[e.kind,e.at_,e.val]) DF;have GD:(u.alloc (.cells 1 [.int .i64 e.kind,.int .i64 e.at_,.int .i64 e.val])).bs=some (b,ju s9 (OR r.trace) i):=Gx;simp only [List.map_cons,List.map_nil,List.length_cons,List.length_nil,Nat.zero_add]at xX;generalize u.alloc (.cells 1 [.int .i64 e.kind,.int .i64 e.at_,.int .i64 e.val])=H7 at lR X7 xX GD;simp (maxSteps:=9^7)-implicitDefEqProofs+contextual [-X.ev,J,I,G,B,gn,gi,IX,bL,Lk,q0,q1,q2,lR];apply kh
    ·(simp-implicitDefEqProofs [-X.ev,-Value.func.injEq,G,B];rfl)
    ·(simp-implicitDefEqProofs [-X.ev,G,B];rfl)
    refine (CI (X7.wf DF) xX (by simp) (by intro n hn;simp only [aqY,arh,or_false]at hn;have:=k.trace e hem;rcases hn with rfl|rfl|rfl<;>simp [this]) GD (by omega)).mono ?_;rintro y H8 ⟨X8,VY⟩;simp (maxSteps:=9^7)-implicitDefEqProofs+contextual [-X.ev,gn,gi];refine ⟨kk- 1,by omega,((R.trans K).trans X7).trans X8,i+1,by omega,?_,g0,g1,J,I,G,B.trans wQ.symm,ai ⟨by omega,by omega⟩⟩;rw [VY,ju,List.getD_eq_getElem?_getD,OR,ara,V];rfl
   ·obtain rfl:i=(r.trace).length:=by omega
    simp (maxSteps:=9^7)-implicitDefEqProofs+contextual [-X.ev,J,I,B,gn,gi];apply ah
    ·(simp-implicitDefEqProofs [-X.ev,J,I];rfl)
    refine (ic (t:=⟨#[59]⟩) wT (by show _+1≤_;omega)).mono ?_;rintro y u ⟨K,Gx⟩;simp (maxSteps:=9^7)-implicitDefEqProofs+contextual [-X.ev];exact A _ _ ⟨(hX.trans R).trans K,by rw [AR,if_neg h,hs9];exact Gx,by simp [g0],by simp [g1],by simp [J],by simp [I],by simp [G]⟩
 clear o w m s g f p j W;have z3:=El bits r L;generalize hE3:AR bits r L=s3 at z3⊢;rintro j W ⟨o,w,m,s,g,f,p⟩;refine sL [.r] (VI C b H.nx level bits (MK bits r s3)) rfl ?_ ?_
 case refine_2=>
  intro rest A;have D:=CK bits 4;have l0:=o.ld d4;have hd:=kA r.cost;by_cases h:wK bits 4=0
  ·simp (maxSteps:=9^7)-implicitDefEqProofs+contextual [-X.ev,a51,m,s,g,f,p,D,h]
   exact A _ _ ⟨o,by rw [MK,if_pos h];exact w,by simp [m],by simp [s],by simp [g],by simp [f],by simp [p]⟩
  ·simp (maxSteps:=9^7)-implicitDefEqProofs+contextual [-X.ev,a51,m,s,g,f,p,D,h,l0]
   apply ah
   ·(simp-implicitDefEqProofs [-X.ev,g,f];rfl)
   refine (wJ k.cost).mono ?_;rintro x H3 ⟨rfl,rfl⟩;have c1:=CL (a:=⟨#[99]⟩) (b:=nj r.cost) (by show 1+_≤_;omega);have c2:=CL (a:=⟨#[99]⟩++nj r.cost) (b:=⟨#[59]⟩) (by rw [aqZ];show 1+_+1≤_;omega);simp (maxSteps:=9^7)-implicitDefEqProofs+contextual [-X.ev,g,f,c1,c2];apply ah
   ·(simp-implicitDefEqProofs [-X.ev,g,f];rfl)
   refine (ic (t:=⟨#[99]⟩++nj r.cost++⟨#[59]⟩) w (by simp only [aqZ];show _+(1+_+1)≤_;omega)).mono ?_;rintro x H4 ⟨X4,M⟩;simp (maxSteps:=9^7)-implicitDefEqProofs+contextual [-X.ev];exact A _ _ ⟨o.trans X4,by rw [MK,if_neg h];exact M,by simp [m],by simp [s],by simp [g],by simp [f],by simp [p]⟩
 clear o w m s g f p j W;rintro j W ⟨o,w,m,s,g,f,p⟩;simp (maxSteps:=9^7)-implicitDefEqProofs+contextual [-X.ev,a51,f];apply ah
 ·(simp-implicitDefEqProofs [-X.ev,f];rfl)
 refine (MI w).mono ?_;rintro x H3 ⟨rfl,rfl⟩;simp (maxSteps:=9^7)-implicitDefEqProofs+contextual [-X.ev];exact ⟨by rw [uQ,hE1,hE2,hE3],X1.trans o⟩
end
namespace P
open Go Go.RowKit
theorem Fz.Yt {f:Nat} {args:List PV} {y:Value} (k:∀F H φ vs,dO ⟨F,H,φ,[]⟩→cL ⟨F,H,φ,[]⟩ args vs→Ca E O f vs H (fun x H'=>x=y∧Ext H H')):Fz E O f args (.v y):=by
 intro F H φ vs S d;refine (k F H φ vs S d).mono ?_;rintro x H' ⟨rfl,X⟩
 have T:dH 0 qj ⟨F,H,φ,[]⟩ ⟨F,H',φ,[]⟩:=⟨X.n0,X.nx,fun x c=>⟨c,X.old x (S.fz x c)⟩,fun _ _ _ h=>h,fun x c _=>X.old x c,fun b a=>absurd (aQ a) (aq6 _),fun _=>aqK _,fun b a=>absurd a (aq6 _),fun b a=>absurd a (aq6 _),fun b a=>absurd a (aq6 _)⟩
 exact ⟨_,[],F,φ,⟨rfl,rfl,rfl⟩,.v _,IW S X,T⟩
theorem Sv {level bits:Int} {r:iw} (k:MO r):Fz E O 51 [pi level,pi bits,.agg (kY r)] (.v (.string (uQ level bits r))):=
 Fz.Yt fun F H l i S f=>by
  cases f with|cons a f=>
  cases f with|cons b f=>
  cases f with|cons c f=>
  cases f;cases a;cases b;obtain ⟨cs,rfl,h⟩:=tv (by simp [kY,rL]) c
  cases h with|cons a h=>
  cases h with|cons i h=>
  cases h with|cons j h=>
  cases h with|cons g h=>
  cases h with|cons b h=>
  cases h with|cons d h=>
  cases h with|cons e h=>
  cases h;cases a;cases b;cases d;cases e;exact MP S j g k
theorem Sw {level bits:Int} {r:iw} (k:MO r) (d:0≤level∧level≤15) (e:0≤bits∧bits≤15):Fz E O 21 [pi level,pi bits,.agg (kY r)] (.fF [.v (.string (uQ level bits r)),pi 0]):=by
 refine Fz.body (F:=a21) rfl rfl rfl (by simp) ?_;have c:¬ level<0:=by omega
 have h2:¬ 15<level:=by omega
 have b:¬ bits<0:=by omega
 have a:¬ 15<bits:=by omega
 simp (maxSteps:=9^7)-implicitDefEqProofs [-getElem?_pos,aqF,a21,kY,c,h2,b,a];refine bP (Sv (level:=level) (bits:=bits) k) ?_ ?_ ?_
 iterate 2· simp (maxDischargeDepth:=8)-implicitDefEqProofs [-getElem?_pos,aqF,kY]
 simp (maxSteps:=9^7)-implicitDefEqProofs [-getElem?_pos,aqF]
theorem Sx {v c:Int}:Fz E O 65 [pi v,pi c] (.agg (dw (.mk 1 v c []))):=by
 refine mf.body (F:=Zn) rfl rfl rfl ?_;simp (maxSteps:=9^7)-implicitDefEqProofs+contextual [-getElem?_pos,aqF,Zn,dw,bV];refine dD ?_;simp
theorem MQ {n:Int}:Fz E O 67 [pi n] (.agg (dw (.mk 0 n 0 []))):=by
 refine mf.body (F:=Zp) rfl rfl rfl ?_;simp (maxSteps:=9^7)-implicitDefEqProofs+contextual [-getElem?_pos,aqF,Zp,dw,bV];refine dD ?_;simp
theorem Yu {op:Int} {l:List bQ}:Fz E O 66 [pi op,.fs 4 (bV l)] (.agg (dw (.mk op 0 0 l))):=by
 refine mf.body (F:=Zo) rfl rfl rfl ?_;simp (maxSteps:=9^7)-implicitDefEqProofs+contextual [-getElem?_pos,aqF,Zo,dw,bV];refine dD ?_;simp
def AS:Option PB→List PV
 |some (.cells _ cs)=>cs
 |_=>[]
def OU (sz:Nat):Option PB→Bool
 |some (.cells z cs)=>decide (z=sz)
 |_=>false
theorem CM {A:Nat→Prop} {h:PH}:∀{ps a:List PV},Eb A h ps a→ps.length=a.length
 |[],[],_=>rfl
 |p::ps,q::a,k=>by simp [CM k.2]
 |[],q::a,k=>k.elim
 |p::ps,[],k=>k.elim
theorem tH {A:Nat→Prop} {h:PH} {sz b n:Nat} {rows:List (List PV)} (k:A b) (c:OU sz h[b]?=true) (i:0<sz) (g:rows.length=n) (f:∀r∈rows,r.length=sz) (d:Eb A h (AS h[b]?) rows.flatten):Vz A h (.sl sz b 0 n n) (.fs sz rows)↔True:=⟨fun _=>trivial,fun _=>by
 unfold OU at c;split at c
 case h_2=>cases c
 rename_i z cs e;simp only [aqS]at c;subst c;rw [e]at d
 have m:rows.flatten.length=n*z:=by
  rw [←g];clear d g
  induction rows with
  |nil=>simp
  |cons r l ih=>simp [f r (by simp),ih fun x j=>f x (by simp [j]),Nat.succ_mul];omega
 have a:cs.length=n*z:=by
  exact (CM d).trans m
 refine Oy k e (by simp [a]) i (aqK _) (aqK _) g f ?_;simp only [Nat.zero_mul,List.drop_zero];rw [aqN (by omega)]
 exact d⟩
theorem mr {A:Nat→Prop} {a:Nat→Nat} {h j:PH} {sz b n:Nat} {rows:List (List PV)} (i:A b) (g:OU sz h[b]?=true) (c:0<sz) (f:rows.length=n) (e:∀r∈rows,r.length=sz) (d:Eb A h (AS h[b]?) rows.flatten):Vg A a h j (.sl sz b 0 n n) (.fs sz rows)↔True:=⟨fun _=>trivial,fun _=>wk ((tH i g c f e d).2 trivial)⟩
def CN:bh:=.mk 4 0 [] [] []
def Sy:bQ:=.mk 13 0 0 [.mk 1 0 0 [],.mk 0 1 0 []]
def om:bC:=⟨1,[⟨⟨#[104]⟩,1,1⟩],[CN,.mk 1 0 [Sy] [CN] []]⟩
theorem Yv:Fz E O 36 [] (.agg (aI om)):=by
 refine mf.body (F:=Zd) rfl rfl rfl ?_;simp (maxSteps:=9^7)-implicitDefEqProofs+contextual [-getElem?_pos,aqF,Zd];refine bP (Sx (v:=0) (c:=0)) ?_ ?_ ?_
 iterate 2· simp (maxDischargeDepth:=8)-implicitDefEqProofs [-getElem?_pos,aqF]
 simp (maxSteps:=9^7)-implicitDefEqProofs+contextual [-getElem?_pos,aqF,dw,bV];refine bP (MQ (n:=1)) ?_ ?_ ?_
 iterate 2· simp (maxDischargeDepth:=8)-implicitDefEqProofs [-getElem?_pos,aqF]
 simp (maxSteps:=9^7)-implicitDefEqProofs+contextual [-getElem?_pos,aqF,dw,bV];refine qn [5] (Yu (op:=13) (l:=[.mk 1 0 0 [],.mk 0 1 0 []])) ?_ ?_
 ·simp (maxDischargeDepth:=8)-implicitDefEqProofs [-getElem?_pos,aqF,dw,bV,mr,OU,AS]
 simp (maxSteps:=9^7)-implicitDefEqProofs+contextual [-getElem?_pos,aqF,dw,bV,cG];refine dD ?_;simp (maxDischargeDepth:=12)-implicitDefEqProofs [aI,om,Sy,CN,iz,bW,dw,bV,gk,ni,mr,tH,OU,AS,qj]
open Go Go.RowKit
def MR (c:fH):Prop:=0≤c.en∧c.en≤4
theorem MS {p:bC} {ps:List Int} {c:fH} (h:MR c):MR (dV p ps c):=by
 unfold dV;split
 ·exact h
 split
 ·exact h
 split
 ·exact ⟨by simp [eY],by simp [eY]⟩
 ·rename_i k s next _ _
  obtain ⟨op,n,args,a,b⟩:=s;unfold l7
  repeat' split
  all_goals first
   |exact h
   |exact ⟨by simp [eY],by simp [eY]⟩
theorem CO {p:bC} {ps:List Int}:∀(n:Nat) {c:fH},MR c→MR (iterM p ps n c)
 |0,_,h=>h
 |n+1,_,h=>CO n (MS h)
theorem Sz (p:bC) (fuel:Int) (t:gA):0≤(lz p fuel t).en∧(lz p fuel t).en≤4:=by
 unfold lz;split
 ·exact CO _ (c:=kR p fuel t) ⟨by simp [kR],by simp [kR]⟩
 ·exact ⟨by decide,by decide⟩
def bump (a:List Int) (e:Nat):List Int:=a.set e (a.getD e 0+1)
def eM (p:bC) (fuel:Int) (l:List gA):Nat→List Int
 |0=>[0,0,0,0,0]
 |j+1=>bump (eM p fuel l j) (lz p fuel (l.getD j ⟨[],[]⟩)).en.toNat
theorem yU (p:bC) (fuel:Int) (l:List gA):∀j,(eM p fuel l j).length=5
 |0=>rfl
 |j+1=>by simp [eM,bump,yU p fuel l j]
theorem CP (p:bC) (fuel:Int) (l:List gA):∀j,∀x∈eM p fuel l j,0≤x∧x≤j
 |0,x,h=>by simp [eM]at h;subst h;simp
 |j+1,x,h=>by
  have ih:=CP p fuel l j;rcases List.mem_or_eq_of_mem_set h with h|h
  ·have:=ih x h;omega
  ·rw [h,List.getD_eq_getElem?_getD]
   cases a:(eM p fuel l j)[(lz p fuel (l.getD j ⟨[],[]⟩)).en.toNat]? with
   |none=>simp;omega
   |some y=>have:=ih y (aqL a);simp;omega
def OV (p:bC) (fuel:Int):List PV:=
 if cM p fuel≠0 then [.agg [pi 0,pi 0,pi 0,pi 0,pi 0],pi (cM p fuel)]else match jZ p fuel with
  |some l=>[.agg ((eM p fuel l l.length).map pi),pi 0]
  |none=>[.agg [pi 0,pi 0,pi 0,pi 0,pi 0],pi 5]
def NH (p:bC) (c:List Int):PH:=[.cells 3 (aI p),.cells 5 [pi 0,pi 0,pi 0,pi 0,pi 0],.cells 5 (c.map pi)]
def NL (fuel:Int) (e:Int) (l:List gA) (j:Nat):List (Nat×PV):=[(1,pi fuel),(2,.ref 0 0 3),(4,.ref 1 0 5),(7,pi e),(8,.ref 2 0 5),(19,.fs 2 (str l)),(20,pi l.length),(21,pi j)]
def NI (p:bC) (fuel e:Int) (l:List gA) (j:Nat) (fr:PF) (h:PH):Prop:=h=NH p (eM p fuel l j)∧∀t∈NL fuel e l j,fr.get t.1=t.2
theorem IY {p:bC} {fuel e:Int} {l:List gA} {j:Nat}:NI p fuel e l j (PF.uI (NL fuel e l j)) (NH p (eM p fuel l j)):=⟨rfl,fun t a=>by
 simp only [NL,aqY,arh,or_false]at a
 rcases a with rfl|rfl|rfl|rfl|rfl|rfl|rfl|rfl<;>simp [NL]⟩
theorem lb (l:List Int):dE (l.map pi)=true:=by
 induction l with
 |nil=>rfl
 |cons a l ih=>simp [ih]
theorem tI {α:Type} {q:α}:∀{xs:List (Option (List α))} {l:List α},jX xs=some l→q∈l→∃m,some m∈xs∧q∈m
 |[],l,e,h=>by simp [jX]at e;subst e;simp at h
 |x::xs,l,e,h=>by
  simp only [jX]at e
  cases x with
  |none=>simp at e
  |some m=>
   cases a:jX xs with
   |none=>simp [a]at e
   |some b=>
    simp only [a,Option.bind_some,Option.map_some,aqH]at e;subst e;rcases aq0.1 h with h|h
    ·exact ⟨m,by simp,h⟩
    ·obtain ⟨c,d,h2⟩:=tI a h
     exact ⟨c,by simp [d],h2⟩
def okQ (q:List Int):Prop:=∀n∈q,0≤n∧n<256
theorem uR {p:bC} {fuel:Int} {s:List Int} (k:aY p≤256):∀(d:Nat) {ps:List Int} {l:List (List Int)},leaves p fuel s d ps=some l→okQ ps→∀q∈l,q.length≤ps.length+d∧okQ q
 |0,ps,l,e,h,q,b=>by
  rw [leaves]at e;split at e
  ·cases e
  ·cases e;simp at b;subst b;exact ⟨by simp,h⟩
 |d+1,ps,l,e,h,q,b=>by
  rw [leaves]at e;split at e
  ·obtain ⟨m,i,h2⟩:=tI e b
   simp only [ard]at i;obtain ⟨u,c,o⟩:=i;have r:=mm c
   have f:okQ u:=by
    simp only [kids,ard,List.mem_range]at c;obtain ⟨a,t,rfl⟩:=c;intro n j;rcases aq0.1 j with g|g
    ·exact h n g
    ·simp at g;omega
   have:=uR k d o f q h2;exact ⟨by omega,this.2⟩
  ·cases e;simp at b;subst b;exact ⟨by simp,h⟩
theorem SA {p:bC} {fuel:Int} {s:List Int} {most:Nat} {m:List (List Int)} (e:bw p=true) (hs:s.length<2^60) (f:∀n∈s,jR n) (h:ofM p fuel s most=some m):∀t∈qq s m,wu t:=by
 unfold ofM at h
 cases b:jK p fuel s with
 |none=>simp [b]at h
 |some l=>
  simp [b]at h;obtain ⟨_,rfl⟩:=h;intro t c;simp only [qq,ard]at c;obtain ⟨q,d,rfl⟩:=c;have:=uR (qp e) _ b (by intro n a;simp at a) q d;refine ⟨hs,by have:=this.1;simp at this;show q.length<_;omega,f,fun n a=>?_⟩;have:=this.2 n a;exact ⟨by omega,by omega⟩
theorem IZ {p:bC} {fuel:Int} (h:bw p=true):∀{n:Nat} {l:List gA},fy p fuel n=some l→∀t∈l,wu t
 |0,l,e=>by simp [fy]at e;subst e;simp
 |n+1,l,e=>by
  simp only [fy]at e
  cases b:fy p fuel n with
  |none=>simp [b]at e
  |some c=>
   have f:=IZ h b;simp only [b,Option.bind_some]at e
   cases h2:ofM p fuel (e8 p n) (16384- c.length)with
   |none=>simp [h2]at e
   |some m=>
    simp [h2]at e;subst e;intro t a;rcases aq0.1 a with a|a
    ·exact f t a
    ·have:=uP h n
     exact SA h (show(e8 p n).length<2^60 by omega) (fun x d=>yO (qu (qZ h) _ x d)) h2 t a
theorem yV {p:bC} {fuel:Int} (h:bw p=true) {l:List gA} (e:jZ p fuel=some l):(∀t∈l,wu t)∧l.length≤16384:=by
 unfold jZ at e;split at e
 ·exact ⟨IZ h e,wH e⟩
 ·cases e
theorem yW {p:bC} {fuel:Int}:∃x e l,yQ p fuel=[x,pi e]∧(x= .fs 2 (str l)∨(x=iy∧l=[]))∧OV p fuel=[.agg ((eM p fuel l l.length).map pi),pi e]∧(∀t∈l,wu t)∧l.length≤16384:=by
 by_cases a:cM p fuel=0
 case neg=>exact ⟨iy,cM p fuel,[],by simp [yQ,a],.inr ⟨rfl,rfl⟩,by simp [OV,a,eM],by simp,by simp⟩
 have c:bw p=true:=by
  cases h:bw p with
  |true=>rfl
  |false=>simp [cM,h]at a
 cases b:jZ p fuel with
 |none=>exact ⟨iy,5,[],by simp [yQ,a,b],.inr ⟨rfl,rfl⟩,by simp [OV,a,b,eM],by simp,by simp⟩
 |some l=>exact ⟨.fs 2 (str l),0,l,by simp [yQ,a,b],.inl rfl,by simp [OV,a,b],(yV c b).1,(yV c b).2⟩
theorem I0 {c:List Int} {k:Nat} (a:k<c.length):uc (c.map pi) k [pi (c.getD k 0+1)]=(bump c k).map pi:=by
 rw [pF (by simpa using a)];simp [bump]
theorem Fz.nil {f sz:Nat} {args:List PV} {y:PV} (k:Fz E O f args (.fF [iy,y])):Fz E O f args (.fF [.fs sz [],y]):=by
 intro F H e g S n;refine (k F H e g S n).mono ?_;rintro x q ⟨r,p,o,c,⟨rfl,rfl,j⟩,h,m,T⟩;refine ⟨_,[],o,c,⟨rfl,rfl,by simpa using j⟩,?_,m,T⟩
 cases h with|fF a=>
 cases a with|cons a b=>
 cases a;exact .fF (.cons (.fs (.fs (rows:=[]) (rs:=[]) ⟨_,_,rfl,fun i r hi=>by simp at hi⟩ (aqK _) (fun d l=>by cases l) .nil)) b)
theorem MT {p:bC} {fuel:Int} (f:jz p):∃e l,Fz E O 17 [.agg (aI p),pi fuel] (.fF [.fs 2 (str l),pi e])∧(yQ p fuel=[.fs 2 (str l),pi e]∨(yQ p fuel=[iy,pi e]∧l=[]))∧OV p fuel=[.agg ((eM p fuel l l.length).map pi),pi e]∧(∀t∈l,wu t)∧l.length≤16384:=by
 obtain ⟨x,e,l,b,g,h2,c,d⟩:=yW (p:=p) (fuel:=fuel);have a:=CF (fuel:=fuel) f;rw [b]at a;rcases g with rfl|⟨rfl,rfl⟩
 ·exact ⟨e,l,a,.inl b,h2,c,d⟩
 ·exact ⟨e,[],a.nil,.inr ⟨b,rfl⟩,h2,c,d⟩
theorem SE {p:bC} {fuel:Int} (A:jz p):Fz E O 18 [.agg (aI p),pi fuel] (.fF (OV p fuel)):=by
 refine mf.body (F:=Y9) rfl rfl rfl ?_;obtain ⟨e,l,N,_,h2,J,R⟩:=MT (p:=p) (fuel:=fuel) A;rw [h2];simp (maxSteps:=9^7)-implicitDefEqProofs+contextual [-getElem?_pos,aqF,Y9,aI];refine bP (N) ?_ ?_ ?_
 iterate 2· simp (maxDischargeDepth:=8)-implicitDefEqProofs [-getElem?_pos,aqF,aI]
 simp (maxSteps:=9^7)-implicitDefEqProofs+contextual [-getElem?_pos,aqF];refine fT (NI p fuel e l) l.length (dt (h2:=NH p (eM p fuel l 0)) [0,1,2] (NL fuel e l 0) ?_ ?_ ?_ ?_ ?_ ?_) IY ?_
 ·simp [NH,NL,aI,eM]
 iterate 2· simp
 ·intro b m;omega
 iterate 2· simp (maxDischargeDepth:=8)-implicitDefEqProofs [aF,aqF,NH,NL,aI,eM]
 rintro j T h S ⟨rfl,G⟩;simp only [NL,aqY,arh,or_false,forall_eq_or_imp,forall_eq]at G;obtain ⟨r,q,o,n,d,f19,f20,f21⟩:=G;have i:=yU p fuel l j;by_cases x:j<l.length
 ·obtain ⟨t,s⟩:∃t,l[j]?=some t:=⟨_,aqG x⟩
  have Q:=Sz p fuel t;have f:eM p fuel l (j+1)=bump (eM p fuel l j) (lz p fuel t).en.toNat:=by rw [eM,List.getD_eq_getElem?_getD,s];rfl
  have m:=CP p fuel l j;have M:=AB (fuel:=fuel) A (J t (aqL s));have I:IntKind.i64.wrap ((j:Int)+1)=((j+1:Nat):Int):=ai ⟨by omega,by omega⟩
  obtain ⟨k,C⟩:∃k:Nat,(lz p fuel t).en=k:=⟨(lz p fuel t).en.toNat,by omega⟩
  rw [C,Int.toNat_natCast]at f
  obtain ⟨c,H⟩:∃c,eM p fuel l j=c:=⟨_,rfl⟩
  rw [H]at i m f;have a:k<c.length:=by omega
  have D:(c.map pi)[k]?=some (pi (c.getD k 0)):=by simp [aqG a]
  have K:c.getD k 0∈c:=by rw [List.getD_eq_getElem?_getD,aqG a];exact List.getElem_mem _
  have L:=m _ K;have z:IntKind.i64.wrap (c.getD k 0+1)=c.getD k 0+1:=ai ⟨by omega,by omega⟩;have B:=I0 a;have w:k<5:=by omega
  have v:(k:Int)<5:=by omega
  have u:k≤4:=by omega
  obtain ⟨g,y⟩:∃g,c.getD k 0=g:=⟨_,rfl⟩
  rw [y]at D z B;simp (maxSteps:=9^7)-implicitDefEqProofs+contextual [-getElem?_pos,aqF,r,q,o,n,d,f19,f20,f21,x,Cu,s,NH,aI,iA,H];refine bP (M) ?_ ?_ ?_
  iterate 2· simp (maxDischargeDepth:=8)-implicitDefEqProofs [-getElem?_pos,aqF,aI,iA]
  simp (maxSteps:=9^7)-implicitDefEqProofs+contextual [-getElem?_pos,aqF,kY,C,d,w,v,u,D,B,z,f21,I,i];refine .rj x (dt (h2:=NH p (eM p fuel l (j+1))) [0,1,2] (NL fuel e l (j+1)) ?_ ?_ ?_ ?_ ?_ ?_) IY
  ·simp [NH,NL,aI,f,r,q,o,n,d,f19,f20,lb]
  iterate 2· simp
  ·intro b m;omega
  iterate 2· simp (maxDischargeDepth:=8)-implicitDefEqProofs [aF,aqF,NH,NL,aI,f,r,q,o,n,d,f19,f20,lb]
 ·obtain rfl:j=l.length:=by omega
  have P:List.take 5 ((eM p fuel l l.length).map pi)=(eM p fuel l l.length).map pi:=aqN (by simp [i]);simp (maxSteps:=9^7)-implicitDefEqProofs+contextual [-getElem?_pos,aqF,r,q,o,n,d,f19,f20,f21,NH,aI,i,P];refine dD ?_;simp [lb]
end P
namespace P
open Go Go.RowKit
theorem MU:bw om=true:=by decide+kernel
theorem SF:ofM om 9 [0] 16384=some [[0],[1,0],[1,1]]:=by decide+kernel
theorem I3:uQ 1 5 ⟨0,[],[(1,1),(2,1),(0,0)],[],4,0,0⟩=⟨#[111,32,49,58,49,32,48,58,48,59,99,52,59]⟩:=by decide+kernel
def I4:List gA:=[⟨[0],[0]⟩,⟨[0],[1,0]⟩,⟨[0],[1,1]⟩,⟨[1],[0]⟩,⟨[1],[1,0]⟩,⟨[1],[1,1]⟩]
instance:DecidableEq gA:=fun a b=>decidable_of_iff (a.store=b.store∧a.cd=b.cd) (by cases a;cases b;simp)
theorem uS:jZ om 9=some I4:=by decide+kernel
theorem I5:eM om 9 I4 6=[6,0,0,0,0]:=by decide+kernel
theorem AT:jz om:=by
 have d:jR 0:=⟨by decide,by decide⟩
 have a:jR 1:=⟨by decide,by decide⟩
 have c:jR 4:=⟨by decide,by decide⟩
 have i13:jR 13:=⟨by decide,by decide⟩
 refine ⟨a,⟨by decide,?_⟩,?_,by decide⟩
 ·intro v b
  simp only [om,List.mem_singleton]at b;subst b;decide
 ·simp [om,tu,IA,Iz,yF,Sy,CN,d,a,c,i13]
theorem tJ:cM om 9=0:=by simp [cM,MU]
theorem MW:Eg om 9 [0]=[.fs 2 (str (qq [0] [[0],[1,0],[1,1]])),pi 0]:=by
 have h:bB om.w om.vars [0]=true:=by decide+kernel
 simp [Eg,tJ,h,SF,AI]
theorem MY:yQ om 9=[.fs 2 (str I4),pi 0]:=by simp [yQ,tJ,uS]
theorem MZ:OV om 9=[.agg [pi 6,pi 0,pi 0,pi 0,pi 0],pi 0]:=by
 simp only [OV,tJ,uS];rw [show I4.length=6 from rfl,I5];rfl
def yX:iw:=⟨0,[],[(1,1),(2,1),(0,0)],[],4,0,0⟩
theorem I6:MO yX:=⟨⟨by decide,by decide⟩,⟨by decide,by decide⟩,by simp [yX,tE],by simp [yX],by decide,by decide⟩
theorem M0:Fz E O 11 [] (pb true):=by
 refine mf.body (F:=Y4) rfl rfl rfl ?_;have d:=ahl (fuel:=9) (s:=[0]) AT (by decide) (by intro n b;simp at b;subst b;exact ⟨by decide,by decide⟩);have f:=CF (fuel:=9) AT;have e:=SE (fuel:=9) AT;rw [MW]at d;rw [MY]at f;rw [MZ]at e;have c:=Sw (level:=1) (bits:=5) I6 (by decide) (by decide);rw [show uQ 1 5 yX=_ from I3]at c
 have g:=Sh (l:=qq [0] [[0],[1,0],[1,1]]) (by
  intro t a;simp [qq]at a
  rcases a with rfl|rfl|rfl<;>exact ⟨by decide,by decide,by simp [jR],by simp [jR]⟩) (by decide)
 simp (maxSteps:=9^7)-implicitDefEqProofs+contextual [-getElem?_pos,aqF,Y4];refine bP (Yv) ?_ ?_ ?_
 iterate 2· simp (maxDischargeDepth:=8)-implicitDefEqProofs [-getElem?_pos,aqF]
 simp (maxSteps:=9^7)-implicitDefEqProofs+contextual [-getElem?_pos,aqF,aI];refine qn [1] (d) ?_ ?_
 ·simp (maxDischargeDepth:=8)-implicitDefEqProofs [-getElem?_pos,aqF,aI,mr,OU,AS]
 simp (maxSteps:=9^7)-implicitDefEqProofs+contextual [-getElem?_pos,aqF,aI,cG];refine bP (f) ?_ ?_ ?_
 iterate 2· simp (maxDischargeDepth:=8)-implicitDefEqProofs [-getElem?_pos,aqF,aI]
 simp (maxSteps:=9^7)-implicitDefEqProofs+contextual [-getElem?_pos,aqF,aI];refine bP (e) ?_ ?_ ?_
 iterate 2· simp (maxDischargeDepth:=8)-implicitDefEqProofs [-getElem?_pos,aqF,aI]
 simp (maxSteps:=9^7)-implicitDefEqProofs+contextual [-getElem?_pos,aqF,aI];refine qn [3] (c) ?_ ?_
 ·simp (maxDischargeDepth:=8)-implicitDefEqProofs [-getElem?_pos,aqF,kY,yX,mr,OU,AS,wz,Sb,ir]
 simp (maxSteps:=9^7)-implicitDefEqProofs+contextual [-getElem?_pos,aqF,cG];refine qn [4,5,6,7,8,9,10] (g) ?_ ?_
 ·simp (maxDischargeDepth:=8)-implicitDefEqProofs [-getElem?_pos,aqF,mr,tH,OU,AS,str,qq,iA,ir]
 have h:I4.length=6:=rfl;simp (maxSteps:=9^7)-implicitDefEqProofs [-getElem?_pos,aqF,cG,h,cw,il];rw [show bN ⟨#[111,32,49,58,49,32,48,58,48,59,99,52,59]⟩ ⟨#[111,32,49,58,49,32,48,58,48,59,99,52,59]⟩=true by decide];refine dD ?_;simp
open Go Go.RowKit
theorem I7 {p:bC} {fuel:Int} (h:cM p fuel=0):bw p=true:=by
 cases a:bw p with
 |true=>rfl
 |false=>simp [cM,a]at h
end P
namespace P
open Go Go.RowKit
theorem q7 {p:bC} {fuel:Int} {s:List Int} (j:bw p=true):∀(d:Nat) {ps:List Int} {l:List (List Int)},leaves p fuel s d ps=some l→(∀n∈ps,isWord p.w n=true)→∀q∈l,q.length≤ps.length+d∧∀n∈q,isWord p.w n=true
 |0,ps,l,e,h,q,b=>by
  rw [leaves]at e;split at e
  ·cases e
  ·cases e;simp at b;subst b;exact ⟨by simp,h⟩
 |d+1,ps,l,e,h,q,b=>by
  rw [leaves]at e;split at e
  ·obtain ⟨m,f,h2⟩:=tI e b
   simp only [ard]at f;obtain ⟨u,g,o⟩:=f;have t:=mm g
   have i:∀n∈u,isWord p.w n=true:=by
    simp only [kids,ard,List.mem_range]at g;obtain ⟨a,v,rfl⟩:=g;intro n k;rcases aq0.1 k with c|c
    ·exact h n c
    ·simp only [List.mem_singleton]at c
     subst c;have r:=qZ j;have f:bA p.w=true:=by simp [bA];omega
     have h2:(a:Int)<2^p.w.toNat:=by
      have c:(aY p:Int)=2^p.w.toNat:=by simp [aY]
      omega
     simp [isWord,f,h2]
   have:=q7 j d o i q h2;exact ⟨by omega,this.2⟩
  ·cases e;simp at b;subst b;exact ⟨by simp,h⟩
theorem Na {p:bC} {fuel:Int} {s:List Int} {most:Nat} {m:List (List Int)} (d:bw p=true) (hs:bB p.w p.vars s=true) (h:ofM p fuel s most=some m):∀t∈qq s m,jg p t=true:=by
 unfold ofM at h
 cases a:jK p fuel s with
 |none=>simp [a]at h
 |some l=>
  simp [a]at h;obtain ⟨_,rfl⟩:=h;intro t b;simp only [qq,ard]at b;obtain ⟨q,c,rfl⟩:=b;have:=q7 d _ a (by intro n e;simp at e) q c;simp only [jg,hs,Bool.true_and,aqJ,aqS,aqW];exact ⟨by have:=this.1;simp at this;exact this,this.2⟩
open Go Go.RowKit
theorem Nb:∀e,Iz e→Fz E O 153 [.agg (dw e),.agg (dw e)] (pb true):=kG fun op n k args ih ok=>by
 have m:=ok.2.2.2.1;refine Fz.body (F:=Kv) rfl rfl rfl rfl ?_;simp (maxSteps:=9^7)-implicitDefEqProofs [-getElem?_pos,aqF,Kv,dw];refine jr (fun i a h=>h=[.cells 4 (dw (.mk op n k args)),.cells 4 (dw (.mk op n k args))]∧a.get 2= .ref 0 0 4∧a.get 3= .ref 1 0 4∧a.get 5=pi i) args.length ?_ ?_
 ·exact ⟨by simp [dw],by simp,by simp,by simp⟩
 rintro i a h hi ⟨rfl,f,d,c⟩;by_cases b:i<args.length
 ·obtain ⟨e,j⟩:∃e,args[i]?=some e:=⟨_,aqG b⟩
  have g:=aqL j;have l:IntKind.i64.wrap ((i:Int)+1)=((i+1:Nat):Int):=ai ⟨by omega,by omega⟩;simp (maxSteps:=9^7)-implicitDefEqProofs [-getElem?_pos,aqF,f,d,c,b,dw,j];refine bP (ih e g (mi ok.2.2.2.2 _ g)) ?_ ?_ ?_
  iterate 2· simp (maxDischargeDepth:=8)-implicitDefEqProofs [-getElem?_pos,aqF]
  simp (maxSteps:=9^7)-implicitDefEqProofs [-getElem?_pos,aqF,c,l];exact .for b ⟨by simp [dw],by simp [f],by simp [d],by simp⟩
 ·obtain rfl:i=args.length:=by omega
  simp (maxSteps:=9^7)-implicitDefEqProofs [-getElem?_pos,aqF,f,d,c,dw]
theorem Nc {l:List bQ} (ok:yF l) (m:l.length<2^60):Fz E O 128 [.fs 4 (bV l),.fs 4 (bV l)] (pb true):=by
 refine Fz.body (F:=Kn) rfl rfl rfl rfl ?_;simp (maxSteps:=9^7)-implicitDefEqProofs [-getElem?_pos,aqF,Kn];refine jr (fun i a h=>h=[]∧a.get 0= .fs 4 (bV l)∧a.get 1= .fs 4 (bV l)∧a.get 5=pi i) l.length ?_ ?_
 ·exact ⟨rfl,by simp,by simp,by simp⟩
 rintro i a h hi ⟨rfl,f,d,c⟩;by_cases b:i<l.length
 ·obtain ⟨e,g⟩:∃e,l[i]?=some e:=⟨_,aqG b⟩
  have k:=aqL g;have j:IntKind.i64.wrap ((i:Int)+1)=((i+1:Nat):Int):=ai ⟨by omega,by omega⟩;simp (maxSteps:=9^7)-implicitDefEqProofs [-getElem?_pos,aqF,f,d,c,b,g];refine bP (Nb e (mi ok _ k)) ?_ ?_ ?_
  iterate 2· simp (maxDischargeDepth:=8)-implicitDefEqProofs [-getElem?_pos,aqF]
  simp (maxSteps:=9^7)-implicitDefEqProofs [-getElem?_pos,aqF,c,j];exact .for b ⟨rfl,by simp [f],by simp [d],by simp⟩
 ·obtain rfl:i=l.length:=by omega
  simp (maxSteps:=9^7)-implicitDefEqProofs [-getElem?_pos,aqF,f,d,c]
theorem mu {l:List bh} (m:l.length<2^60) (ih:∀e∈l,Fz E O 95 [.agg (iz e),.agg (iz e)] (pb true)):Fz E O 61 [.fs 5 (bW l),.fs 5 (bW l)] (pb true):=by
 refine Fz.body (F:=Zl) rfl rfl rfl rfl ?_;simp (maxSteps:=9^7)-implicitDefEqProofs [-getElem?_pos,aqF,Zl];refine jr (fun i a h=>h=[]∧a.get 0= .fs 5 (bW l)∧a.get 1= .fs 5 (bW l)∧a.get 5=pi i) l.length ?_ ?_
 ·exact ⟨rfl,by simp,by simp,by simp⟩
 rintro i a h hi ⟨rfl,f,d,c⟩;by_cases b:i<l.length
 ·obtain ⟨e,g⟩:∃e,l[i]?=some e:=⟨_,aqG b⟩
  have k:=aqL g;have j:IntKind.i64.wrap ((i:Int)+1)=((i+1:Nat):Int):=ai ⟨by omega,by omega⟩;simp (maxSteps:=9^7)-implicitDefEqProofs [-getElem?_pos,aqF,f,d,c,b,g];refine bP (ih e k) ?_ ?_ ?_
  iterate 2· simp (maxDischargeDepth:=8)-implicitDefEqProofs [-getElem?_pos,aqF]
  simp (maxSteps:=9^7)-implicitDefEqProofs [-getElem?_pos,aqF,c,j];exact .for b ⟨rfl,by simp [f],by simp [d],by simp⟩
 ·obtain rfl:i=l.length:=by omega
  simp (maxSteps:=9^7)-implicitDefEqProofs [-getElem?_pos,aqF,f,d,c]
theorem ot:∀(N:Nat) (e:bh),SizeOf.sizeOf e<N→IA e→Fz E O 95 [.agg (iz e),.agg (iz e)] (pb true)
 |0,e,h,_=>absurd h (aq6 _)
 |N+1,.mk op n args m q,h,ok=>by
  simp only [bh.mk.sizeOf_spec]at h;obtain ⟨p,o,i,g,f,d,c,b⟩:=ok;have k:=mu g fun e a=>ot N e (by have:=arb a;omega) (mj c _ a)
  have l:=mu f fun e a=>ot N e (by have:=arb a;omega) (mj b _ a)
  have j:=Nc d i;refine Fz.body (F:=Zz) rfl rfl rfl rfl ?_;simp (maxSteps:=9^7)-implicitDefEqProofs [-getElem?_pos,aqF,Zz,iz];refine bP (j) ?_ ?_ ?_
  iterate 2· simp (maxDischargeDepth:=8)-implicitDefEqProofs [-getElem?_pos,aqF]
  simp (maxSteps:=9^7)-implicitDefEqProofs [-getElem?_pos,aqF];refine bP (k) ?_ ?_ ?_
  iterate 2· simp (maxDischargeDepth:=8)-implicitDefEqProofs [-getElem?_pos,aqF]
  simp (maxSteps:=9^7)-implicitDefEqProofs [-getElem?_pos,aqF];refine bP (l) ?_ ?_ ?_
  iterate 2· simp (maxDischargeDepth:=8)-implicitDefEqProofs [-getElem?_pos,aqF]
  simp (maxSteps:=9^7)-implicitDefEqProofs [-getElem?_pos,aqF]
theorem AU {l:List bh} (ok:tu l) (a:l.length<2^60):Fz E O 61 [.fs 5 (bW l),.fs 5 (bW l)] (pb true):=
 mu a fun e b=>ot _ e (aqV _) (mj ok _ b)
theorem AV {l:List Vr} (k:l.length<2^60):Fz E O 60 [gk l,gk l] (pb true):=by
 refine Fz.body (F:=Zk) rfl rfl rfl rfl ?_;simp (maxSteps:=9^7)-implicitDefEqProofs [-getElem?_pos,aqF,Zk];refine jr (fun i a h=>h=[]∧a.get 0=gk l∧a.get 1=gk l∧a.get 5=pi i) l.length ?_ ?_
 ·exact ⟨rfl,by simp,by simp,by simp⟩
 rintro i a h hi ⟨rfl,d,c,f⟩;by_cases b:i<l.length
 ·obtain ⟨e,j⟩:∃e,l[i]?=some e:=⟨_,aqG b⟩
  have g:IntKind.i64.wrap ((i:Int)+1)=((i+1:Nat):Int):=ai ⟨by omega,by omega⟩;simp (maxSteps:=9^7)-implicitDefEqProofs [-getElem?_pos,aqF,d,c,f,b,j,ni,cw,il,g];exact .for b ⟨rfl,by simp [d],by simp [c],by simp⟩
 ·obtain rfl:i=l.length:=by omega
  simp (maxSteps:=9^7)-implicitDefEqProofs [-getElem?_pos,aqF,d,c,f]
theorem Nd {p:bC} (ok:jz p):Fz E O 28 [.agg (aI p),.agg (aI p)] (pb true):=by
 have a:=AV (l:=p.vars) (by have:=ok.2.1.1;omega);have b:=AU ok.2.2.1 ok.2.2.2;refine Fz.body (F:=a28) rfl rfl rfl rfl ?_;simp (maxSteps:=9^7)-implicitDefEqProofs [-getElem?_pos,aqF,a28,aI];refine bP (a) ?_ ?_ ?_
 iterate 2· simp (maxDischargeDepth:=8)-implicitDefEqProofs [-getElem?_pos,aqF]
 simp (maxSteps:=9^7)-implicitDefEqProofs [-getElem?_pos,aqF];refine bP (b) ?_ ?_ ?_
 iterate 2· simp (maxDischargeDepth:=8)-implicitDefEqProofs [-getElem?_pos,aqF]
 simp (maxSteps:=9^7)-implicitDefEqProofs [-getElem?_pos,aqF]
def fl (R:List (List PV)):List PV:=R.flatten
theorem rN (R:List (List PV)) (r:List PV):fl (R++[r])=fl R++r:=by simp [fl]
@[simp]theorem ahu:fl []=[]:=rfl
theorem kB {sz:Nat}:∀{R:List (List PV)},(∀r∈R,r.length=sz)→(fl R).length=R.length*sz
 |[],_=>by simp [fl]
 |r::R,h=>by
  have:=kB (R:=R) fun x a=>h x (by simp [a])
  simp only [fl,List.flatten_cons,aqP,List.length_cons]at*;rw [this,h r (by simp),Nat.succ_mul];omega
theorem wL:∀{R:List (List PV)},(∀r∈R,r.all rL=true)→(fl R).all rL=true
 |[],_=>rfl
 |r::R,h=>by
  have:=wL (R:=R) fun x a=>h x (by simp [a])
  simp only [fl,List.flatten_cons]at*;rw [List.all_append,this,h r (by simp)];rfl
theorem wM {R:List (List PV)} (h:∀r∈R,r.all rL=true):dE (fl R)=true:=ts (wL h)
theorem I8 {A:Nat→Prop} {a:Nat→Nat} {h i:PH} {sz b n:Nat} {R:List (List PV)} (c:0<sz) (g:∀r∈R,r.length=sz) (h2:∀r∈R,r.all rL=true) (d:R.length=n) (f:A b) (e:h[b]?=some (.cells sz (fl R))):Vg A a h i (.sl sz b 0 n n) (.fs sz R)↔True:=
 ⟨fun _=>trivial,fun _=>d▸wk (pC f e c rfl g (mU (wL h2)))⟩
theorem rO (l:List bQ):∀r∈bV l,r.length=4:=by
 intro r a;rw [eX]at a;obtain ⟨e,_,rfl⟩:=ard.1 a;simp
theorem CQ (l:List bh):∀r∈bW l,r.length=5:=by
 intro r a;rw [eB]at a;obtain ⟨e,_,rfl⟩:=ard.1 a;simp
theorem I9 (e:bQ):(dw e).all rL=true:=by cases e;rfl
theorem Ja (e:bh):(iz e).all rL=true:=by cases e;rfl
theorem rP (l:List bQ):∀r∈bV l,r.all rL=true:=by
 intro r a;rw [eX]at a;obtain ⟨e,_,rfl⟩:=ard.1 a;exact I9 e
theorem CS (l:List bh):∀r∈bW l,r.all rL=true:=by
 intro r a;rw [eB]at a;obtain ⟨e,_,rfl⟩:=ard.1 a;exact Ja e
theorem tK {l:List bQ} {j:Nat} {e:bQ} (h:l[j]?=some e):bV (l.take (j+1))=bV (l.take j)++[dw e]:=by
 rw [aq1,h,eX,eX];simp
theorem AW {l:List bh} {j:Nat} {e:bh} (h:l[j]?=some e):bW (l.take (j+1))=bW (l.take j)++[iz e]:=by
 rw [aq1,h,eB,eB];simp
end P
namespace P
open Go Go.RowKit
theorem tL {l:List bQ} {e:bQ} (h:e∈l):av e≤ar l:=by
 obtain ⟨i,hi⟩:=List.getElem?_of_mem h;have b:=fw hi;have h2:=bO l (i+1);have a:=bO l i;omega
theorem yY {l:List bh} {e:bh} (h:e∈l):bc e≤au l:=by
 obtain ⟨i,hi⟩:=List.getElem?_of_mem h;have b:=dX hi;have h2:=a8 l (i+1);have a:=a8 l i;omega
def CE (op n cp:Int) (args:List bQ) (j:Nat):PH:=[.cells 4 (dw (.mk op n cp args)),.cells 4 [pi 0,pi 0,pi 0,iy],.cells 4 [pi op,pi n,pi cp,.sl 4 3 0 j j],.cells 4 (fl (bV (args.take j)))]
def Jb (j:Nat):List (Nat×PV):=[(1,.ref 0 0 4),(2,.ref 1 0 4),(3,.ref 2 0 4),(4,pi j)]
def CEI (op n cp:Int) (args:List bQ) (j:Nat) (fr:PF) (h:PH):Prop:=h=CE op n cp args j∧∀t∈Jb j,fr.get t.1=t.2
theorem CT {op n cp:Int} {args:List bQ} {j:Nat}:CEI op n cp args j (PF.uI (Jb j)) (CE op n cp args j):=⟨rfl,fun t a=>by
 simp only [Jb,aqY,arh,or_false]at a
 rcases a with rfl|rfl|rfl|rfl<;>simp [Jb]⟩
theorem Nf:∀e,Iz e→av e≤2^20→Fz E O 94 [.agg (dw e)] (.agg (dw e)):=kG fun op n q args ih ok w=>by
 have x:=jk args;rw [av]at w;refine mf.body (F:=Zy) rfl rfl rfl ?_;simp (maxSteps:=9^7)-implicitDefEqProofs+contextual [-getElem?_pos,aqF,Zy,dw];refine fT (CEI op n q args) args.length (dt (h2:=CE op n q args 0) [0,1,2,9] (Jb 0) ?_ ?_ ?_ ?_ ?_ ?_) CT ?_
 ·simp [CE,Jb,dw,bV]
 iterate 2· simp
 ·intro b m;omega
 iterate 2· simp (maxDischargeDepth:=8)-implicitDefEqProofs [aF,aqF,CE,Jb,dw,bV]
 rintro j D h C ⟨rfl,s⟩;simp only [Jb,aqY,arh,or_false,forall_eq_or_imp,forall_eq]at s;obtain ⟨d,c,a,i⟩:=s;have f:(fl (bV (args.take j))).length=j*4:=by rw [kB (rO _)];simp;omega
 have g:=wM (rP (args.take j));by_cases p:j<args.length
 ·obtain ⟨e,l⟩:∃e,args[j]?=some e:=⟨_,aqG p⟩
  have k:=aqL l;have v:=tK l;have u:IntKind.i64.wrap ((j:Int)+1)=((j+1:Nat):Int):=ai ⟨by omega,by omega⟩
  obtain ⟨T,o⟩:∃T,fl (bV (args.take j))=T:=⟨_,rfl⟩
  have r:fl (bV (args.take (j+1)))=T++dw e:=by rw [v,rN,o]
  rw [o]at f g;simp (maxSteps:=9^7)-implicitDefEqProofs+contextual [-getElem?_pos,aqF,d,c,a,i,p,CE,dw,l,o];refine bP (ih e k (mi ok.2.2.2.2 _ k) (by have:=tL k;omega)) ?_ ?_ ?_
  iterate 2· simp (maxDischargeDepth:=8)-implicitDefEqProofs [-getElem?_pos,aqF]
  simp (maxSteps:=9^7)-implicitDefEqProofs+contextual [-getElem?_pos,aqF,d,c,a,i];apply fi
  iterate 9· first|rfl|omega|(simp-implicitDefEqProofs [-getElem?_pos,aqF,f];first|done|rfl|omega)
  simp (maxSteps:=9^7)-implicitDefEqProofs+contextual [-getElem?_pos,aqF,d,c,a,i,u];refine .rj p (dt (h2:=CE op n q args (j+1)) [0,1,2,3] (Jb (j+1)) ?_ ?_ ?_ ?_ ?_ ?_) CT
  ·simp [CE,Jb,dw,r,g,f,d,c,a]
  iterate 2· simp
  ·intro b m;omega
  iterate 2· simp (maxDischargeDepth:=8)-implicitDefEqProofs [aF,aqF,CE,Jb,dw,r,g,f,d,c,a]
 ·obtain rfl:j=args.length:=by omega
  have y:∀{A:Nat→Prop} {t:Nat→Nat} {h B:PH},A 3→h[3]?=some (.cells 4 (fl (bV args)))→Vg A t h B (.sl 4 3 0 args.length args.length) (.fs 4 (bV args)):=fun z m=>(I8 (by decide) (rO _) (rP _) (by simp) z m).2 trivial
  rw [List.take_length]at f g;simp (maxSteps:=9^7)-implicitDefEqProofs+contextual [-getElem?_pos,aqF,d,c,a,i,CE,dw];refine dD ?_;simp (maxDischargeDepth:=8)-implicitDefEqProofs [y]
set_option maxHeartbeats 1000000
open Go Go.RowKit
def JE (l:List bh) (i:Nat):PH:=[.cells 5 (fl (bW (l.take i)))]
def Jc (l:List bh) (i:Nat):List (Nat×PV):=[(0,.fs 5 (bW l)),(3,.sl 5 0 0 i i),(4,pi i)]
def CRI (l:List bh) (i:Nat) (fr:PF) (h:PH):Prop:=h=JE l i∧∀t∈Jc l i,fr.get t.1=t.2
theorem CU {l:List bh} {i:Nat}:CRI l i (PF.uI (Jc l i)) (JE l i):=⟨rfl,fun t a=>by
 simp only [Jc,aqY,arh,or_false]at a
 rcases a with rfl|rfl|rfl<;>simp [Jc]⟩
def JF (l:List bh) (i:Nat) (op n:Int) (args:List bQ) (aB aE:List bh) (k:Nat):PH:=[.cells 5 (fl (bW (l.take i))),.cells 5 [pi op,pi n,.sl 4 2 0 k k,.fs 5 (bW aB),.fs 5 (bW aE)],.cells 4 (fl (bV (args.take k)))]
def Jd (l:List bh) (i k:Nat):List (Nat×PV):=[(0,.fs 5 (bW l)),(3,.sl 5 0 0 i i),(4,pi i),(5,.ref 1 0 5),(6,pi k)]
def CRJ (l:List bh) (i:Nat) (op n:Int) (args:List bQ) (aB aE:List bh) (k:Nat) (fr:PF) (h:PH):Prop:=h=JF l i op n args aB aE k∧∀t∈Jd l i k,fr.get t.1=t.2
theorem CW {l:List bh} {i:Nat} {op n:Int} {args:List bQ} {a c:List bh} {k:Nat}:CRJ l i op n args a c k (PF.uI (Jd l i k)) (JF l i op n args a c k):=⟨rfl,fun t b=>by
 simp only [Jd,aqY,arh,or_false]at b
 rcases b with rfl|rfl|rfl|rfl|rfl<;>simp [Jd]⟩
theorem ox:∀(N:Nat) (l:List bh),SizeOf.sizeOf l<N→tu l→au l≤2^20→Fz E O 59 [.fs 5 (bW l)] (.fs 5 (bW l))
 |0,l,h,_,_=>absurd h (aq6 _)
 |N+1,l,hN,R,qF=>by
  have hal:=ef l;refine mf.body (F:=a59) rfl rfl rfl ?_;simp (maxSteps:=9^7)-implicitDefEqProofs+contextual [-getElem?_pos,aqF,a59];refine fT (CRI l) l.length (dt (h2:=JE l 0) [9] (Jc l 0) ?_ ?_ ?_ ?_ ?_ ?_) CU ?_
  ·simp [JE,Jc,bW]
  iterate 2· simp
  ·intro b j;omega
  iterate 2· simp (maxDischargeDepth:=8)-implicitDefEqProofs [aF,aqF,JE,Jc,bW]
  rintro i fr h hi ⟨rfl,u⟩;simp only [Jc,aqY,arh,or_false,forall_eq_or_imp,forall_eq]at u;obtain ⟨c,d,a⟩:=u;have g:(fl (bW (l.take i))).length=i*5:=by rw [kB (CQ _)];simp;omega
  have m:=wM (CS (l.take i));by_cases z:i<l.length
  case neg=>
   obtain rfl:i=l.length:=by omega
   have C:∀{A:Nat→Prop} {G:Nat→Nat} {h K:PH},A 0→h[0]?=some (.cells 5 (fl (bW l)))→Vg A G h K (.sl 5 0 0 l.length l.length) (.fs 5 (bW l)):=fun y j=>(I8 (by decide) (CQ _) (CS _) (by simp) y j).2 trivial
   simp (maxSteps:=9^7)-implicitDefEqProofs+contextual [-getElem?_pos,aqF,c,d,a,JE];refine dD ?_;simp (maxDischargeDepth:=8)-implicitDefEqProofs [C]
  obtain ⟨e,w⟩:∃e,l[i]?=some e:=⟨_,aqG z⟩
  have J:=aqL w;have Y:=arb J;have Z:=AW w;have H:=mj R e J;have fW:=yY J;obtain ⟨op,n,args,q,s⟩:=e;obtain ⟨o1,o2,o3,o4,o5,W,V,U⟩:=H;rw [bc]at fW;have pa:=a6 args;have pt:=cz q;have pe:=cz s;have pl:=jk args;simp only [bh.mk.sizeOf_spec]at Y;have hT:=ox N q (by omega) V (by omega);have hE:=ox N s (by omega) U (by omega);have Q:IntKind.i64.wrap ((i:Int)+1)=((i+1:Nat):Int):=ai ⟨by omega,by omega⟩
  obtain ⟨S,f⟩:∃S,fl (bW (l.take i))=S:=⟨_,rfl⟩
  rw [f]at g m;simp (maxSteps:=9^7)-implicitDefEqProofs+contextual [-getElem?_pos,aqF,c,d,a,z,JE,w,iz,f];refine bP (hT) ?_ ?_ ?_
  iterate 2· simp (maxDischargeDepth:=8)-implicitDefEqProofs [-getElem?_pos,aqF]
  simp (maxSteps:=9^7)-implicitDefEqProofs+contextual [-getElem?_pos,aqF];refine bP (hE) ?_ ?_ ?_
  iterate 2· simp (maxDischargeDepth:=8)-implicitDefEqProofs [-getElem?_pos,aqF]
  simp (maxSteps:=9^7)-implicitDefEqProofs+contextual [-getElem?_pos,aqF];refine fT (CRJ l i op n args q s) args.length (dt (h2:=JF l i op n args q s 0) [0,1,9] (Jd l i 0) ?_ ?_ ?_ ?_ ?_ ?_) CW ?_
  ·simp [JF,Jd,bV,f,m,g,c,d,a]
  iterate 2· simp
  ·intro b j;omega
  iterate 2· simp (maxDischargeDepth:=8)-implicitDefEqProofs [aF,aqF,JF,Jd,bV,f,m,g,c,d,a]
  clear c d a;rintro k fr h hk ⟨rfl,u⟩;simp only [Jd,aqY,arh,or_false,forall_eq_or_imp,forall_eq]at u;obtain ⟨c,d,a,r,D⟩:=u;have v:(fl (bV (args.take k))).length=k*4:=by rw [kB (rO _)];simp;omega
  have B:=wM (rP (args.take k));by_cases h2:k<args.length
  ·obtain ⟨x,I⟩:∃x,args[k]?=some x:=⟨_,aqG h2⟩
   have t:=aqL I;have X:=tK I;have P:IntKind.i64.wrap ((k:Int)+1)=((k+1:Nat):Int):=ai ⟨by omega,by omega⟩
   obtain ⟨T,p⟩:∃T,fl (bV (args.take k))=T:=⟨_,rfl⟩
   have L:fl (bV (args.take (k+1)))=T++dw x:=by rw [X,rN,p]
   rw [p]at v B;simp (maxSteps:=9^7)-implicitDefEqProofs+contextual [-getElem?_pos,aqF,c,d,a,r,D,z,h2,JF,w,iz,f,p,I];refine bP (Nf x (mi W _ t) (by have:=tL t;omega)) ?_ ?_ ?_
   iterate 2· simp (maxDischargeDepth:=8)-implicitDefEqProofs [-getElem?_pos,aqF]
   simp (maxSteps:=9^7)-implicitDefEqProofs+contextual [-getElem?_pos,aqF,c,d,a,r,D];apply fi
   iterate 9· first|rfl|omega|(simp-implicitDefEqProofs [-getElem?_pos,aqF,v];first|done|rfl|omega)
   simp (maxSteps:=9^7)-implicitDefEqProofs+contextual [-getElem?_pos,aqF,c,d,a,r,D,P];refine .rj h2 (dt (h2:=JF l i op n args q s (k+1)) [0,1,2] (Jd l i (k+1)) ?_ ?_ ?_ ?_ ?_ ?_) CW
   ·simp [JF,Jd,f,L,B,v,m,g,c,d,a,r]
   iterate 2· simp
   ·intro b j;omega
   iterate 2· simp (maxDischargeDepth:=8)-implicitDefEqProofs [aF,aqF,JF,Jd,f,L,B,v,m,g,c,d,a,r]
  ·obtain rfl:k=args.length:=by omega
   rw [List.take_length]at v B;have o:∀{A:Nat→Prop} {h:PH},A 2→h[2]?=some (.cells 4 (fl (bV args)))→Vz A h (.sl 4 2 0 args.length args.length) (.fs 4 (bV args)):=fun y j=>(by simp:(bV args).length=args.length)▸pC y j (by decide) rfl (rO _) (mU (wL (rP _)))
   have C:∀{A:Nat→Prop} {G:Nat→Nat} {h K:PH},A 2→h[2]?=some (.cells 4 (fl (bV args)))→Vg A G h K (.sl 4 2 0 args.length args.length) (.fs 4 (bV args)):=fun y j=>wk (o y j)
   have M:fl (bW (l.take (i+1)))=S++[pi op,pi n,.fs 4 (bV args),.fs 5 (bW q),.fs 5 (bW s)]:=by rw [Z,rN,f];rfl
   simp (maxSteps:=9^7)-implicitDefEqProofs+contextual [-getElem?_pos,aqF,c,d,a,r,D,z,JF,w,iz,f];apply fi
   iterate 9· first|rfl|omega|(simp-implicitDefEqProofs [-getElem?_pos,aqF,g];first|done|rfl|omega)
   simp (maxSteps:=9^7)-implicitDefEqProofs+contextual [-getElem?_pos,aqF,c,a,Q];refine .rj z (nZ (h2:=JE l (i+1)) [2] [0] (Jc l (i+1)) ?_ ?_ ?_ ?_ ?_) CU
   ·simp [JE,Jc,M,o,C,m,g,c,d,a]
   iterate 2· simp
   iterate 2· simp (maxDischargeDepth:=8)-implicitDefEqProofs [aF,aqF,JE,Jc,M,o,C,m,g,c,d,a]
theorem CX (l:List Vr):∀r∈l.map ni,r.length=3:=by
 intro r a;obtain ⟨e,_,rfl⟩:=ard.1 a;rfl
theorem CY (l:List Vr):∀r∈l.map ni,r.all rL=true:=by
 intro r a;obtain ⟨e,_,rfl⟩:=ard.1 a;rfl
theorem AX {l:List Vr} {j:Nat} {e:Vr} (h:l[j]?=some e):(l.take (j+1)).map ni=(l.take j).map ni++[ni e]:=by
 rw [aq1,h];simp
def JG (l:List Vr):List PV:=fl (l.map ni)
def JH (p:bC) (j:Nat):PH:=[.cells 3 (aI p),.cells 3 [pi 0,iy,iy],.cells 3 [pi p.w,.sl 3 3 0 j j,.fs 5 (bW p.body)],.cells 3 (JG (p.vars.take j))]
def Jf (j:Nat):List (Nat×PV):=[(1,.ref 0 0 3),(2,.ref 1 0 3),(3,.ref 2 0 3),(4,pi j)]
def CPI (p:bC) (j:Nat) (fr:PF) (h:PH):Prop:=h=JH p j∧∀t∈Jf j,fr.get t.1=t.2
theorem CZ {p:bC} {j:Nat}:CPI p j (PF.uI (Jf j)) (JH p j):=⟨rfl,fun t a=>by
 simp only [Jf,aqY,arh,or_false]at a
 rcases a with rfl|rfl|rfl|rfl<;>simp [Jf]⟩
theorem Nh {p:bC} (ok:jz p) (y:p.vars.length≤2^20) (t:au p.body≤2^20):Fz E O 26 [.agg (aI p)] (.agg (aI p)):=by
 have v:=ox _ p.body (aqV _) ok.2.2.1 t;refine mf.body (F:=Za) rfl rfl rfl ?_;simp (maxSteps:=9^7)-implicitDefEqProofs+contextual [-getElem?_pos,aqF,Za,aI];refine bP (v) ?_ ?_ ?_
 iterate 2· simp (maxDischargeDepth:=8)-implicitDefEqProofs [-getElem?_pos,aqF]
 simp (maxSteps:=9^7)-implicitDefEqProofs+contextual [-getElem?_pos,aqF];refine fT (CPI p) p.vars.length (dt (h2:=JH p 0) [0,1,2,9] (Jf 0) ?_ ?_ ?_ ?_ ?_ ?_) CZ ?_
 ·simp [JH,Jf,aI,JG]
 iterate 2· simp
 ·intro b i;omega
 iterate 2· simp (maxDischargeDepth:=8)-implicitDefEqProofs [aF,aqF,JH,Jf,aI,JG]
 rintro j B h z ⟨rfl,o⟩;simp only [Jf,aqY,arh,or_false,forall_eq_or_imp,forall_eq]at o;obtain ⟨f,d,c,m⟩:=o;have a:(JG (p.vars.take j)).length=j*3:=by unfold JG;rw [kB (CX _)];simp;omega
 have g:dE (JG (p.vars.take j))=true:=wM (CY (p.vars.take j));by_cases l:j<p.vars.length
 ·obtain ⟨e,q⟩:∃e,p.vars[j]?=some e:=⟨_,aqG l⟩
  have s:IntKind.i64.wrap ((j:Int)+1)=((j+1:Nat):Int):=ai ⟨by omega,by omega⟩
  obtain ⟨T,k⟩:∃T,JG (p.vars.take j)=T:=⟨_,rfl⟩
  have n:JG (p.vars.take (j+1))=T++[ps e.name,pi e.level,pi e.cells]:=by rw [JG,AX q,rN,←k];rfl
  rw [k]at a g;simp (maxSteps:=9^7)-implicitDefEqProofs+contextual [-getElem?_pos,aqF,f,d,c,m,l,JH,aI,q,k,ni];apply fi
  iterate 9· first|rfl|omega|(simp-implicitDefEqProofs [-getElem?_pos,aqF,a];first|done|rfl|omega)
  simp (maxSteps:=9^7)-implicitDefEqProofs+contextual [-getElem?_pos,aqF,f,d,c,m,s];refine .rj l (dt (h2:=JH p (j+1)) [0,1,2,3] (Jf (j+1)) ?_ ?_ ?_ ?_ ?_ ?_) CZ
  ·simp [JH,Jf,aI,n,g,a,f,d,c]
  iterate 2· simp
  ·intro b i;omega
  iterate 2· simp (maxDischargeDepth:=8)-implicitDefEqProofs [aF,aqF,JH,Jf,aI,n,g,a,f,d,c]
 ·obtain rfl:j=p.vars.length:=by omega
  have u:∀{A:Nat→Prop} {r:Nat→Nat} {h x:PH},A 3→h[3]?=some (.cells 3 (JG p.vars))→Vg A r h x (.sl 3 3 0 p.vars.length p.vars.length) (.fs 3 (p.vars.map ni)):=fun w i=>(I8 (by decide) (CX _) (CY _) (by simp) w i).2 trivial
  rw [List.take_length]at a g;simp (maxSteps:=9^7)-implicitDefEqProofs+contextual [-getElem?_pos,aqF,f,d,c,m,JH,aI];refine dD ?_;simp (maxDischargeDepth:=8)-implicitDefEqProofs [u]
end P
namespace P
open Go Go.RowKit
abbrev L2:=List (List Int×List Int)
def oy (pos:List (Nat×Nat)) (R:L2):List PV:=(List.zipWith (fun q r=>[PV.sl 1 q.1 0 r.1.length r.1.length,PV.sl 1 q.2 0 r.2.length r.2.length]) pos R).flatten
def my (pos:List (Nat×Nat)):List Nat:=pos.flatMap fun q=>[q.1,q.2]
structure LP (h:PH) (b:Nat) (pos:List (Nat×Nat)) (R:L2):Prop where
 top:h[b]?=some (.cells 2 (oy pos R))
 len:pos.length=R.length
 nd:(my pos).Nodup
 off:b∉my pos
 Jg:∀(k:Nat) (q:Nat×Nat) (r:List Int×List Int),pos[k]?=some q→R[k]?=some r→h[q.1]?=some (.cells 1 (r.1.map pi))∧h[q.2]?=some (.cells 1 (r.2.map pi))
theorem LP.nil {h:PH} {b:Nat} (a:h[b]?=some (.cells 2 [])):LP h b [] []:=⟨a,rfl,List.nodup_nil,by simp [my],by simp⟩
theorem mY:∀{pos:List (Nat×Nat)} {R:L2},pos.length=R.length→(oy pos R).length=R.length*2
 |[],[],_=>rfl
 |q::pos,r::R,h=>by
  have:=mY (pos:=pos) (R:=R) (by simpa using h);simp only [oy,List.zipWith_cons_cons,List.flatten_cons,aqP,List.length_cons,List.length_nil]at*;omega
 |[],r::R,h=>by simp at h
 |q::pos,[],h=>by simp at h
theorem Jh:∀{pos:List (Nat×Nat)} {R:L2} {k:Nat} {q:Nat×Nat} {r:List Int×List Int},pos[k]?=some q→R[k]?=some r→(oy pos R)[k*2]?=some (.sl 1 q.1 0 r.1.length r.1.length)∧(oy pos R)[k*2+1]?=some (.sl 1 q.2 0 r.2.length r.2.length)
 |[],R,k,q,r,h,_=>by simp at h
 |p::pos,[],k,q,r,_,h=>by simp at h
 |p::pos,s::R,0,q,r,a,h2=>by
  simp at a h2;subst a;subst h2;exact ⟨rfl,rfl⟩
 |p::pos,s::R,k+1,q,r,a,h2=>by
  have:=Jh (pos:=pos) (R:=R) (k:=k) (by simpa using a) (by simpa using h2);rw [show(k+1)*2=k*2+1+1 by omega];exact this
theorem Ji {pos:List (Nat×Nat)} {R:L2} (h:pos.length=R.length) (q:Nat×Nat) (r:List Int×List Int):oy (pos++[q]) (R++[r])=oy pos R++[.sl 1 q.1 0 r.1.length r.1.length,.sl 1 q.2 0 r.2.length r.2.length]:=by
 simp [oy,List.zipWith_append h]
theorem tM:∀{pos:List (Nat×Nat)} {R S:L2},R.map (fun r=>(r.1.length,r.2.length))=S.map (fun r=>(r.1.length,r.2.length))→oy pos R=oy pos S
 |[],R,S,_=>by simp [oy]
 |p::pos,[],[],_=>rfl
 |p::pos,[],s::S,h=>by simp at h
 |p::pos,r::R,[],h=>by simp at h
 |p::pos,r::R,s::S,h=>by
  simp only [List.map_cons,List.cons.injEq,aqO]at h;have:=tM (pos:=pos) h.2;simp only [oy,List.zipWith_cons_cons,List.flatten_cons]at*;rw [this,h.1.1,h.1.2]
theorem gP {pos:List (Nat×Nat)} {k:Nat} {q:Nat×Nat} (h:pos[k]?=some q):q.1∈my pos∧q.2∈my pos:=by
 have:=aqL h;exact ⟨List.mem_flatMap.2 ⟨q,this,by simp⟩,List.mem_flatMap.2 ⟨q,this,by simp⟩⟩
theorem rQ:∀{pos:List (Nat×Nat)},(my pos).Nodup→∀{j k:Nat} {q r:Nat×Nat},pos[j]?=some q→pos[k]?=some r→q.1≠r.2∧(q.1=r.1→j=k)∧(q.2=r.2→j=k)
 |[],_,j,k,q,r,h,_=>by simp at h
 |p::pos,n,j,k,q,r,b,h2=>by
  have a:([p.1,p.2]++my pos).Nodup:=n;rw [List.nodup_append]at a;obtain ⟨i,o,g⟩:=a;have u:p.1≠p.2:=by simp at i;exact i
  have f:∀x∈my pos,p.1≠x:=fun x c=>g p.1 (by simp) x c
  have d:∀x∈my pos,p.2≠x:=fun x c=>g p.2 (by simp) x c
  cases j with
  |zero=>
   simp at b;subst b
   cases k with
   |zero=>simp at h2;subst h2;exact ⟨u,fun _=>rfl,fun _=>rfl⟩
   |succ k=>
    obtain ⟨s,l⟩:=gP (pos:=pos) (k:=k) (by simpa using h2);exact ⟨f _ l,fun e=>absurd e (f _ s),fun e=>absurd e (d _ l)⟩
  |succ j=>
   obtain ⟨m,t⟩:=gP (pos:=pos) (k:=j) (by simpa using b)
   cases k with
   |zero=>
    simp at h2;subst h2;exact ⟨fun e=>d _ m e.symm,fun e=>absurd e.symm (f _ m),fun e=>absurd e.symm (d _ t)⟩
   |succ k=>
    obtain ⟨x,y,z⟩:=rQ o (j:=j) (k:=k) (by simpa using b) (by simpa using h2);exact ⟨x,fun e=>by rw [y e],fun e=>by rw [z e]⟩
theorem LP.at {h:PH} {b:Nat} {pos:List (Nat×Nat)} {R:L2} (L:LP h b pos R) {k:Nat} {r:List Int×List Int} (c:R[k]?=some r):∃q,pos[k]?=some q∧(oy pos R)[k*2]?=some (.sl 1 q.1 0 r.1.length r.1.length)∧(oy pos R)[k*2+1]?=some (.sl 1 q.2 0 r.2.length r.2.length)∧h[q.1]?=some (.cells 1 (r.1.map pi))∧h[q.2]?=some (.cells 1 (r.2.map pi))∧q.1≠b∧q.2≠b∧q.1<h.length∧q.2<h.length:=by
 obtain ⟨q,a⟩:∃q,pos[k]?=some q:=⟨_,aqG (by rw [L.len];exact (aqM.1 c).1)⟩
 obtain ⟨f,d⟩:=L.Jg k q r a c;obtain ⟨i,g⟩:=Jh a c;obtain ⟨l,j⟩:=gP a;exact ⟨q,a,i,g,f,d,fun e=>L.off (e▸l),fun e=>L.off (e▸j),(aqM.1 f).1,(aqM.1 d).1⟩
theorem LP.lt {h:PH} {b:Nat} {pos:List (Nat×Nat)} {R:L2} (L:LP h b pos R):∀x∈my pos,x<h.length:=by
 intro x a;obtain ⟨q,g,a⟩:=List.mem_flatMap.1 a;obtain ⟨k,c⟩:=List.getElem?_of_mem g
 obtain ⟨r,f⟩:∃r,R[k]?=some r:=⟨_,aqG (by rw [←L.len];exact (aqM.1 c).1)⟩
 obtain ⟨e,d⟩:=L.Jg k q r c f;simp at a;rcases a with rfl|rfl
 ·exact (aqM.1 e).1
 ·exact (aqM.1 d).1
theorem LP.nc {h g:PH} {b:Nat} {pos:List (Nat×Nat)} {R:L2} (L:LP h b pos R) (j:g[b]?=h[b]?) (a:∀x∈my pos,g[x]?=h[x]?):LP g b pos R:=
 ⟨by rw [j];exact L.top,L.len,L.nd,L.off,fun k q r c h2=>by
  obtain ⟨i,f⟩:=L.Jg k q r c h2;obtain ⟨e,d⟩:=gP c
  exact ⟨(a _ e).trans i,(a _ d).trans f⟩⟩
theorem LP.new {h g:PH} {b:Nat} {pos:List (Nat×Nat)} {R:L2} (L:LP h b pos R) {q:Nat×Nat} {r:List Int×List Int} (j:∀x∈my pos,g[x]?=h[x]?) (A:g[b]?=some (.cells 2 (oy pos R++[.sl 1 q.1 0 r.1.length r.1.length,.sl 1 q.2 0 r.2.length r.2.length])))
 (B:g[q.1]?=some (.cells 1 (r.1.map pi))) (h2:g[q.2]?=some (.cells 1 (r.2.map pi))) (D:h.length≤q.1) (C:h.length≤q.2) (ne:q.1≠q.2):LP g b (pos++[q]) (R++[r]):=by
 have E:=(aqM.1 L.top).1;have v:=L.lt;have e:my (pos++[q])=my pos++[q.1,q.2]:=by simp [my]
 refine ⟨by rw [Ji L.len];exact A,by simp [L.len],?_,?_,fun k p s a c=>?_⟩
 ·rw [e,List.nodup_append]
  refine ⟨L.nd,by simp [ne],fun x t y d=>?_⟩;have:=v x t;simp at d;rcases d with rfl|rfl<;>omega
 ·rw [e]
  intro u;rcases aq0.1 u with z|z
  ·exact L.off z
  ·simp at z
   rcases z with rfl|rfl<;>omega
 ·by_cases i:k<pos.length
  ·rw [aqT i]at a
   rw [aqT (by rw [←L.len];exact i)]at c;obtain ⟨o,n⟩:=L.Jg k p s a c;obtain ⟨m,l⟩:=gP a;exact ⟨(j _ m).trans o,(j _ l).trans n⟩
  ·have w:=(aqM.1 a).1
   simp at w;have f:k=pos.length:=by omega
   rw [f,aqX (by omega)]at a;rw [f,L.len,aqX (by omega)]at c;simp at a c;subst a;subst c;exact ⟨B,h2⟩
theorem LP.wr1 {h:PH} {b:Nat} {pos:List (Nat×Nat)} {R:L2} (L:LP h b pos R) {k:Nat} {q:Nat×Nat} {r:List Int×List Int} {a:List Int} (c:pos[k]?=some q) (g:R[k]?=some r) (o:a.length=r.1.length):LP (h.set q.1 (.cells 1 (a.map pi))) b pos (R.set k (a,r.2)):=by
 have l:=(aqM.1 g).1;obtain ⟨i,t⟩:=gP c;have n:q.1≠b:=fun e=>L.off (e▸i)
 have m:=L.lt _ i;refine ⟨?_,by simp [L.len],L.nd,L.off,fun j p s f d=>?_⟩
 ·rw [aq4 n,L.top,tM (pos:=pos) (R:=R.set k (a,r.2)) (S:=R)]
  apply List.ext_getElem?;intro j;rw [ara,ara];by_cases z:k=j
  ·subst z
   rw [ari l,g];simp [o]
  ·rw [aq4 z]
 ·obtain ⟨x,y,_⟩:=rQ L.nd c f
  rw [aq4 x];by_cases z:k=j
  ·subst z
   rw [c]at f;cases f;rw [ari l]at d;cases d;rw [ari m];exact ⟨rfl,(L.Jg k q r c g).2⟩
  ·rw [aq4 z]at d
   rw [aq4 (fun e=>z (y e))];exact L.Jg j p s f d
theorem LP.wr2 {h:PH} {b:Nat} {pos:List (Nat×Nat)} {R:L2} (L:LP h b pos R) {k:Nat} {q:Nat×Nat} {r:List Int×List Int} {a:List Int} (c:pos[k]?=some q) (g:R[k]?=some r) (o:a.length=r.2.length):LP (h.set q.2 (.cells 1 (a.map pi))) b pos (R.set k (r.1,a)):=by
 have l:=(aqM.1 g).1;obtain ⟨t,i⟩:=gP c;have n:q.2≠b:=fun e=>L.off (e▸i)
 have m:=L.lt _ i;refine ⟨?_,by simp [L.len],L.nd,L.off,fun j p s d f=>?_⟩
 ·rw [aq4 n,L.top,tM (pos:=pos) (R:=R.set k (r.1,a)) (S:=R)]
  apply List.ext_getElem?;intro j;rw [ara,ara];by_cases z:k=j
  ·subst z
   rw [ari l,g];simp [o]
  ·rw [aq4 z]
 ·obtain ⟨x,_,_⟩:=rQ L.nd d c
  obtain ⟨_,_,y⟩:=rQ L.nd c d;rw [aq4 (Ne.symm x)];by_cases z:k=j
  ·subst z
   rw [c]at d;cases d;rw [ari l]at f;cases f;rw [ari m];exact ⟨(L.Jg k q r c g).1,rfl⟩
  ·rw [aq4 z]at f
   rw [aq4 (fun e=>z (y e))];exact L.Jg j p s d f
open Go Go.RowKit
def JI (g:PH) (K:List Nat) (SC:List PV):PH:=g.mapIdx fun i P=>if i=2 then .cells 1 SC else if i∈K then P else .dead
theorem rR (g:PH) (K:List Nat) (a:List PV) (i:Nat):(JI g K a)[i]?=(g[i]?).map fun P=>if i=2 then .cells 1 a else if i∈K then P else .dead:=by
 simp [JI]
theorem uT {g:PH} {K:List Nat} {a:List PV} {i:Nat} (h:i∈K) (h2:i≠2):(JI g K a)[i]?=g[i]?:=by
 rw [rR]
 cases g[i]? with
 |none=>rfl
 |some P=>simp [h,h2]
theorem OX {g:PH} {K:List Nat} {a:List PV} {P:PB} (h:g[2]?=some P):(JI g K a)[2]?=some (.cells 1 a):=by
 rw [rR,h];simp
theorem C1 {A:Nat→Prop} {h a:PH}:∀{pos:List (Nat×Nat)} {R:L2},(∀(k:Nat) (q:Nat×Nat) (r:List Int×List Int),pos[k]?=some q→R[k]?=some r→Ir h[q.1]? a[q.1]?∧Ir h[q.2]? a[q.2]?)→lA A id h a (oy pos R) (oy pos R)
 |[],_,_=>trivial
 |_::_,[],_=>trivial
 |q::pos,r::R,b=>by
  obtain ⟨d,c⟩:=b 0 q r rfl rfl;have:=C1 (A:=A) (pos:=pos) (R:=R) fun k p s f e=>b (k+1) p s (by simpa using f) (by simpa using e)
  exact ⟨(Iw rfl d).2 trivial,(Iw rfl c).2 trivial,this⟩
theorem SH {A:PF} {g:PH} {pos:List (Nat×Nat)} {R:L2} {m SC':List PV} (Z:List Nat) {l:List (Nat×PV)} {p:bC} (y:g[0]?=some (.cells 3 (aI p))) (L:LP g 1 pos R) (h2:g[2]?=some (.cells 1 m)) (J:0∉my pos) (t:2∉my pos) (G:∀b∈Z,3≤b∧b∉my pos)
 (H:lA (· ∈Z) id g (JI g (0::1::my pos) SC') m SC') (V:pB (· ∈Z) id g (JI g (0::1::my pos) SC') A l):Gh 0 A g (PF.uI l) (JI g (0::1::my pos) SC'):=by
 refine Iv (· ∈Z) id l ⟨fun i P e=>?_,fun i j _ _ _ _ e=>e,fun i hi s C=>?_⟩ V
 ·by_cases f:i=2
  ·subst f
   rw [OX h2]at e;cases e;exact .inr ⟨m,h2,H⟩
  by_cases a:i∈0::1::my pos
  ·rw [uT a f]at e
   simp only [aqY]at a;rcases a with rfl|rfl|a
   ·rw [y]at e
    cases e;exact .inr ⟨_,y,fj (by simp)⟩
   ·rw [L.top]at e
    cases e;refine .inr ⟨_,L.top,C1 fun k q r B I=>?_⟩;obtain ⟨d,c⟩:=L.Jg k q r B I;obtain ⟨v,u⟩:=gP B;rw [uT (by simp [v]) (fun z=>t (z▸v)),uT (by simp [u]) (fun z=>t (z▸u)),d,c];exact ⟨rfl,rfl⟩
   ·obtain ⟨q,E,w⟩:=List.mem_flatMap.1 a
    obtain ⟨k,x⟩:=List.getElem?_of_mem E
    obtain ⟨r,D⟩:∃r,R[k]?=some r:=⟨_,aqG (by rw [←L.len];exact (aqM.1 x).1)⟩
    obtain ⟨d,c⟩:=L.Jg k q r x D;simp at w;rcases w with rfl|rfl
    ·rw [d]at e
     cases e;exact .inr ⟨_,d,fj (lb _)⟩
    ·rw [c]at e
     cases e;exact .inr ⟨_,c,fj (lb _)⟩
  ·rw [rR]at e
   obtain ⟨Q,_,e⟩:=aqQ.1 e;rw [if_neg f,if_neg a]at e;subst e;exact trivial
 ·obtain ⟨o,n⟩:=G _ C
  have e:(JI g (0::1::my pos) SC')[i]?=some .dead:=by
   have F:i<g.length:=by simpa [JI]using hi
   rw [rR,aqG F,Option.map_some,if_neg (by simp at o;omega),if_neg (by simp only [aqY,not_or];simp at o n;exact ⟨by omega,by omega,n⟩)]
  rcases jo s with⟨es,h⟩|⟨z,cs,h,_⟩<;>(rw [e]at h;cases h)
def y3 (p:bC) (fuel:Int) (s:List Int) (most:Nat) (r:PV) (h:PH):Prop:=match ofM p fuel s most with
 |none=>r= .fF [iy,pi 5]
 |some out=>r= .fF [.sl 2 1 0 out.length out.length,pi 0]∧∃pos,LP h 1 pos (out.map fun q=>(s,q))
end P
end Go.Proofs.YtppcmpmnglaleaaGreatDoor.A
