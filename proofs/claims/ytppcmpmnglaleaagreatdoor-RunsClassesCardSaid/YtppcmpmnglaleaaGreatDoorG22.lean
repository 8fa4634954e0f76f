/- Texts that stand one behind the other: U3, U4, U5, U6, U7, U8, V1, V2, V3, V4, V5, V6, U9, V7, V8, V9, V11. -/
import Derived.Test.YtppcmpmnglaleaaGreatDoorG21
import Derived.KernelRfl
set_option linter.unusedVariables false
set_option linter.unusedSimpArgs false
set_option maxRecDepth 10000
namespace Go.Proofs.YtppcmpmnglaleaaGreatDoor.A
namespace P
open Go Go.RowKit
def u9 (l:List (List Int)):List PV:=l.map fun q=>jh q
@[simp]theorem V5 (l:List (List Int)):(u9 l).length=l.length:=by simp [u9]
theorem iW (a b:List (List Int)):u9 (a++b)=u9 a++u9 b:=by simp [u9]
@[simp]theorem P7:∀l:List (List Int),dN (u9 l)=true
 |[]=>rfl
 |a::l=>by
  show dN (jh a::u9 l)=true;rw [rK];exact ⟨rfl,P7 l⟩
@[simp]theorem ae6:u9 []=[]:=rfl
@[simp]theorem abM (a:List Int) (l:List (List Int)):u9 (a::l)=jh a::u9 l:=rfl
@[simp]theorem abN (l:List (List Int)):(u9 l).tail=u9 l.tail:=by cases l<;>rfl
theorem P8 (l:List (List Int)) (i:Nat):(u9 l)[i]?=(l[i]?).map fun q=>jh q:=by simp [u9]
theorem K9 {b:Nat} {h:PH} {x v:PV} {xs ys:List PV} (d:h[b]?=some (.cells 1 (xs++ys))) (c:oI x=some 1) (a:eB h 1 1 x=some [v]) (f:fG h x=true) (g:xs.length<2^40):
 sR 1 24 h (.sl 1 b 0 xs.length (xs.length+ys.length)) x=some (.sl 1 b 0 (xs.length+1) ((xs++[v]).length+(ys.drop 1).length),h.set b (.cells 1 ((xs++[v])++ys.drop 1))):=by
 unfold sR;rw [c];simp only [Nat.one_ne_zero,if_false,a,d];rw [if_pos ⟨trivial,trivial,Nat.one_pos,by simp,by omega,by omega,by omega⟩]
 cases ys with
 |nil=>
  cases xs with
  |nil=>simp
  |cons u us=>simp
 |cons y ys=>
  rw [if_neg (by simp),if_pos (by simp)]
  have e:vQ (xs++y::ys) ((0+xs.length)*1) [v]=xs++[v]++ys:=by
   rw [kT (by simp),Nat.zero_add,Nat.mul_one];simp
  rw [e];simp;omega
@[simp]theorem GP:∀l:List Int,kB (l.map pi)=true
 |[]=>rfl
 |a::l=>by simp [GP l]
theorem EI {A:Nat→Prop} {d:Nat→Nat} {h e:PH}:∀{a b c:List PV},dN a=true→(mC A d h e (a++b) (a++c)↔mC A d h e b c)
 |[],_,_,_=>Iff.rfl
 |p::a,b,c,k=>by
  rw [rK]at k;simp only [List.cons_append,KM,EI k.2];exact ⟨fun q=>q.2,fun q=>⟨uW k.1,q⟩⟩
attribute [simp] EI
theorem rQ {a:PF} {h h2:PH} (Z L:List Nat) (l:List (Nat×PV)) (e:L.length=h2.length) (c:L.Nodup) (d:∀b∈L,b∉Z) (K:kC (· ∈Z) (fun i=>L.getD i 0) h h2 0 h2) (V:rI (· ∈Z) (fun i=>L.getD i 0) h h2 a l):Gh 0 a h (PF.tm l) h2:=
 Ct _ _ l (iU.at L e c d K) V
def isI (o:Option PB) (l:List Int):Prop:=match o with
 |some (.cells z cs)=>z=1∧cs=l.map pi
 |_=>False
@[simp]theorem aov (z:Nat) (cs:List PV) (l:List Int):isI (some (.cells z cs)) l↔z=1∧cs=l.map pi:=Iff.rfl
@[simp]theorem ae7 {A:Nat→Prop} {c:Nat→Nat} {h g:PH} {b n:Nat} {l:List Int} (d:l.length=n) (f:A b) (a:isI h[b]? l):Vg A c h g (.sl 1 b 0 n n) (jh l)↔True:=⟨fun _=>trivial,fun _=>by
 subst d;unfold isI at a;split at a
 ·rename_i z cs e
  obtain ⟨rfl,rfl⟩:=a;exact oL (x8 f e)
 ·exact a.elim⟩
theorem V6 {A:Nat→Prop} {h:PH} {b:Nat} {l:List dW} (c:A b) (a:h[b]?=some (.cells 2 (u7 l))):Vz A h (.sl 2 b 0 l.length l.length) (.fs 2 (str l)):=
 mj c a (by omega) (CP l) (P6 l) (jR (yu l))
@[simp]theorem aln {A:Nat→Prop} {a:Nat→Nat} {h f:PH} {b n:Nat} {l:List dW} (c:l.length=n) (e:A b) (d:h[b]?=some (.cells 2 (u7 l))):Vg A a h f (.sl 2 b 0 n n) (.fs 2 (str l))↔True:=⟨fun _=>trivial,fun _=>c▸oL (V6 e d)⟩
def mn (s:List Int) (l:List (List Int)):List dW:=l.map fun ps=>⟨s,ps⟩
@[simp]theorem ae8 (s:List Int):mn s []=[]:=rfl
@[simp]theorem alo:ir []=[]:=rfl
@[simp]theorem ae9 {A:Nat→Prop} {a:Nat→Nat} {h b:PH}:Vg A a h b (.v (.slice none 0 0)) (jh [])↔True:=⟨fun _=>trivial,fun _=>(Vu 1).2 trivial⟩
@[simp]theorem V7 (s:List Int) (l:List (List Int)):(mn s l).length=l.length:=by simp [mn]
theorem iX (s:List Int) (a b:List (List Int)):mn s (a++b)=mn s a++mn s b:=by simp [mn]
def CS (s:List Int):Option (List (List Int))→List PV
 |some l=>[.fs 2 (str (mn s l)),pi 0]
 |none=>[da,pi 5]
theorem P9 {E:Env} {O:kG} {n:Nat} {Q:Ex→PF→PH→Prop} {a:List Kp} {fr:PF} {m:Mp} {l:List AO} {d:Option Nat} {V:List Nat} {b j c:Nat} {h:PH} {x v:PV} {xs ys:List PV} (p:h[b]?=some (.cells 1 (xs++ys))) (i:j=xs.length) (k:c=xs.length+ys.length) (g:oI x=some 1) (e:eB h 1 1 x=some [v]) (f:fG h x=true) (o:xs.length<2^40)
 (next:PK E O n Q (.ops (m.up V (fr.aT d (.sl 1 b 0 (xs.length+1) ((xs++[v]).length+(ys.drop 1).length))) (h.set b (.cells 1 ((xs++[v])++ys.drop 1)))) l a) (fr.aT d (.sl 1 b 0 (xs.length+1) ((xs++[v]).length+(ys.drop 1).length))) (h.set b (.cells 1 ((xs++[v])++ys.drop 1)))):PO E O n Q (sR 1 24 h (.sl 1 b 0 j c) x) V d m l a fr:=by
 subst i k;rw [K9 p g e f o];exact (abi _ _ _).2 next
def OH (p:aU) (s:List Int) (out q6 junk:List (List Int)):PH:=[.cells 3 (au p),.cells 2 (u7 (mn s out)),.cells 1 (u9 q6++u9 junk)]
def OL (p:aU) (s:List Int) (fuel:Int) (most:Nat) (out q6 junk:List (List Int)):List (Nat×PV):=[(1,pi fuel),(2,jh s),(3,pi most),(4,.ref 0 0 3),(10,.sl 2 1 0 out.length out.length),(11,.sl 1 2 0 q6.length (q6.length+junk.length))]
def OI (p:aU) (s:List Int) (fuel:Int) (most:Nat) (k:Nat) (fr:PF) (h:PH):Prop:=∃out q6 junk,k=oN q6∧wH q6∧out.length≤most∧kU p fuel s=(rest p fuel s q6).map (fun x=>out++x)∧h=OH p s out q6 junk∧∀t∈OL p s fuel most out q6 junk,fr.get t.1=t.2
theorem AD {k n c:Nat} (h:n≤c):bK k c none (some (.int .i64 (n:Int))) none=some (0,n,c):=by
 simp [bK,jj,h]
def WI (p:aU) (s:List Int) (fuel:Int) (most:Nat) (out st:List (List Int)) (q:List Int) (junk:List (List Int)) (j:Nat) (fr:PF) (h:PH):Prop:=
 h=OH p s out (st++(kids p q).reverse.take j) ((q::junk).drop j)∧∀t∈(12,jh q)::(15,pi ((bP p:Int)- 1- j))::OL p s fuel most out (st++(kids p q).reverse.take j) ((q::junk).drop j),fr.get t.1=t.2
theorem La {p:aU} {s:List Int} {fuel:Int} {most:Nat} {out st:List (List Int)} {q:List Int} {junk:List (List Int)} {j:Nat}:
 WI p s fuel most out st q junk j (PF.tm ((12,jh q)::(15,pi ((bP p:Int)- 1- j))::OL p s fuel most out (st++(kids p q).reverse.take j) ((q::junk).drop j))) (OH p s out (st++(kids p q).reverse.take j) ((q::junk).drop j)):=by
 refine ⟨rfl,fun t a=>?_⟩;simp only [OL,avy,avQ,or_false]at a;rcases a with rfl|rfl|rfl|rfl|rfl|rfl|rfl|rfl<;>simp [OL]
theorem CT {p:aU} {s:List Int} {fuel:Int} {most:Nat} {out a junk:List (List Int)} (t:Nat×PV) (b:t∈OL p s fuel most out a junk):(PF.tm (OL p s fuel most out a junk)).get t.1=t.2:=by
 simp only [OL,avy,avQ,or_false]at b;rcases b with rfl|rfl|rfl|rfl|rfl|rfl<;>simp [OL]
theorem abO {p:aU} {s:List Int} {fuel:Int} {most:Nat} (fL:gZ p) (N:bm p=true) (hs:s.length≤2^40) (Sk:∀n∈s,lC n) (hm:most≤16384):
 Fz E O 39 [.agg (au p),pi fuel,jh s,pi most] (.hZ (CS s (ofM p fuel s most))):=by
 refine fM.body (F:=a39) rfl rfl rfl ?_;have L:=pk N;simp (maxSteps:=9^7)-implicitDefEqProofs+contextual [-getElem?_pos,avf,a39,au];refine uS (OI p s fuel most) (oN [[]]) (bX (h2:=OH p s [] [[]] []) [0,9,1] (OL p s fuel most [] [[]] []) ?_ ?_ ?_ ?_ ?_ ?_) ⟨[],[[]],[],rfl,?_,avI _,?_,rfl,?_⟩ ?_
 ·simp [OH,OL,au,u9]
 iterate 2· simp
 ·intro b hb;omega
 iterate 2· simp (maxDischargeDepth:=8)-implicitDefEqProofs [aj,avf,OH,OL,au,u9]
 ·intro i q h
  cases i with
  |zero=>simp at h;subst h;simp
  |succ i=>simp at h
 ·cases h:under p fuel s []<;>simp [rest,hY,kU,h]
 ·exact CT
 rintro k fr h ⟨out,q6,junk,rfl,z,P,r,rfl,y⟩;simp only [OL,avy,avQ,or_false,forall_eq_or_imp,forall_eq]at y;obtain ⟨g,d,c,f,f10,f11⟩:=y;have t:=GM z;rcases List.eq_nil_or_concat q6 with rfl|⟨st,q,rfl⟩
 ·
  have e:ofM p fuel s most=some out:=by
   unfold ofM;rw [r];simp [rest,hY,P]
  rw [e];simp (maxSteps:=9^7)-implicitDefEqProofs+contextual [-getElem?_pos,avf,g,d,c,f,f10,f11,OH];refine ⟨_,_,bW ?_,rfl,rfl,by simp [CS]⟩;simp (maxDischargeDepth:=8)-implicitDefEqProofs [CS]
 rw [List.concat_eq_append]at*;have M:=z st.length q (by simp);have hql:=M.2.1;simp only [avp,List.length_singleton]at t;have Z:IntKind.i64.wrap (st.length:Int)=st.length:=ai ⟨by omega,by omega⟩
 obtain ⟨T,R⟩:∃T:dW,T=⟨s,q⟩:=⟨_,rfl⟩
 have CB:CB T:=by subst R;exact ⟨by show s.length<_;omega,by show q.length<_;omega,Sk,fun n hn=>by have:=M.2.2 n hn;exact ⟨by omega,by omega⟩⟩
 have hg:(u9 (st++[q])++u9 junk)[st.length]?=some (jh q):=by rw [avt (by simp),P8];simp
 have ab:bK (st.length+1) (st.length+1+junk.length) none (some (.int .i64 (st.length:Int))) none=some (0,st.length,st.length+1+junk.length):=AD (by omega);have c1:0<st.length+1+junk.length∧(st.length:Int)<st.length+1:=by omega
 have c2:st.length≤st.length+1+junk.length:=by omega
 have B:st.length+(junk.length+1)=st.length+1+junk.length:=by omega
 simp (maxSteps:=9^7)-implicitDefEqProofs+contextual [-getElem?_pos,avf,g,d,c,f,f10,f11,OH,Z,hg,ab,c1,c2];subst R;refine aF (CJ (fuel:=fuel) fL CB) ?_ ?_ ?_
 iterate 2· simp (maxDischargeDepth:=8)-implicitDefEqProofs [-getElem?_pos,avf,cH]
 have A:CL p fuel s q=(gJ p fuel ⟨s,q⟩).en:=rfl;by_cases m:(gJ p fuel ⟨s,q⟩).en=4
 ·by_cases hl:q.length=16
  ·have e:ofM p fuel s most=none:=by
    unfold ofM;rw [r,oA,CM (by rw [A];exact m) (by omega)];rfl
   rw [e];simp (maxSteps:=9^7)-implicitDefEqProofs+contextual [-getElem?_pos,avf,du,m,hl];refine ⟨_,_,bW ?_,rfl,rfl,by simp [CS]⟩;simp (maxDischargeDepth:=8)-implicitDefEqProofs [CS]
  ·have yN:¬ (q.length:Int)=16:=by omega
   have S:=rP N;have pB:=fT L;have D:(2:Int)^p.w.toNat=(bP p:Int):=by simp [bP]
   have X:IntKind.i64.wrap ((bP p:Int)- 1)=(bP p:Int)- 1:=ai ⟨by omega,by omega⟩;have o:=zJ L;rw [D]at o;have g0:(au p)[0]?=some (pi p.w):=rfl;simp (maxSteps:=9^7)-implicitDefEqProofs+contextual [-getElem?_pos,avf,du,m,yN,f,o,X,g0];refine dV (WI p s fuel most out st q junk) (bP p) (rQ (h2:=OH p s out (st++(kids p q).reverse.take 0) ((q::junk).drop 0)) [] [0,1,2] ((12,jh q)::(15,pi ((bP p:Int)- 1- (0:Nat)))::OL p s fuel most out (st++(kids p q).reverse.take 0) ((q::junk).drop 0)) ?_ ?_ ?_ ?_ ?_) La ?_
   ·simp [OH,OL,iW,g,d,c,f,f10,B]
   iterate 2· simp
   iterate 2· simp (maxDischargeDepth:=8)-implicitDefEqProofs [aj,avf,OH,OL,iW,g,d,c,f,f10,B]
   clear g d c f f10 f11;rintro j fr h hj ⟨rfl,y⟩;simp only [OL,avy,avQ,or_false,forall_eq_or_imp,forall_eq]at y;obtain ⟨f12,f15,g,d,c,f,f10,f11⟩:=y
   obtain ⟨a,ha⟩:∃a:Int,(bP p:Int)- 1- j=a:=⟨_,rfl⟩
   rw [ha]at f15
   have UU:(st++(kids p q).reverse.take j).length≤5000:=by
    have:(kids p q).length=bP p:=by simp [kids]
    simp;omega
   by_cases x:j<bP p
   ·have M0:0≤a:=by omega
    have V:IntKind.i64.wrap (a- 1)=a- 1:=ai ⟨by omega,by omega⟩;have u:=GN (q:=q) x;have C:(((bP p- 1- j:Nat):Int))=a:=by omega
    rw [C]at u
    obtain ⟨K,H⟩:∃K,st++(kids p q).reverse.take j=K:=⟨_,rfl⟩
    obtain ⟨J,U⟩:∃J,(q::junk).drop j=J:=⟨_,rfl⟩
    have G:st++(kids p q).reverse.take (j+1)=K++[q++[a]]:=by rw [u,←avF,H]
    have I:(q::junk).drop (j+1)=J.drop 1:=by rw [←U,List.drop_drop]
    rw [H]at UU;rw [H,U]at f11⊢;simp (maxSteps:=9^7)-implicitDefEqProofs+contextual [-getElem?_pos,avf,f12,f15,f11,M0,OH];refine pS (yr (l:=q) (by omega)) ?_ ?_ ?_
    iterate 2· simp (maxDischargeDepth:=8)-implicitDefEqProofs [-getElem?_pos,avf]
    simp (maxSteps:=9^7)-implicitDefEqProofs+contextual [-getElem?_pos,avf,f15];apply cj
    iterate 9· first|rfl|omega|(simp-implicitDefEqProofs [-getElem?_pos,avf];first|done|rfl|omega)
    simp (maxSteps:=9^7)-implicitDefEqProofs+contextual [-getElem?_pos,avf];refine P9 (xs:=u9 K) (ys:=u9 J) (v:=.sl 1 3 0 (q.length+1) (q.length+1)) ?_ ?_ ?_ ?_ ?_ ?_ ?_ ?_
    iterate 6· first|rfl|(simp;done)
    ·simp;omega
    simp (maxSteps:=9^7)-implicitDefEqProofs+contextual [-getElem?_pos,avf,f15,V];have e1:(bP p:Int)- 1- ((j+1:Nat):Int)=a- 1:=by omega
    have W:=La (p:=p) (s:=s) (fuel:=fuel) (most:=most) (out:=out) (st:=st) (q:=q) (junk:=junk) (j:=j+1);rw [G,I,e1]at W;refine .ny x (rQ (h2:=OH p s out (K++[q++[a]]) (J.drop 1)) [3] [0,1,2] ((12,jh q)::(15,pi (a- 1))::OL p s fuel most out (K++[q++[a]]) (J.drop 1)) ?_ ?_ ?_ ?_ ?_) W
    ·simp [OH,OL,iW,g,d,c,f,f10,f12]
    iterate 2· simp
    iterate 2· simp (maxDischargeDepth:=8)-implicitDefEqProofs [aj,avf,OH,OL,iW,g,d,c,f,f10,f12]
   ·obtain rfl:j=bP p:=by omega
    have cO:¬ 0≤a:=by omega
    have atp:(kids p q).length=bP p:=by simp [kids]
    rw [u6]at f11;simp (maxSteps:=9^7)-implicitDefEqProofs+contextual [-getElem?_pos,avf,f15,cO,OH];refine .ofG ?_ (rQ (h2:=OH p s out (st++(kids p q).reverse) ((q::junk).drop (bP p))) [] [0,1,2] (OL p s fuel most out (st++(kids p q).reverse) ((q::junk).drop (bP p))) ?_ ?_ ?_ ?_ ?_) ⟨out,st++(kids p q).reverse,(q::junk).drop (bP p),rfl,CO S z (by omega),P,?_,rfl,CT⟩
    ·rw [nE,nE]
     have:=GO (q:=q) S (by omega);simp only [oN,List.map_cons,List.map_nil,List.sum_cons,List.sum_nil,Nat.add_zero]at*;omega
    ·simp [OH,OL,u6,g,d,c,f,f10,f11]
    iterate 2· simp
    iterate 2· simp (maxDischargeDepth:=8)-implicitDefEqProofs [aj,avf,OH,OL,u6,g,d,c,f,f10,f11]
    ·rw [r,oA,GK,CN (by rw [A];exact m) (by omega)]
 ·by_cases Q:out.length=most
  ·have e:ofM p fuel s most=none:=by
    unfold ofM;rw [r,oA,wG (by rw [A];exact m)];cases rest p fuel s st<;>simp [Q]
   rw [e];simp (maxSteps:=9^7)-implicitDefEqProofs+contextual [-getElem?_pos,avf,du,m,Q,c,f10];refine ⟨_,_,bW ?_,rfl,rfl,by simp [CS]⟩;simp (maxDischargeDepth:=8)-implicitDefEqProofs [CS]
  ·have Y:¬ (out.length:Int)=(most:Int):=by omega
   simp (maxSteps:=9^7)-implicitDefEqProofs+contextual [-getElem?_pos,avf,du,m,d,c,f10,Y];refine pS (yr (l:=s) hs) ?_ ?_ ?_
   iterate 2· simp (maxDischargeDepth:=8)-implicitDefEqProofs [-getElem?_pos,avf]
   simp (maxSteps:=9^7)-implicitDefEqProofs+contextual [-getElem?_pos,avf,d];refine pS (yr (l:=q) (by omega)) ?_ ?_ ?_
   iterate 2· simp (maxDischargeDepth:=8)-implicitDefEqProofs [-getElem?_pos,avf]
   simp (maxSteps:=9^7)-implicitDefEqProofs+contextual [-getElem?_pos,avf,f10];apply cj
   iterate 9· first|rfl|omega|(simp-implicitDefEqProofs [-getElem?_pos,avf];first|done|rfl|omega)
   simp (maxSteps:=9^7)-implicitDefEqProofs+contextual [-getElem?_pos,avf];refine .ofG ?_ (rQ (h2:=OH p s (out++[q]) st (q::junk)) [4,5] [0,1,2] (OL p s fuel most (out++[q]) st (q::junk)) ?_ ?_ ?_ ?_ ?_) ⟨out++[q],st,q::junk,rfl,wI z,?_,?_,rfl,?_⟩
   ·rw [nE]
    have:0<oN [q]:=by simp [oN];exact Nat.pow_pos (by omega)
    omega
   ·simp [OH,OL,iX,eD,iW,cH,mn,g,d,c,f,B]
   iterate 2· simp
   iterate 2· simp (maxDischargeDepth:=8)-implicitDefEqProofs [aj,avf,OH,OL,iX,eD,iW,cH,mn,g,d,c,f,B]
   ·simp;omega
   ·rw [r,oA,wG (by rw [A];exact m)]
    cases rest p fuel s st<;>simp
   ·exact CT
open Go Go.RowKit
theorem Qb {p:aU} {s:List Int}:jo p ⟨s,[]⟩=bq p.w p.vars s:=by simp [jo]
theorem Qc {s:List Int} (hs:s.length<2^60) (b:∀n∈s,lC n):CB ⟨s,[]⟩:=⟨hs,by show(0:Nat)<_;omega,b,fun n a=>by cases a⟩
theorem AE {p:aU} {s:List Int} (h:bm p=true) (hs:bq p.w p.vars s=true):s.length≤48:=by
 simp only [bm,aC,avj,avs]at h;simp only [bq,avj,avs]at hs;have a:=h.1.2.2.2.2;have h2:=hs.1;omega
def GQ (p:aU) (fuel:Int) (s:List Int):List PV:=
 if cC p fuel≠0 then [da,pi (cC p fuel)]else if bq p.w p.vars s=false then [da,pi 1]else CS s (ofM p fuel s 16384)
theorem Qd (p:aU) (fuel:Int) (s:List Int):dN (GQ p fuel s)=true:=by
 unfold GQ;split
 ·simp
 ·split
  ·simp
  ·cases ofM p fuel s 16384<;>simp [CS]
theorem alq {p:aU} {fuel:Int} {s:List Int} (b:gZ p) (hs:s.length<2^60) (d:∀n∈s,lC n):Fz E O 12 [.agg (au p),pi fuel,jh s] (.hZ (GQ p fuel s)):=by
 refine Fz.body (F:=a12) rfl rfl rfl (by simp [Qd]) ?_;have f:CB ⟨s,[]⟩:=Qc hs d;simp (maxSteps:=9^7)-implicitDefEqProofs+contextual [-getElem?_pos,avf,a12];refine aF (qR b) ?_ ?_ ?_
 iterate 2· simp (maxDischargeDepth:=8)-implicitDefEqProofs [-getElem?_pos,avf]
 cases h:bm p with
 |false=>
  have e:GQ p fuel s=[da,pi 30]:=by simp [GQ,cC,h]
  rw [e];simp (maxSteps:=9^7)-implicitDefEqProofs+contextual [-getElem?_pos,avf,h]
 |true=>
  by_cases a:fuel<0
  ·have e:GQ p fuel s=[da,pi 1]:=by simp [GQ,cC,h,a]
   rw [e];simp (maxSteps:=9^7)-implicitDefEqProofs [-getElem?_pos,avf,h,a]
  ·by_cases h2:4096<fuel
   ·have e:GQ p fuel s=[da,pi 1]:=by simp [GQ,cC,h,a,h2]
    rw [e];simp (maxSteps:=9^7)-implicitDefEqProofs [-getElem?_pos,avf,h,a,h2]
   ·have g:cC p fuel=0:=by simp [cC,h];omega
    have j:GQ p fuel s=if bq p.w p.vars s=false then [da,pi 1]else CS s (ofM p fuel s 16384):=by simp [GQ,g]
    simp (maxSteps:=9^7)-implicitDefEqProofs [-getElem?_pos,avf,h,a,h2];refine rL [] (K7 b f) ?_ ?_
    ·simp (maxDischargeDepth:=8)-implicitDefEqProofs [cH]
    have i:fQ p 0 ⟨s,[]⟩=if bq p.w p.vars s=false then 50 else 0:=by simp [fQ,h,Qb]
    rw [i,j]
    cases c:bq p.w p.vars s with
    |false=>
     simp (maxSteps:=9^7)-implicitDefEqProofs [-getElem?_pos,avf,c,bR]
    |true=>
     simp (maxSteps:=9^7)-implicitDefEqProofs [-getElem?_pos,avf,c,bR];have k:=AE h c;refine aF (abO (fuel:=fuel) (most:=16384) b h (s:=s) (by omega) d (avk _)) ?_ ?_ ?_
     iterate 2· simp (maxDischargeDepth:=8)-implicitDefEqProofs [-getElem?_pos,avf]
     cases m:ofM p fuel s 16384 with
     |none=>
      simp (maxSteps:=9^7)-implicitDefEqProofs [-getElem?_pos,avf,CS]
     |some l=>
      simp (maxSteps:=9^7)-implicitDefEqProofs [-getElem?_pos,avf,CS]
def EJ (s:List Int) (out:List (List Int)) (u:Option (List (List Int))) (r:PV) (h:PH):Prop:=
 (∃l,u=some l∧out.length+l.length≤16384∧r= .hZ [.sl 2 0 0 (out++l).length (out++l).length,pb true]∧h=[.cells 2 (u7 (mn s (out++l)))])∨
 ((u=none∨∃l,u=some l∧16384<out.length+l.length)∧(∃x,r= .hZ [x,pb false]∧(out.length<16384→x=da))∧h=[.dead])
theorem Lb {p:aU} {s q:List Int} {fuel:Int} (a:bm p=true) (d:cC p fuel=0) (hs:bq p.w p.vars s=true) (b:∀n∈q,isWord p.w n=true) (c:q.length≤16):fQ p fuel ⟨s,q⟩=0:=by
 have e:¬ (fuel<0∨4096<fuel):=by
  intro h;simp [cC,a,h]at d
 have h2:jo p ⟨s,q⟩=true:=by
  simp only [jo,hs,Bool.true_and,avj,avs,avw];exact ⟨c,b⟩
 simp [fQ,a,e,h2]
theorem GR {α:Type} (l:List (Option (List α))) (x:Option (List α)):hY (l++[x])=(hY l).bind fun a=>x.map fun b=>a++b:=by
 rw [nC];cases hY l<;>cases x<;>simp [hY]
theorem GS {p:aU} {fuel:Int} {s q u:List Int} {d j:Nat} {out l:List (List Int)} (c:hY (((kids p q).take (j+1)).map fun u=>leaves p fuel s d u)=(leaves p fuel s d u).map fun b=>l++b)
 (g:leaves p fuel s d u=none∨∃a,leaves p fuel s d u=some a∧16384<(out++l).length+a.length):
 hY ((kids p q).map fun u=>leaves p fuel s d u)=none∨∃L,hY ((kids p q).map fun u=>leaves p fuel s d u)=some L∧16384<out.length+L.length:=by
 have e:(kids p q)=(kids p q).take (j+1)++(kids p q).drop (j+1):=(List.take_append_drop ..).symm;rw [e,List.map_append,nC,c];rcases g with h|⟨a,h,f⟩
 ·left;rw [h];rfl
 ·rw [h]
  cases h2:hY (((kids p q).drop (j+1)).map fun u=>leaves p fuel s d u)with
  |none=>left;rfl
  |some y=>
   right;refine ⟨l++a++y,rfl,?_⟩;simp at f⊢;omega
def GH (p:aU) (s q:List Int) (out:List (List Int)):PH:=[.cells 2 (u7 (mn s out)),.cells 3 (au p),.cells 2 (cH ⟨s,q⟩)]
def GL (fuel:Int) (out:List (List Int)) (j:Nat):List (Nat×PV):=[(1,pi fuel),(3,.sl 2 0 0 out.length out.length),(4,.ref 1 0 3),(6,.ref 2 0 2),(10,pi j)]
def GI (p:aU) (s q:List Int) (fuel:Int) (d:Nat) (out:List (List Int)) (j:Nat) (fr:PF) (h:PH):Prop:=∃l,hY (((kids p q).take j).map fun u=>leaves p fuel s d u)=some l∧out.length+l.length≤16384∧h=GH p s q (out++l)∧∀t∈GL fuel (out++l) j,fr.get t.1=t.2
theorem Lc {fuel:Int} {out:List (List Int)} {j:Nat} (t:Nat×PV) (a:t∈GL fuel out j):(PF.tm (GL fuel out j)).get t.1=t.2:=by
 simp only [GL,avy,avQ,or_false]at a;rcases a with rfl|rfl|rfl|rfl|rfl<;>simp [GL]
set_option maxHeartbeats 2000000 in
theorem grow_step {p:aU} {s:List Int} {fuel:Int} (S:gZ p) (B:bm p=true) (hf:cC p fuel=0) (hs:bq p.w p.vars s=true) (U:s.length≤2^40) (y:av p.body≤2^20) (d:Nat)
 (ih:∀t,d=t+1→∀(q:List Int) (out:List (List Int)),q.length+t=16→(∀n∈q,isWord p.w n=true)→out.length≤16384→
  fM E O 43 [.agg (au p),pi fuel,.agg (cH ⟨s,q⟩),.sl 2 0 0 out.length out.length] [.cells 2 (u7 (mn s out))] (EJ s out (leaves p fuel s t q)))
 (q:List Int) (out:List (List Int)) (hd:q.length+d=16) (P:∀n∈q,isWord p.w n=true) (V:out.length≤16384):
 fM E O 43 [.agg (au p),pi fuel,.agg (cH ⟨s,q⟩),.sl 2 0 0 out.length out.length] [.cells 2 (u7 (mn s out))] (EJ s out (leaves p fuel s d q)):=by
 have T:=pk B;have hk:fQ p fuel ⟨s,q⟩=0:=Lb B hf hs P (by omega);have N:CL p fuel s q=(gJ p fuel ⟨s,q⟩).en:=rfl;refine fM.body (F:=a43) rfl rfl rfl ?_;simp (maxSteps:=9^7)-implicitDefEqProofs+contextual [-getElem?_pos,avf,a43,cH];refine aF (K6 S y hk) ?_ ?_ ?_
 iterate 2· simp (maxDischargeDepth:=8)-implicitDefEqProofs [-getElem?_pos,avf,cH,au]
 by_cases g:(gJ p fuel ⟨s,q⟩).en=4
 ·by_cases hl:q.length=16
  ·obtain rfl:d=0:=by omega
   have e:leaves p fuel s 0 q=none:=by rw [leaves,N,if_pos g]
   rw [e];simp (maxSteps:=9^7)-implicitDefEqProofs+contextual [-getElem?_pos,avf,du,g,hl];refine ⟨_,_,?_,.inr ⟨.inl rfl,⟨_,rfl,fun _=>rfl⟩,rfl⟩⟩;refine bU [] ?_ ?_ ?_ (fun b i=>?_) ?_ ?_
   iterate 3· simp
   ·have:b=0:=by omega
    rcases this with rfl<;>simp [cd]<;>omega
   iterate 2· simp (maxDischargeDepth:=8)-implicitDefEqProofs [aj,avf]
  ·obtain ⟨d,rfl⟩:∃t,d=t+1:=⟨d- 1,by omega⟩
   have H:¬ 16≤(q.length:Int):=by omega
   have ih:=ih d rfl;have hN:=rP B;have M:(2:Int)^p.w.toNat=(bP p:Int):=by simp [bP]
   have L:=abL T;rw [M]at L;have e:leaves p fuel s (d+1) q=hY ((kids p q).map fun u=>leaves p fuel s d u):=by rw [leaves,N,if_pos g]
   rw [e];simp (maxSteps:=9^7)-implicitDefEqProofs+contextual [-getElem?_pos,avf,du,g,H];refine dV (GI p s q fuel d out) (bP p) (bX (h2:=GH p s q out) [1,2] (GL fuel out 0) ?_ ?_ ?_ ?_ ?_ ?_) ⟨[],rfl,by simpa using V,by simp,by simpa using Lc⟩ ?_
   ·simp [GH,GL,au,cH]
   iterate 2· simp
   ·intro b i
    have:b=0:=by omega
    rcases this with rfl<;>simp [cd,GH,GL,au,cH]<;>omega
   iterate 2· simp (maxDischargeDepth:=8)-implicitDefEqProofs [aj,avf,GH,GL,au,cH]
   rintro j fr h hj ⟨l,K,D,rfl,Q⟩;simp only [GL,avy,avQ,or_false,forall_eq_or_imp,forall_eq]at Q;obtain ⟨f,k,c,a,f10⟩:=Q;have UU:(kids p q).length=bP p:=by simp [kids]
   by_cases m:j<bP p
   ·have J:(j:Int)≤(bP p:Int)- 1:=by omega
    obtain ⟨u,v⟩:∃u,u=q++[(j:Int)]:=⟨_,rfl⟩
    have I:(kids p q)[j]?=some u:=by
     simp only [kids,avK,List.getElem?_range m,v];rfl
    have A:∀n∈u,isWord p.w n=true:=by
     intro n y;rw [v]at y;rcases avA.1 y with h|h
     ·exact P n h
     ·simp only [List.mem_singleton]at h
      subst h;have:bE p.w=true:=by simp [bE];omega
      simp [isWord,this];omega
    have z:u.length+d=16:=by rw [v];simp;omega
    have o:hY (((kids p q).take (j+1)).map fun u=>leaves p fuel s d u)=(leaves p fuel s d u).map fun b=>l++b:=by
     rw [avB,I,Option.toList_some,List.map_append,List.map_cons,List.map_nil,GR,K];rfl
    have R:IntKind.i64.wrap ((j:Int)+1)=((j+1:Nat):Int):=ai ⟨by omega,by omega⟩;have Z:out.length+l.length<2^40:=by omega
    simp (maxSteps:=9^7)-implicitDefEqProofs+contextual [-getElem?_pos,avf,f,k,c,a,f10,GH,au];refine aF (L) ?_ ?_ ?_
    iterate 2· simp (maxDischargeDepth:=8)-implicitDefEqProofs [-getElem?_pos,avf]
    simp (maxSteps:=9^7)-implicitDefEqProofs+contextual [-getElem?_pos,avf,f10,J,c,a,cH,f];refine pS (uX (l:=s) U) ?_ ?_ ?_
    iterate 2· simp (maxDischargeDepth:=8)-implicitDefEqProofs [-getElem?_pos,avf]
    simp (maxSteps:=9^7)-implicitDefEqProofs+contextual [-getElem?_pos,avf,a,cH];refine pS (uX (l:=q) (by omega)) ?_ ?_ ?_
    iterate 2· simp (maxDischargeDepth:=8)-implicitDefEqProofs [-getElem?_pos,avf]
    simp (maxSteps:=9^7)-implicitDefEqProofs+contextual [-getElem?_pos,avf,f10];apply cj
    iterate 9· first|rfl|omega|(simp-implicitDefEqProofs [-getElem?_pos,avf];first|done|rfl|omega)
    simp (maxSteps:=9^7)-implicitDefEqProofs+contextual [-getElem?_pos,avf,k]
    obtain ⟨n0,W⟩:∃n0,out.length+l.length=n0:=⟨_,rfl⟩
    refine dt [0] [4,5] (ih u (out++l) z A (by simp;omega)) ?_ ?_ ?_ ?_ ?_ ?_ ?_
    iterate 6· first|rfl|simp (maxDischargeDepth:=8)-implicitDefEqProofs [-getElem?_pos,avf,aj,au,cH,v,W]
    rintro r0 fZ hR _;rcases hR with⟨l2,H,G,rfl,rfl⟩|⟨V9,⟨x,rfl,_⟩,rfl⟩
    ·simp (maxSteps:=9^7)-implicitDefEqProofs+contextual [-getElem?_pos,avf,GH,bR,f,k,c,a,f10,R]
     obtain ⟨L2,hL2⟩:∃L2,l++l2=L2:=⟨_,rfl⟩
     have r:out++(l++l2)=out++l++l2:=(avF ..).symm;refine .ny m (bX (h2:=GH p s q (out++l++l2)) [1,2] (GL fuel (out++l++l2) (j+1)) ?_ ?_ ?_ ?_ ?_ ?_) ⟨l++l2,by rw [o,H];rfl,by simp at G⊢;omega,by rw [r],by rw [r];exact Lc⟩
     ·simp [GH,GL,au,cH,f,c,a]
     iterate 2· simp
     ·intro b i
      have:b=0:=by omega
      rcases this with rfl<;>simp [cd,GH,GL,au,cH,f,c,a]<;>omega
     iterate 2· simp (maxDischargeDepth:=8)-implicitDefEqProofs [aj,avf,GH,GL,au,cH,f,c,a]
    ·simp (maxSteps:=9^7)-implicitDefEqProofs+contextual [-getElem?_pos,avf,GH,bR,f,k,c,a,f10]
     refine ⟨_,_,?_,.inr ⟨GS o V9,⟨_,rfl,fun _=>rfl⟩,rfl⟩⟩;refine bU [] ?_ ?_ ?_ (fun b i=>?_) ?_ ?_
     iterate 3· simp
     ·have:b=0:=by omega
      rcases this with rfl<;>simp [cd]<;>omega
     iterate 2· simp (maxDischargeDepth:=8)-implicitDefEqProofs [aj,avf]
   ·obtain rfl:j=bP p:=by omega
    have Y:¬ (bP p:Int)≤(bP p:Int)- 1:=by omega
    rw [show(kids p q).take (bP p)=kids p q from avn (by omega)]at K;simp (maxSteps:=9^7)-implicitDefEqProofs+contextual [-getElem?_pos,avf,f,k,c,a,f10,GH,au];refine aF (L) ?_ ?_ ?_
    iterate 2· simp (maxDischargeDepth:=8)-implicitDefEqProofs [-getElem?_pos,avf]
    simp (maxSteps:=9^7)-implicitDefEqProofs+contextual [-getElem?_pos,avf,f10,Y];simp (maxSteps:=9^7)-implicitDefEqProofs+contextual [-getElem?_pos,avf,k];refine ⟨_,_,?_,.inl ⟨l,K,D,rfl,rfl⟩⟩;refine bU [] ?_ ?_ ?_ (fun b i=>?_) ?_ ?_
    iterate 3· simp
    ·have:b=0:=by omega
     rcases this with rfl<;>simp [cd,iX,eD]<;>omega
    iterate 2· simp (maxDischargeDepth:=8)-implicitDefEqProofs [aj,avf,iX,eD]
 ·have e:leaves p fuel s d q=some [q]:=by
   cases d<;>rw [leaves,N,if_neg g]
  rw [e];by_cases X:out.length<16384
  ·have C:(out.length:Int)<16384:=by omega
   simp (maxSteps:=9^7)-implicitDefEqProofs+contextual [-getElem?_pos,avf,du,g];apply cj
   iterate 9· first|rfl|omega|(simp-implicitDefEqProofs [-getElem?_pos,avf];first|done|rfl|omega)
   simp (maxSteps:=9^7)-implicitDefEqProofs+contextual [-getElem?_pos,avf,C];refine ⟨_,_,?_,.inl ⟨[q],rfl,by simp;omega,rfl,rfl⟩⟩;refine bU [] ?_ ?_ ?_ (fun b i=>?_) ?_ ?_
   iterate 3· simp
   ·have:b=0:=by omega
    rcases this with rfl<;>simp [cd,iX,eD,mn,cH]<;>omega
   iterate 2· simp (maxDischargeDepth:=8)-implicitDefEqProofs [aj,avf,iX,eD,mn,cH]
  ·have C:¬ (out.length:Int)<16384:=by omega
   simp (maxSteps:=9^7)-implicitDefEqProofs+contextual [-getElem?_pos,avf,du,g];apply cj
   iterate 9· first|rfl|omega|(simp-implicitDefEqProofs [-getElem?_pos,avf];first|done|rfl|omega)
   simp (maxSteps:=9^7)-implicitDefEqProofs+contextual [-getElem?_pos,avf,C];refine ⟨_,_,?_,.inr ⟨.inr ⟨[q],rfl,by simp;omega⟩,⟨.any,rfl,fun h=>absurd h X⟩,rfl⟩⟩;refine bU [] ?_ ?_ ?_ (fun b i=>?_) ?_ ?_
   iterate 3· simp
   ·have:b=0:=by omega
    rcases this with rfl<;>simp [cd]<;>omega
   iterate 2· simp (maxDischargeDepth:=8)-implicitDefEqProofs [aj,avf]
theorem Wa {p:aU} {s:List Int} {fuel:Int} (a:gZ p) (c:bm p=true) (f:cC p fuel=0) (hs:bq p.w p.vars s=true) (b:s.length≤2^40) (e:av p.body≤2^20):∀(d:Nat) (q:List Int) (out:List (List Int)),q.length+d=16→(∀n∈q,isWord p.w n=true)→out.length≤16384→
 fM E O 43 [.agg (au p),pi fuel,.agg (cH ⟨s,q⟩),.sl 2 0 0 out.length out.length] [.cells 2 (u7 (mn s out))] (EJ s out (leaves p fuel s d q)):=by
 intro d
 induction d with
 |zero=>exact grow_step a c f hs b e 0 fun d' h=>by omega
 |succ d ih=>
  refine grow_step a c f hs b e (d+1) fun d' h=>?_
  obtain rfl:d=d':=by omega
  exact ih
end P
namespace P
open Go Go.RowKit
theorem nG {z b:Nat}:¬ aY [PB.cells z []] b:=by
 rintro (⟨es,e⟩|⟨t,a,cs,e,h⟩)
 ·cases b<;>simp at e
 ·cases b with
  |zero=>simp at e;obtain ⟨_,rfl⟩:=e;simp at h
  |succ b=>simp at e
theorem fM.void {E:Env} {O:kG} {f sz:Nat} {args:List PV} {R:PV→PH→Prop} (k:fM E O f (args++[.sl sz 0 0 0 0]) [.cells sz []] R) (n:dN args=true):fM E O f (args++[da]) [] R:=by
 intro F H z g S v
 have K:iU (fun _=>False) id [] [PB.cells sz []]:=⟨fun i P e=>by
  cases i with
  |zero=>simp at e;subst e;exact .inl rfl
  |succ i=>simp at e,fun i j _ _ s _ _=>absurd s nG,fun i _ s=>absurd s nG⟩
 have u:=K.ok S
 have h:mC (fun _=>False) id [] [PB.cells sz []] (args++[da]) (args++[.sl sz 0 0 0 0]):=by
  simp [n]
 refine (k _ H _ g u (h.ok S v)).mono ?_;rintro x A ⟨r,p,w,d,o,l,t,T⟩;refine ⟨r,p,w,d,o,l,t,⟨T.n0,T.nx,fun y c=>T.fz y (.inl c),fun y c _ m=>?_,fun y c _=>T.out y c (fun⟨b,_,s,_⟩=>absurd s nG),fun b a=>?_,fun _=>avI _,fun b a=>absurd a (avG _),fun b a=>absurd a (avG _),fun b a=>absurd a (avG _)⟩⟩
 ·rcases T.fo y c (fun⟨b,_,s,_⟩=>absurd s nG) m with q|⟨b,q,_⟩
  ·exact q
  ·exact q.elim
 ·rcases T.loc b a with q|⟨q,_⟩
  ·exact .inl q
  ·exact absurd q nG
def CU (s:List Int):Option (List (List Int))→List PV
 |some l=>[.fs 2 (str (mn s l)),pb true]
 |none=>[da,pb false]
theorem abR {p:aU} {s:List Int} {fuel:Int} (c:gZ p) (f:bm p=true) (k:cC p fuel=0) (hs:bq p.w p.vars s=true) (b:s.length≤2^40) (g:av p.body≤2^20):
 Fz E O 15 [.agg (au p),pi fuel,jh s] (.hZ (CU s (ofM p fuel s 16384))):=by
 refine fM.body (F:=a15) rfl rfl rfl ?_
 have G:fM E O 43 [.agg (au p),pi fuel,.agg (cH ⟨s,[]⟩),da] [] (EJ s [] (kU p fuel s)):=
  fM.void (args:=[.agg (au p),pi fuel,.agg (cH ⟨s,[]⟩)]) (Wa c f k hs b g 16 [] [] rfl (by simp) (avI _)) (by simp [cH])
 simp (maxSteps:=9^7)-implicitDefEqProofs+contextual [-getElem?_pos,avf,a15,au];refine pS (uX (l:=s) b) ?_ ?_ ?_
 iterate 2· simp (maxDischargeDepth:=8)-implicitDefEqProofs [-getElem?_pos,avf]
 simp (maxSteps:=9^7)-implicitDefEqProofs+contextual [-getElem?_pos,avf];refine dt [] [1] G ?_ ?_ ?_ ?_ ?_ ?_ ?_
 iterate 6· first|rfl|simp (maxDischargeDepth:=8)-implicitDefEqProofs [-getElem?_pos,avf,aj,au,cH]
 rintro o q n _;rcases n with⟨l2,i,a,rfl,rfl⟩|⟨m,⟨x,rfl,d⟩,rfl⟩
 ·have e:ofM p fuel s 16384=some l2:=by
   simp [ofM,i]
   simpa using a
  rw [e];simp (maxSteps:=9^7)-implicitDefEqProofs+contextual [-getElem?_pos,avf,bR];refine ⟨_,_,bW ?_,rfl,rfl,by simp [CU]⟩;simp (maxDischargeDepth:=8)-implicitDefEqProofs [CU]
 ·obtain rfl:=d (by simp)
  have e:ofM p fuel s 16384=none:=by
   unfold ofM;rcases m with h|⟨l,h,j⟩
   ·rw [h];rfl
   ·rw [h]
    simp at j⊢;omega
  rw [e];simp (maxSteps:=9^7)-implicitDefEqProofs+contextual [-getElem?_pos,avf,bR];refine ⟨_,_,bW ?_,rfl,rfl,by simp [CU]⟩;simp (maxDischargeDepth:=8)-implicitDefEqProofs [CU]
open Go Go.RowKit
def eU (p:aU):Int:=dE (p.vars.map (·.cells))
theorem AG:∀(l:List Int) (a:Int),(∀c∈l,1≤c∧c≤8)→0≤a→a+8*l.length≤10000→a+l.length≤l.foldl (fun a c=>IntKind.i64.wrap (a+c)) a∧l.foldl (fun a c=>IntKind.i64.wrap (a+c)) a≤a+8*l.length
 |[],a,_,_,_=>by simp
 |c::l,a,h,g,f=>by
  have d:=h c (by simp);simp only [List.length_cons]at*;have e:IntKind.i64.wrap (a+c)=a+c:=ai ⟨by omega,by omega⟩;have:=AG l (a+c) (fun x b=>h x (by simp [b])) (by omega) (by omega);simp only [List.foldl_cons,e];omega
theorem lQ {p:aU} (h:bm p=true):1≤eU p∧eU p≤48:=by
 simp only [bm,aC,avj,avs,avw]at h;obtain ⟨⟨_,g,h2,f,d⟩,_⟩:=h
 have:=AG (p.vars.map (·.cells)) 0 (fun c a=>by
  simp only [avN]at a;obtain ⟨v,b,rfl⟩:=a;obtain ⟨i,hi,e⟩:=List.mem_iff_getElem.1 b;have:=f i (by simpa using hi);rw [avg hi,e]at this
  exact sq this) (Int.le_refl _) (by simp;omega)
 simp only [List.length_map]at this;exact ⟨by unfold eU dE;omega,d⟩
theorem oB {p:aU} (h:gZ p):p.vars.length<2^60:=h.2.1.1
theorem wJ {V:List Vr} {i:Nat} {y:Vr} (a:V[i]?=some y):dE ((V.map (·.cells)).take (i+1))=IntKind.i64.wrap (dE ((V.map (·.cells)).take i)+y.cells):=by
 rw [avB];simp [dE,a,List.foldl_append]
theorem yw {p:aU} (j:gZ p) (k:p.vars.length<2^60):Fz E O 76 [.agg (au p)] (pi (eU p)):=by
 refine Fz.body (F:=a76) rfl rfl rfl rfl ?_;simp (maxSteps:=9^7)-implicitDefEqProofs+contextual [-getElem?_pos,avf,a76,au];refine dV (fun i a h=>h=[]∧a.get 3=pi (dE ((p.vars.map (·.cells)).take i))∧a.get 7=mD p.vars∧a.get 8=pi p.vars.length∧a.get 9=pi i) p.vars.length (rQ (h2:=[]) [] [] [(3,pi 0),(7,mD p.vars),(8,pi p.vars.length),(9,pi 0)] ?_ ?_ ?_ ?_ ?_) ⟨rfl,by simp [dE],by simp,by simp,by simp⟩ ?_
 ·simp
 iterate 2· simp
 iterate 2· simp (maxDischargeDepth:=8)-implicitDefEqProofs [aj,avf]
 rintro i a h hi ⟨rfl,e,c,b,g⟩;by_cases h:i<p.vars.length
 ·obtain ⟨y,d⟩:∃y,p.vars[i]?=some y:=⟨_,avg h⟩
  have f:IntKind.i64.wrap ((i:Int)+1)=((i+1:Nat):Int):=ai ⟨by omega,by omega⟩;simp (maxSteps:=9^7)-implicitDefEqProofs+contextual [-getElem?_pos,avf,e,c,b,g,h,d,As];refine .ny h (rQ (h2:=[]) [] [] [(3,pi (dE ((p.vars.map (·.cells)).take (i+1)))),(7,mD p.vars),(8,pi p.vars.length),(9,pi (i+1:Nat))] ?_ ?_ ?_ ?_ ?_) ⟨rfl,by simp,by simp,by simp,by simp⟩
  ·simp [c,b,f,wJ d]
  iterate 2· simp
  iterate 2· simp (maxDischargeDepth:=8)-implicitDefEqProofs [aj,avf,c,b,f,wJ d]
 ·obtain rfl:i=p.vars.length:=by omega
  rw [avn (by simp)]at e;simp (maxSteps:=9^7)-implicitDefEqProofs+contextual [-getElem?_pos,avf,e,c,b,g,eU]
theorem Qe {V:List Vr} (d:V.length<2^60):Fz E O 41 [mD V,pi V.length] (pi (dE (V.map (·.cells)))):=
 Fz.kD fun F H e f w c=>by
  cases c with|cons a c=>
  cases c with|cons b c=>
  cases c;cases b;refine (zp (nB (GB a)) d V.length (avk _)).mono ?_;rintro x g ⟨rfl,rfl⟩;rw [avn (avk _)];exact ⟨rfl,Ext.refl _⟩
theorem vd {p:aU} (a:gZ p):Fz E O 80 [.agg (au p)] (pi (eU p)):=by
 refine Fz.body (F:=a80) rfl rfl rfl rfl ?_;simp (maxSteps:=9^7)-implicitDefEqProofs+contextual [-getElem?_pos,avf,a80,au];refine aF (Qe (V:=p.vars) (oB a)) ?_ ?_ ?_
 iterate 2· simp (maxDischargeDepth:=8)-implicitDefEqProofs [-getElem?_pos,avf]
 simp (maxSteps:=9^7)-implicitDefEqProofs+contextual [-getElem?_pos,avf,eU]
theorem abS {n:Int} (h:0≤n∧n≤60):cl .shl (.int .i64 1) (.int .u64 (IntKind.u64.wrap n))=some (.int .i64 (2^n.toNat)):=by
 obtain ⟨m,rfl⟩:=Int.eq_ofNat_of_zero_le h.1;have a:m≤60:=by omega
 have e:IntKind.u64.wrap (m:Int)=m:=by
  simp [IntKind.wrap,IntKind.bits,IntKind.signed];omega
 have b:(2:Int)^m≤2^60:=by
  have:=Nat.pow_le_pow_right (n:=2) (by omega) a
  exact_mod_cast this
 have c:(0:Int)<2^m:=Int.pow_pos (by omega);have w:IntKind.i64.wrap ((2:Int)^m)=2^m:=ai ⟨by omega,by omega⟩;rw [e];simp [cl,cR,IntKind.bits,show min m 64=m by omega,w]
def ew (p:aU):Int:=p.w*eU p
theorem vg {p:aU} (h:bm p=true):1≤ew p∧ew p≤400:=by
 have a:=pk h;have b:=lQ h;unfold ew;have c:p.w*eU p≤8*48:=Int.mul_le_mul a.2 b.2 (by omega) (by omega);have h2:1*1≤p.w*eU p:=Int.mul_le_mul a.1 b.1 (by omega) (by omega);omega
def dD (p:aU):Int:=2^(ew p).toNat
def pT (p:aU):List PV:=if bm p=false then [pi 0,pi 30]else if 60<ew p then [pi 0,pi 5]else [pi (dD p),pi 0]
theorem Ld (p:aU):dN (pT p)=true:=by unfold pT;split<;>(try split)<;>simp
theorem EK {p:aU} (a:gZ p):Fz E O 45 [.agg (au p)] (.hZ (pT p)):=by
 refine Fz.body (F:=a45) rfl rfl rfl (by simp [Ld]) ?_;simp (maxSteps:=9^7)-implicitDefEqProofs+contextual [-getElem?_pos,avf,a45,au];refine aF (qR a) ?_ ?_ ?_
 iterate 2· simp (maxDischargeDepth:=8)-implicitDefEqProofs [-getElem?_pos,avf,au]
 cases h:bm p with
 |false=>
  have e:pT p=[pi 0,pi 30]:=by simp [pT,h]
  rw [e];simp (maxSteps:=9^7)-implicitDefEqProofs+contextual [-getElem?_pos,avf,h]
 |true=>
  have g:=vg h;have d:IntKind.i64.wrap (p.w*eU p)=ew p:=ai ⟨by unfold ew at g;omega,by unfold ew at g;omega⟩;simp (maxSteps:=9^7)-implicitDefEqProofs+contextual [-getElem?_pos,avf,h,au];refine aF (yw a (oB a)) ?_ ?_ ?_
  iterate 2· simp (maxDischargeDepth:=8)-implicitDefEqProofs [-getElem?_pos,avf,au]
  by_cases c:60<ew p
  ·have e:pT p=[pi 0,pi 5]:=by simp [pT,h,c]
   rw [e];simp (maxSteps:=9^7)-implicitDefEqProofs+contextual [-getElem?_pos,avf,d,c]
  ·have e:pT p=[pi (dD p),pi 0]:=by simp [pT,h,c]
   rw [e];simp (maxSteps:=9^7)-implicitDefEqProofs+contextual [-getElem?_pos,avf,d,c,au];refine aF (yw a (oB a)) ?_ ?_ ?_
   iterate 2· simp (maxDischargeDepth:=8)-implicitDefEqProofs [-getElem?_pos,avf,au]
   have f:cl .shl (.int .i64 1) (.int .u64 (IntKind.u64.wrap (ew p)))=some (.int .i64 (dD p)):=abS (n:=ew p) ⟨by omega,by omega⟩;generalize dD p=S at f⊢;generalize ew p=b at f d⊢;generalize i:IntKind.u64.wrap b=v at f;clear c e g h;simp (maxSteps:=9^7)-implicitDefEqProofs [-getElem?_pos,avf,d,i,f]
theorem abT {p:aU} (c:gZ p) (h:bm p=true):Fz E O 48 [.agg (au p)] (pb (decide (ew p≤60))):=by
 refine Fz.body (F:=a48) rfl rfl rfl rfl ?_;have a:=vg h;have b:IntKind.i64.wrap (p.w*eU p)=ew p:=ai ⟨by unfold ew at a;omega,by unfold ew at a;omega⟩;simp (maxSteps:=9^7)-implicitDefEqProofs+contextual [-getElem?_pos,avf,a48,au];refine aF (vd c) ?_ ?_ ?_
 iterate 2· simp (maxDischargeDepth:=8)-implicitDefEqProofs [-getElem?_pos,avf,au]
 simp (maxSteps:=9^7)-implicitDefEqProofs+contextual [-getElem?_pos,avf,b]
theorem Lf {p:aU} (d:gZ p) (h:bm p=true) (e:ew p≤60):Fz E O 49 [.agg (au p)] (pi (dD p)):=by
 refine Fz.body (F:=a49) rfl rfl rfl rfl ?_;have b:=vg h;have c:IntKind.i64.wrap (p.w*eU p)=ew p:=ai ⟨by unfold ew at b;omega,by unfold ew at b;omega⟩;have a:=K8 (n:=(ew p).toNat) (by omega);rw [show(((ew p).toNat:Nat):Int)=ew p by omega]at a;simp (maxSteps:=9^7)-implicitDefEqProofs+contextual [-getElem?_pos,avf,a49,au];refine aF (vd d) ?_ ?_ ?_
 iterate 2· simp (maxDischargeDepth:=8)-implicitDefEqProofs [-getElem?_pos,avf,au]
 simp (maxSteps:=9^7)-implicitDefEqProofs+contextual [-getElem?_pos,avf,c];refine aF (a) ?_ ?_ ?_
 iterate 2· simp (maxDischargeDepth:=8)-implicitDefEqProofs [-getElem?_pos,avf]
 simp (maxSteps:=9^7)-implicitDefEqProofs+contextual [-getElem?_pos,avf,dD]
end P
namespace P
open Go Go.RowKit
def jI (B i:Int):Nat→List Int
 |0=>[]
 |n+1=>jI B i n++[i/B^n%B]
@[simp]theorem iB (B i:Int):∀n,(jI B i n).length=n
 |0=>rfl
 |n+1=>by simp [jI,iB B i n]
def dy (p:aU) (i:Int):List Int:=jI (2^p.w.toNat) i (eU p).toNat
theorem oC {w i:Int} (a:1≤w∧w≤8):∀n,∀x∈jI (2^w.toNat) i n,isWord w x=true
 |0,x,h=>by cases h
 |n+1,x,h=>by
  have d:=fT a;rcases avA.1 h with h|h
  ·exact oC a n x h
  ·simp only [List.mem_singleton]at h
   have c:0≤x:=by rw [h];exact Int.emod_nonneg _ (by omega)
   have b:x<2^w.toNat:=by rw [h];exact Int.emod_lt_of_pos _ (by omega)
   have:bE w=true:=by simp [bE];omega
   simp [isWord,this,c,b]
theorem AI {p:aU} (h:bm p=true) (i:Int):bq p.w p.vars (dy p i)=true:=by
 have b:=lQ h;simp only [bq,avj,avs,avw];refine ⟨?_,fun x a=>oC (pk h) _ x a⟩;rw [dy,iB];show(((eU p).toNat:Nat):Int)=eU p;omega
theorem rR {p:aU} (h:bm p=true) (i:Int):(dy p i).length≤48:=by
 have a:=lQ h;rw [dy,iB];omega
theorem AJ {w x:Int} (h:isWord w x=true):lC x:=by
 simp only [isWord,bE,avj,avs]at h;have:=fT (w:=w) (by omega);exact ⟨by omega,by omega⟩
theorem abU {a b:Int} (f:0≤a∧a<2^62) (d:1≤b∧b≤8):cl .shr (.int .i64 a) (.int .u64 (IntKind.u64.wrap b))=some (.int .i64 (a/2^b.toNat)):=by
 obtain ⟨n,rfl⟩:∃n:Nat,b=n:=⟨b.toNat,by omega⟩
 have e:IntKind.u64.wrap (n:Int)=n:=by
  simp [IntKind.wrap,IntKind.bits,IntKind.signed];omega
 rw [e];have c:(0:Int)≤2^n:=Int.le_of_lt (Int.pow_pos (by omega));simp [cl,cR,IntKind.bits,show min n 64=n by omega,Int.fdiv_eq_ediv_of_nonneg _ c]
theorem Sl {a b:Int} (c:0≤a) (d:0<b):cl .rem (.int .i64 a) (.int .i64 b)=some (.int .i64 (a%b)):=by
 simp [cl,cR,iF,show¬ b=0 by omega,Int.tmod_eq_emod_of_nonneg c]
theorem Sn {a b:Int} (c:0≤a∧a<2^62) (d:0<b):cl .quo (.int .i64 a) (.int .i64 b)=some (.int .i64 (a/b)):=by
 have f:0≤a/b:=Int.ediv_nonneg c.1 (by omega);have e:a/b≤a:=Int.ediv_le_self _ c.1;simp [cl,cR,iF,show¬ b=0 by omega,Int.tdiv_eq_ediv_of_nonneg c.1,ai (n:=a/b) ⟨by omega,by omega⟩]
theorem div_pow (i B:Int) (a:0<B) (n:Nat):i/B^n/B=i/B^(n+1):=by
 rw [Int.pow_succ,Int.ediv_ediv_of_nonneg (Int.le_of_lt (Int.pow_pos a))]
theorem EL {i B:Int} (hi:0≤i∧i<2^62) (a:0<B) (n:Nat):0≤i/B^n∧i/B^n<2^62:=by
 have b:0<B^n:=Int.pow_pos a;have c:i/B^n≤i:=Int.ediv_le_self _ hi.1;exact ⟨Int.ediv_nonneg hi.1 (by omega),by omega⟩
theorem Lg {p:aU} (h:ew p≤60):dD p≤2^60:=by
 unfold dD;have:=Nat.pow_le_pow_right (n:=2) (by omega) (show(ew p).toNat≤60 by omega)
 exact_mod_cast this
def SL (B i:Int) (c j:Nat):List (Nat×PV):=[(1,pi (i/B^j)),(2,.ref 0 0 3),(8,.sl 1 1 0 j j),(25,pi c),(26,pi j)]
def wK (p:aU) (i:Int) (j:Nat):PH:=[.cells 3 (au p),.cells 1 ((jI (2^p.w.toNat) i j).map pi)]
def SI7 (p:aU) (B i:Int) (c j:Nat) (fr:PF) (h:PH):Prop:=h=wK p i j∧∀t∈SL B i c j,fr.get t.1=t.2
theorem EM {p:aU} {B i:Int} {c j:Nat}:SI7 p B i c j (PF.tm (SL B i c j)) (wK p i j):=⟨rfl,fun t a=>by
 simp only [SL,avy,avQ,or_false]at a
 rcases a with rfl|rfl|rfl|rfl|rfl<;>simp [SL]⟩
theorem Lh {p:aU} {i:Int} (g:gZ p) (h:bm p=true) (q:ew p≤60) (hi:0≤i∧i<dD p):Fz E O 46 [.agg (au p),pi i] (.hZ [jh (dy p i),pi 0]):=by
 refine fM.body (F:=a46) rfl rfl rfl ?_;have k:=pk h;have N:=lQ h;have K:=fT k;have L:=Lg q
 have H:0≤i∧i<2^62:=⟨hi.1,by omega⟩
 have o:=EK g;have e:pT p=[pi (dD p),pi 0]:=by simp [pT,h];omega
 rw [e]at o
 obtain ⟨S,n⟩:∃S,dD p=S:=⟨_,rfl⟩
 rw [n]at o hi;have m:¬ i<0:=by omega
 have I:¬ S≤i:=by omega
 obtain ⟨c,v⟩:∃c:Nat,eU p=c:=⟨(eU p).toNat,by omega⟩
 have y:=yw g (oB g);rw [v]at y;simp (maxSteps:=9^7)-implicitDefEqProofs+contextual [-getElem?_pos,avf,a46,au];refine aF (o) ?_ ?_ ?_
 iterate 2· simp (maxDischargeDepth:=8)-implicitDefEqProofs [-getElem?_pos,avf,au]
 simp (maxSteps:=9^7)-implicitDefEqProofs [-getElem?_pos,avf,m,I,au];refine aF (y) ?_ ?_ ?_
 iterate 2· simp (maxDischargeDepth:=8)-implicitDefEqProofs [-getElem?_pos,avf,au]
 simp (maxSteps:=9^7)-implicitDefEqProofs+contextual [-getElem?_pos,avf];refine dV (SI7 p (2^p.w.toNat) i c) c (bX (h2:=wK p i 0) [0,9] (SL (2^p.w.toNat) i c 0) ?_ ?_ ?_ ?_ ?_ ?_) EM ?_
 ·simp [wK,SL,au,jI]
 iterate 2· simp
 ·intro b J;omega
 iterate 2· simp (maxDischargeDepth:=8)-implicitDefEqProofs [aj,avf,wK,SL,au,jI]
 rintro j P h M ⟨rfl,t⟩;simp only [SL,avy,avQ,or_false,forall_eq_or_imp,forall_eq]at t;obtain ⟨f,d,z,f25,f26⟩:=t;have shl:=zJ k;have shr:=abU (EL H (show(0:Int)<2^p.w.toNat by omega) j) k;have and:=DO (x:=i/(2^p.w.toNat)^j) (w:=p.w.toNat) (by omega);have A:=div_pow i (2^p.w.toNat) (by omega) j
 obtain ⟨B,a⟩:∃B:Int,2^p.w.toNat=B:=⟨_,rfl⟩
 rw [a]at shl shr and A K f⊢;rw [A]at shr
 obtain ⟨u,l⟩:∃u,i/B^j=u:=⟨_,rfl⟩
 rw [l]at shr and f;by_cases s:j<c
 ·have D:IntKind.i64.wrap ((j:Int)+1)=((j+1:Nat):Int):=ai ⟨by omega,by omega⟩
  have C:IntKind.i64.wrap (B- 1)=B- 1:=ai ⟨by omega,by omega⟩;simp (maxSteps:=9^7)-implicitDefEqProofs+contextual [-getElem?_pos,avf,f,d,z,f25,f26,s,wK,au,shl,C,and,a];apply cj
  iterate 9· first|rfl|omega|(simp-implicitDefEqProofs [-getElem?_pos,avf];first|done|rfl|omega)
  simp (maxSteps:=9^7)-implicitDefEqProofs+contextual [-getElem?_pos,avf,f,d,f25,f26,shr,D];refine .ny s (bX (h2:=wK p i (j+1)) [0,1] (SL B i c (j+1)) ?_ ?_ ?_ ?_ ?_ ?_) EM
  ·simp [wK,SL,au,jI,l,a,d,f25]
  iterate 2· simp
  ·intro b J;omega
  iterate 2· simp (maxDischargeDepth:=8)-implicitDefEqProofs [aj,avf,wK,SL,au,jI,l,a,d,f25]
 ·obtain rfl:j=c:=by omega
  have r:jI B i j=dy p i:=by rw [dy,a,v];rfl
  simp (maxSteps:=9^7)-implicitDefEqProofs+contextual [-getElem?_pos,avf,f,d,z,f25,f26,wK,a,r];have G:(dy p i).length=j:=by rw [←r,iB]
  refine bW ?_;simp (maxDischargeDepth:=8)-implicitDefEqProofs [G]
def Li (B i:Int) (j:Nat):List (Nat×PV):=[(1,pi (i/B^j)),(2,.ref 0 0 3),(5,.sl 1 1 0 j j),(6,pi j)]
def RI7 (p:aU) (B i:Int) (c j:Nat) (fr:PF) (h:PH):Prop:=h=wK p i j∧∀t∈Li B i j,fr.get t.1=t.2
theorem EN {p:aU} {B i:Int} {c j:Nat}:RI7 p B i c j (PF.tm (Li B i j)) (wK p i j):=⟨rfl,fun t a=>by
 simp only [Li,avy,avQ,or_false]at a
 rcases a with rfl|rfl|rfl|rfl<;>simp [Li]⟩
theorem Lj {p:aU} {i:Int} (z:gZ p) (h:bm p=true) (D:0≤i∧i<2^62):Fz E O 50 [.agg (au p),pi i] (jh (dy p i)):=by
 refine fM.body (F:=a50) rfl rfl rfl ?_;have A:=pk h;have J:=lQ h;have H:=fT A
 obtain ⟨c,v⟩:∃c:Nat,eU p=c:=⟨(eU p).toNat,by omega⟩
 have r:=vd z;rw [v]at r;have k:=K8 (n:=p.w.toNat) (by omega);rw [show((p.w.toNat:Nat):Int)=p.w by omega]at k;simp (maxSteps:=9^7)-implicitDefEqProofs+contextual [-getElem?_pos,avf,a50,au];refine dV (RI7 p (2^p.w.toNat) i c) c (bX (h2:=wK p i 0) [0,9] (Li (2^p.w.toNat) i 0) ?_ ?_ ?_ ?_ ?_ ?_) EN ?_
 ·simp [wK,Li,au,jI]
 iterate 2· simp
 ·intro b G;omega
 iterate 2· simp (maxDischargeDepth:=8)-implicitDefEqProofs [aj,avf,wK,Li,au,jI]
 rintro j K h I ⟨rfl,t⟩;simp only [Li,avy,avQ,or_false,forall_eq_or_imp,forall_eq]at t;obtain ⟨f,e,l,d⟩:=t;have q:=EL D (show(0:Int)<2^p.w.toNat by omega) j;have x:=div_pow i (2^p.w.toNat) (by omega) j
 obtain ⟨B,g⟩:∃B:Int,2^p.w.toNat=B:=⟨_,rfl⟩
 rw [g]at x H f k q⊢;have rem:=Sl (a:=i/B^j) (b:=B) q.1 (by omega);have quo:=Sn (a:=i/B^j) (b:=B) q (by omega);rw [x]at quo
 obtain ⟨u,m⟩:∃u,i/B^j=u:=⟨_,rfl⟩
 rw [m]at rem quo f;by_cases o:j<c
 ·have y:IntKind.i64.wrap ((j:Int)+1)=((j+1:Nat):Int):=ai ⟨by omega,by omega⟩
  simp (maxSteps:=9^7)-implicitDefEqProofs+contextual [-getElem?_pos,avf,e,d,wK,au];refine aF (r) ?_ ?_ ?_
  iterate 2· simp (maxDischargeDepth:=8)-implicitDefEqProofs [-getElem?_pos,avf,au]
  simp (maxSteps:=9^7)-implicitDefEqProofs+contextual [-getElem?_pos,avf,d,o,l,f,e,au];refine aF (k) ?_ ?_ ?_
  iterate 2· simp (maxDischargeDepth:=8)-implicitDefEqProofs [-getElem?_pos,avf,au]
  simp (maxSteps:=9^7)-implicitDefEqProofs+contextual [-getElem?_pos,avf,f,e,l,d,rem];apply cj
  iterate 9· first|rfl|omega|(simp-implicitDefEqProofs [-getElem?_pos,avf];first|done|rfl|omega)
  simp (maxSteps:=9^7)-implicitDefEqProofs+contextual [-getElem?_pos,avf,f,e,l,d,au];refine aF (k) ?_ ?_ ?_
  iterate 2· simp (maxDischargeDepth:=8)-implicitDefEqProofs [-getElem?_pos,avf,au]
  simp (maxSteps:=9^7)-implicitDefEqProofs+contextual [-getElem?_pos,avf,f,d,quo,y];refine .ny o (bX (h2:=wK p i (j+1)) [0,1] (Li B i (j+1)) ?_ ?_ ?_ ?_ ?_ ?_) EN
  ·simp [wK,Li,au,jI,m,g,e]
  iterate 2· simp
  ·intro b G;omega
  iterate 2· simp (maxDischargeDepth:=8)-implicitDefEqProofs [aj,avf,wK,Li,au,jI,m,g,e]
 ·obtain rfl:j=c:=by omega
  have s:jI B i j=dy p i:=by rw [dy,g,v];rfl
  simp (maxSteps:=9^7)-implicitDefEqProofs+contextual [-getElem?_pos,avf,e,d,wK,au];refine aF (r) ?_ ?_ ?_
  iterate 2· simp (maxDischargeDepth:=8)-implicitDefEqProofs [-getElem?_pos,avf,au]
  simp (maxSteps:=9^7)-implicitDefEqProofs+contextual [-getElem?_pos,avf,d,o,l,g,s];have C:(dy p i).length=j:=by rw [←s,iB]
  refine bW ?_;simp (maxDischargeDepth:=8)-implicitDefEqProofs [C]
open Go Go.RowKit
def eN (p:aU) (fuel:Int):Nat→Option (List dW)
 |0=>some []
 |n+1=>(eN p fuel n).bind fun l=>(ofM p fuel (dy p n) (16384- l.length)).map fun m=>l++mn (dy p n) m
def eV (p:aU) (fuel:Int):Option (List dW):=if ew p≤60∧dD p≤4096 then eN p fuel (dD p).toNat else none
theorem yx {p:aU} {fuel:Int} {s:List Int} {most:Nat} {m:List (List Int)} (h:ofM p fuel s most=some m):m.length≤most:=by
 unfold ofM at h
 cases a:kU p fuel s with
 |none=>simp [a]at h
 |some l=>simp [a]at h;rw [←h.2];exact h.1
theorem Qf {p:aU} {fuel:Int} {s:List Int} {most:Nat} (h:most≤16384):ofM p fuel s most=(ofM p fuel s 16384).bind fun m=>if m.length≤most then some m else none:=by
 unfold ofM
 cases b:kU p fuel s with
 |none=>rfl
 |some l=>
  by_cases a:l.length≤most
  ·simp [a,show l.length≤16384 by omega]
  ·by_cases h2:l.length≤16384<;>simp [a,h2]
theorem tu {p:aU} {fuel:Int}:∀{n:Nat} {l:List dW},eN p fuel n=some l→l.length≤16384
 |0,l,h=>by simp [eN]at h;subst h;simp
 |n+1,l,h=>by
  simp only [eN]at h
  cases a:eN p fuel n with
  |none=>simp [a]at h
  |some b=>
   have c:=tu a;simp only [a,Option.bind_some]at h
   cases h2:ofM p fuel (dy p n) (16384- b.length)with
   |none=>simp [h2]at h
   |some m=>
    have:=yx h2;simp [h2]at h;subst h;simp;omega
theorem vh {p:aU} {fuel:Int} {n:Nat} (h:eN p fuel n=none):∀k,eN p fuel (n+k)=none
 |0=>h
 |k+1=>by rw [←Nat.add_assoc,eN,vh h k];rfl
def vT (p:aU) (fuel:Int):List PV:=
 if cC p fuel≠0 then [da,pi (cC p fuel)]else match eV p fuel with
  |some l=>[.fs 2 (str l),pi 0]
  |none=>[da,pi 5]
def EH (p:aU) (out:List dW):PH:=[.cells 3 (au p),.cells 2 (u7 out)]
def Lk (fuel:Int) (out:List dW) (n j:Nat):List (Nat×PV):=[(1,pi fuel),(2,.ref 0 0 3),(8,.sl 2 1 0 out.length out.length),(34,pi n),(35,pi j)]
def EI8 (p:aU) (fuel:Int) (n j:Nat) (fr:PF) (h:PH):Prop:=∃out,eN p fuel j=some out∧h=EH p out∧∀t∈Lk fuel out n j,fr.get t.1=t.2
theorem EO {p:aU} {fuel:Int} {n j:Nat} {out:List dW} (h:eN p fuel j=some out):EI8 p fuel n j (PF.tm (Lk fuel out n j)) (EH p out):=⟨out,h,rfl,fun t a=>by
 simp only [Lk,avy,avQ,or_false]at a
 rcases a with rfl|rfl|rfl|rfl|rfl<;>simp [Lk]⟩
theorem Ll {h:PH} {s:List Int} {m:List (List Int)}:eB h 2 m.length (.fs 2 (str (mn s m)))=some (u7 (mn s m)):=by
 simp only [eB];rw [if_pos ⟨trivial,by simp⟩,avn (by simp)];rfl
theorem yy {p:aU} {fuel:Int} (g:gZ p):Fz E O 17 [.agg (au p),pi fuel] (.hZ (vT p fuel)):=by
 refine fM.body (F:=a17) rfl rfl rfl ?_;simp (maxSteps:=9^7)-implicitDefEqProofs+contextual [-getElem?_pos,avf,a17,au];refine aF (qR g) ?_ ?_ ?_
 iterate 2· simp (maxDischargeDepth:=8)-implicitDefEqProofs [-getElem?_pos,avf,au]
 cases h:bm p with
 |false=>
  have e:vT p fuel=[da,pi 30]:=by simp [vT,cC,h]
  rw [e];simp (maxSteps:=9^7)-implicitDefEqProofs+contextual [-getElem?_pos,avf,h];refine bW ?_;simp
 |true=>
  by_cases c:fuel<0
  ·have e:vT p fuel=[da,pi 1]:=by simp [vT,cC,h,c]
   rw [e];simp (maxSteps:=9^7)-implicitDefEqProofs [-getElem?_pos,avf,h,c];refine bW ?_;simp
  by_cases h2:4096<fuel
  ·have e:vT p fuel=[da,pi 1]:=by simp [vT,cC,h,c,h2]
   rw [e];simp (maxSteps:=9^7)-implicitDefEqProofs [-getElem?_pos,avf,h,c,h2];refine bW ?_;simp
  have N:cC p fuel=0:=by simp [cC,h];omega
  have A:vT p fuel=match eV p fuel with|some l=>[.fs 2 (str l),pi 0]|none=>[da,pi 5]:=by simp [vT,N]
  simp (maxSteps:=9^7)-implicitDefEqProofs [-getElem?_pos,avf,h,c,h2,au];refine aF (EK g) ?_ ?_ ?_
  iterate 2· simp (maxDischargeDepth:=8)-implicitDefEqProofs [-getElem?_pos,avf,au]
  by_cases z:ew p≤60
  case neg=>
   have e:pT p=[pi 0,pi 5]:=by simp [pT,h];omega
   rw [A,e,eV,if_neg (fun q=>z q.1)];simp (maxSteps:=9^7)-implicitDefEqProofs [-getElem?_pos,avf];refine bW ?_;simp
  have e:pT p=[pi (dD p),pi 0]:=by simp [pT,h];omega
  rw [e];by_cases y:dD p≤4096
  case neg=>
   have r:4096<dD p:=by omega
   rw [A,eV,if_neg (fun q=>y q.2)];simp (maxSteps:=9^7)-implicitDefEqProofs [-getElem?_pos,avf,r];refine bW ?_;simp
  have r:¬ 4096<dD p:=by omega
  rw [A,eV,if_pos ⟨z,y⟩];have R:0<dD p:=Int.pow_pos (by omega)
  obtain ⟨n,M⟩:∃n:Nat,dD p=n:=⟨(dD p).toNat,by omega⟩
  rw [M]at y r⊢;rw [Int.toNat_natCast];simp (maxSteps:=9^7)-implicitDefEqProofs [-getElem?_pos,avf,r];refine dV (EI8 p fuel n) n (bX (h2:=EH p []) [0,9] (Lk fuel [] n 0) ?_ ?_ ?_ ?_ ?_ ?_) (EO rfl) ?_
  ·simp [EH,Lk,au]
  iterate 2· simp
  ·intro b P;omega
  iterate 2· simp (maxDischargeDepth:=8)-implicitDefEqProofs [aj,avf,EH,Lk,au]
  rintro j U h T ⟨out,w,rfl,G⟩;simp only [Lk,avy,avQ,or_false,forall_eq_or_imp,forall_eq]at G;obtain ⟨f,d,t,f34,f35⟩:=G;have C:=tu w;by_cases D:j<n
  ·have I:IntKind.i64.wrap (16384- (out.length:Int))=((16384- out.length:Nat):Int):=by rw [ai ⟨by omega,by omega⟩];omega
   have H:IntKind.i64.wrap ((j:Int)+1)=((j+1:Nat):Int):=ai ⟨by omega,by omega⟩;have Q:=rR h j;have u:=fun x (J:x∈dy p j)=>AJ (oC (pk h) _ x J)
   have B:=Lh (i:=j) g h z ⟨by omega,by omega⟩;have a:=abO (fuel:=fuel) (most:=16384- out.length) g h (s:=dy p j) (by omega) u (by omega);have o:eN p fuel (j+1)=(ofM p fuel (dy p j) (16384- out.length)).map fun m=>out++mn (dy p j) m:=by rw [eN,w];rfl
   obtain ⟨s,K⟩:∃s,dy p j=s:=⟨_,rfl⟩
   rw [K]at B a o;simp (maxSteps:=9^7)-implicitDefEqProofs+contextual [-getElem?_pos,avf,f,d,t,f34,f35,D,EH,au];refine aF (B) ?_ ?_ ?_
   iterate 2· simp (maxDischargeDepth:=8)-implicitDefEqProofs [-getElem?_pos,avf,au]
   simp (maxSteps:=9^7)-implicitDefEqProofs+contextual [-getElem?_pos,avf,f,d,t,au,I];refine aF (a) ?_ ?_ ?_
   iterate 2· simp (maxDischargeDepth:=8)-implicitDefEqProofs [-getElem?_pos,avf,au]
   cases v:ofM p fuel s (16384- out.length)with
   |none=>
    have L:eN p fuel n=none:=by
     have:=vh (show eN p fuel (j+1)=none by rw [o,v];rfl) (n- (j+1));rwa [show j+1+(n- (j+1))=n by omega]at this
    rw [L];simp (maxSteps:=9^7)-implicitDefEqProofs [-getElem?_pos,avf,CS];refine bW ?_;simp
   |some m=>
    have S:=yx v;rw [v]at o;simp (maxSteps:=9^7)-implicitDefEqProofs+contextual [-getElem?_pos,avf,CS,t];apply cj (k:=m.length) (new:=u7 (mn s m))
    iterate 9· first|omega|exact Ll|rfl|(simp-implicitDefEqProofs [];done)
    simp (maxSteps:=9^7)-implicitDefEqProofs+contextual [-getElem?_pos,avf,f35,H];refine .ny D (bX (h2:=EH p (out++mn s m)) [0,1] (Lk fuel (out++mn s m) n (j+1)) ?_ ?_ ?_ ?_ ?_ ?_) (EO o)
    ·simp [EH,Lk,au,eD,f,d,f34]
    iterate 2· simp
    ·intro b P;omega
    iterate 2· simp (maxDischargeDepth:=8)-implicitDefEqProofs [aj,avf,EH,Lk,au,eD,f,d,f34]
  ·obtain rfl:j=n:=by omega
   simp (maxSteps:=9^7)-implicitDefEqProofs+contextual [-getElem?_pos,avf,f,d,t,f34,f35,EH];rw [w];refine ⟨_,_,bW ?_,rfl,rfl,by simp⟩;simp (maxDischargeDepth:=8)-implicitDefEqProofs []
def yz (o:Option (List dW)):List PV:=match o with
 |some l=>[.fs 2 (str l),pb true]
 |none=>[da,pb false]
def Lm (fuel:Int) (out:List dW) (j:Nat):List (Nat×PV):=[(1,pi fuel),(2,.ref 0 0 3),(6,.sl 2 1 0 out.length out.length),(7,pi j)]
def RI8 (p:aU) (fuel:Int) (n j:Nat) (fr:PF) (h:PH):Prop:=∃out,eN p fuel j=some out∧h=EH p out∧∀t∈Lm fuel out j,fr.get t.1=t.2
theorem EP {p:aU} {fuel:Int} {n j:Nat} {out:List dW} (h:eN p fuel j=some out):RI8 p fuel n j (PF.tm (Lm fuel out j)) (EH p out):=⟨out,h,rfl,fun t a=>by
 simp only [Lm,avy,avQ,or_false]at a
 rcases a with rfl|rfl|rfl|rfl<;>simp [Lm]⟩
theorem Ln {p:aU} {fuel:Int} (r:gZ p) (h:bm p=true) (K:cC p fuel=0) (J:av p.body≤2^20):Fz E O 19 [.agg (au p),pi fuel] (.hZ (yz (eV p fuel))):=by
 refine fM.body (F:=a19) rfl rfl rfl ?_;simp (maxSteps:=9^7)-implicitDefEqProofs+contextual [-getElem?_pos,avf,a19,au];refine aF (abT r h) ?_ ?_ ?_
 iterate 2· simp (maxDischargeDepth:=8)-implicitDefEqProofs [-getElem?_pos,avf,au]
 by_cases o:ew p≤60
 case neg=>
  rw [eV,if_neg (fun q=>o q.1)];simp (maxSteps:=9^7)-implicitDefEqProofs [-getElem?_pos,avf,o,yz];refine bW ?_;simp
 have a:=Lf r h o;simp (maxSteps:=9^7)-implicitDefEqProofs [-getElem?_pos,avf,o,au];refine aF (a) ?_ ?_ ?_
 iterate 2· simp (maxDischargeDepth:=8)-implicitDefEqProofs [-getElem?_pos,avf,au]
 by_cases z:dD p≤4096
 case neg=>
  have t:4096<dD p:=by omega
  rw [eV,if_neg (fun q=>z q.2)];simp (maxSteps:=9^7)-implicitDefEqProofs [-getElem?_pos,avf,t,yz];refine bW ?_;simp
 have t:¬ 4096<dD p:=by omega
 rw [eV,if_pos ⟨o,z⟩];have P:0<dD p:=Int.pow_pos (by omega)
 obtain ⟨n,v⟩:∃n:Nat,dD p=n:=⟨(dD p).toNat,by omega⟩
 rw [v]at z t a⊢;rw [Int.toNat_natCast];simp (maxSteps:=9^7)-implicitDefEqProofs [-getElem?_pos,avf,t];refine dV (RI8 p fuel n) n (bX (h2:=EH p []) [0,9] (Lm fuel [] 0) ?_ ?_ ?_ ?_ ?_ ?_) (EP rfl) ?_
 ·simp [EH,Lm,au]
 iterate 2· simp
 ·intro b M;omega
 iterate 2· simp (maxDischargeDepth:=8)-implicitDefEqProofs [aj,avf,EH,Lm,au]
 rintro j T S R ⟨out,x,rfl,G⟩;simp only [Lm,avy,avQ,or_false,forall_eq_or_imp,forall_eq]at G;obtain ⟨g,c,d,f⟩:=G;have C:=tu x;by_cases D:j<n
 ·have H:IntKind.i64.wrap ((j:Int)+1)=((j+1:Nat):Int):=ai ⟨by omega,by omega⟩
  have N:=rR h j;have A:=Lj (i:=j) r h ⟨by omega,by omega⟩;have l:=abR (s:=dy p j) r h K (AI h j) (by omega) J;have e:eN p fuel (j+1)=(ofM p fuel (dy p j) (16384- out.length)).map fun m=>out++mn (dy p j) m:=by rw [eN,x];rfl
  rw [Qf (by omega)]at e
  obtain ⟨s,I⟩:∃s,dy p j=s:=⟨_,rfl⟩
  rw [I]at A l e
  have B:eN p fuel (j+1)=none→eN p fuel n=none:=fun q=>by
   have:=vh q (n- (j+1));rwa [show j+1+(n- (j+1))=n by omega]at this
  simp (maxSteps:=9^7)-implicitDefEqProofs+contextual [-getElem?_pos,avf,g,c,d,f,EH,au];refine aF (a) ?_ ?_ ?_
  iterate 2· simp (maxDischargeDepth:=8)-implicitDefEqProofs [-getElem?_pos,avf,au]
  simp (maxSteps:=9^7)-implicitDefEqProofs+contextual [-getElem?_pos,avf,g,c,d,f,D,au];refine aF (A) ?_ ?_ ?_
  iterate 2· simp (maxDischargeDepth:=8)-implicitDefEqProofs [-getElem?_pos,avf,au]
  simp (maxSteps:=9^7)-implicitDefEqProofs+contextual [-getElem?_pos,avf,g,c,d,f,au];refine aF (l) ?_ ?_ ?_
  iterate 2· simp (maxDischargeDepth:=8)-implicitDefEqProofs [-getElem?_pos,avf,au]
  cases w:ofM p fuel s 16384 with
  |none=>
   rw [B (by rw [e,w];rfl)];simp (maxSteps:=9^7)-implicitDefEqProofs+contextual [-getElem?_pos,avf,CU,c,d];apply cj (k:=0) (new:=[])
   iterate 9· first|omega|rfl|(simp-implicitDefEqProofs [];done)
   simp (maxSteps:=9^7)-implicitDefEqProofs [-getElem?_pos,avf,yz];refine bW ?_;simp
  |some m=>
   have Q:=yx w;rw [w]at e;simp (maxSteps:=9^7)-implicitDefEqProofs+contextual [-getElem?_pos,avf,CU,c,d];apply cj (k:=m.length) (new:=u7 (mn s m))
   iterate 9· first|omega|exact Ll|rfl|(simp-implicitDefEqProofs [];done)
   by_cases L:out.length+m.length≤16384
   ·have y:¬ 16384<(out.length:Int)+m.length:=by omega
    have u:eN p fuel (j+1)=some (out++mn s m):=by rw [e];simp [show m.length≤16384- out.length by omega]
    simp (maxSteps:=9^7)-implicitDefEqProofs [-getElem?_pos,avf,f,H,y];refine .ny D (bX (h2:=EH p (out++mn s m)) [0,1] (Lm fuel (out++mn s m) (j+1)) ?_ ?_ ?_ ?_ ?_ ?_) (EP u)
    ·simp [EH,Lm,au,eD,g,c]
    iterate 2· simp
    ·intro b M;omega
    iterate 2· simp (maxDischargeDepth:=8)-implicitDefEqProofs [aj,avf,EH,Lm,au,eD,g,c]
   ·have y:16384<(out.length:Int)+m.length:=by omega
    rw [B (by rw [e];simp;omega)];simp (maxSteps:=9^7)-implicitDefEqProofs [-getElem?_pos,avf,f,y,yz];refine bW ?_;simp
 ·obtain rfl:j=n:=by omega
  simp (maxSteps:=9^7)-implicitDefEqProofs+contextual [-getElem?_pos,avf,g,c,d,f,EH,au];refine aF (a) ?_ ?_ ?_
  iterate 2· simp (maxDischargeDepth:=8)-implicitDefEqProofs [-getElem?_pos,avf,au]
  simp (maxSteps:=9^7)-implicitDefEqProofs+contextual [-getElem?_pos,avf,d];rw [x];refine ⟨_,_,bW ?_,rfl,rfl,by simp [yz]⟩;simp (maxDischargeDepth:=8)-implicitDefEqProofs [yz]
end P
section
open Go
def Wc (S:Nat→Bool):cW→Bool
 | .call f _=>S f
 | .callv _ _=>false
 | .xt .pY _=>false
 |_=>true
def AL (S:Nat→Bool) (l:List AO):Bool:=l.all fun o=>Wc S o.o
def AM (S:Nat→Bool):AC→Bool
 | .bC l| .bz l _=>AL S l
 | .seq a b| .cond _ a b=>AM S a&&AM S b
 | .block _ a| .loop a=>AM S a
 |_=>true
theorem ER {H H':AH} {a:Addr} {vs:List Value} (h:H.st a vs=some H'):H'.bs=H.bs:=by
 unfold AH.st at h;split at h
 ·obtain ⟨_,h⟩:=aE h
  cases h;rfl
 ·cases h
theorem We {sz bytes:Nat} {H H':AH} {s x v:Value} (h:bL sz bytes H s x=some (v,H')):H'.bs=H.bs:=by
 unfold bL at h;split at h
 case h_2=>cases h
 split at h
 ·obtain ⟨_,h⟩:=aE h
  cases h;rfl
 split at h
 ·cases h
 obtain ⟨_,h⟩:=aE h;split at h
 ·split at h
  ·obtain ⟨_,h⟩:=aE h
   obtain ⟨b,a,h2⟩:=avq.1 h;cases h2;exact ER a
  ·cases h
 split at h
 ·obtain ⟨_,h⟩:=aE h
  cases h;rfl
 split at h
 ·obtain ⟨_,h⟩:=aE h
  obtain ⟨_,_,h2⟩:=avq.1 h;cases h2;rfl
 ·cases h
theorem Qg {sz:Nat} {H H':AH} {d s v:Value} (h:lq sz H d s=some (v,H')):H'.bs=H.bs:=by
 unfold lq at h;split at h
 case h_2=>cases h
 obtain ⟨c,_,h⟩:=avr.1 h;split at h
 ·cases a:c.isEmpty with
  |true=>simp only [a,cond_true,avh,avo]at h;rw [h.2]
  |false=>
   simp only [a,cond_false]at h;obtain ⟨e,b,h2⟩:=avq.1 h;cases h2;exact ER b
 ·cases h;rfl
theorem Lo {S:Nat→Bool} {o:AO} {j:Fr} {H H':AH} {r:j7} (i:Wc S o.o=true) (h:aB o.o (X.ev j) H=some (r,H')):H'.bs=H.bs:=by
 cases a:fO o.o with
 |pure=>rw [(nL a h).1]
 |load=>rw [(nM a h).1]
 |read=>rw [(nN a h).1]
 |alloc=>
  obtain ⟨aX,e,_⟩:=j9 a h;rw [e];rfl
 |st=>
  obtain ⟨c,aX,h2,_,e,_⟩:=sW a h;rw [e];rfl
 |lu=>
  obtain ⟨g,d,o⟩:=o;dsimp only at*
  cases o with
  |pq kk x k v=>
   simp only [aB]at h;split at h
   case h_2=>cases h
   split at h
   case h_2=>cases h
   obtain ⟨_,h⟩:=aE h;obtain ⟨_,_,h2⟩:=avq.1 h;cases h2;rfl
  |call f xs=>cases h;rfl
  |callv x xs=>cases i
  |app sz bytes s x=>
   obtain ⟨⟨v,m⟩,b,h2⟩:=avq.1 h;cases h2;exact We b
  |copy sz d s=>
   obtain ⟨⟨v,m⟩,b,h2⟩:=avq.1 h;cases h2;exact Qg b
  |xt k l=>
   cases k with
   |pY=>cases i
   |bad=>cases h
   |_=>cases a
  |sl sz x lo hi mx=>cases lo<;>cases a
  |_=>cases a
def Lp (S:Nat→Bool) (call:Cl):Prop:=∀f xs H v H',S f=true→call f xs H=some (v,H')→H'.bs=H.bs
section
variable{S:Nat→Bool} {call:Cl} (K:Lp S call)
include K
theorem Lq {o:AO} {n p:Fr} {H H':AH} (c:Wc S o.o=true) (h:kW call o n H=some (p,H')):H'.bs=H.bs:=by
 unfold kW at h
 cases i:o.wanted n with
 |false=>simp only [i,cond_false,avh,avo]at h;rw [h.2]
 |true=>
  simp only [i,cond_true]at h;split at h
  ·rename_i x b e
   cases h;exact Lo c e
  ·rename_i f xs b e
   have r:=Lo c e;split at h
   ·rename_i x t q
    cases h;refine (K f xs b x H' ?_ q).trans r;obtain ⟨g,d,o⟩:=o;have j:=jV e;dsimp only at*
    cases o with
    |call g a=>cases e;exact c
    |callv x a=>cases c
    |pq kk x k v=>
     simp only [aB]at e;split at e
     case h_2=>cases e
     split at e
     case h_2=>cases e
     obtain ⟨_,e⟩:=aE e;obtain ⟨_,_,h2⟩:=avq.1 e;cases h2
    |app sz bytes s x=>
     obtain ⟨⟨v,b⟩,m,h2⟩:=avq.1 e;cases h2
    |copy sz d s=>
     obtain ⟨⟨v,b⟩,m,h2⟩:=avq.1 e;cases h2
    |xt k l=>
     obtain ⟨⟨v,b⟩,m,h2⟩:=avq.1 e;cases h2
    |sl sz x lo hi mx=>cases lo<;>cases j
    |_=>cases j
   ·cases h
  ·cases h
theorem Lr:∀{l:List AO} {c b:Fr} {H H':AH},AL S l=true→ops call l c H=some (b,H')→H'.bs=H.bs
 |[],_,_,_,_,_,h=>by cases h;rfl
 |o::l,c,b,H,H',a,h=>by
  simp only [AL,List.all_cons,avj]at a;unfold ops at h;split at h
  ·rename_i d f e
   exact (Lr (by simpa [AL]using a.2) h).trans (Lq K a.1 e)
  ·cases h
theorem ES:∀{l:List AO} {c:Fr} {H:AH} {a:List (Fr×AH)},AL S l=true→kX call l c H=some a→(ie (c,H) a).2.bs=H.bs
 |[],_,_,_,_,h=>by cases h;rfl
 |o::l,c,H,a,b,h=>by
  simp only [AL,List.all_cons,avj]at b;unfold kX at h;split at h
  ·rename_i g i e
   split at h
   ·rename_i d f
    cases h;exact (ES (by simpa [AL]using b.2) f).trans (Lq K b.1 e)
   ·cases h
  ·cases h
theorem Qh {l:List AO} {ck:List (Nat×Nat×Nat)} {c i:Fr} {H H':AH} (g:AL S l=true) (h:yV call l ck c H=some (i,H')):H'.bs=H.bs:=by
 unfold yV at h;split at h
 ·rename_i d e
  obtain ⟨_,h⟩:=aE h;have:=ES K g e
  cases f:ie (c,H) d with
  |mk a b=>
   rw [f]at h this;cases h;exact this
 ·cases h
theorem iC:∀(m:Nat) {c:AC} {g f:Fr} {H H':AH} {ex:Ex},AM S c=true→aG call m c g H=some (ex,f,H')→H'.bs=H.bs
 |0,_,_,_,_,_,_,_,h=>by cases h
 |m+1,c,g,f,H,H',ex,d,h=>by
  cases c with
  |skip=>cases h;rfl
  |exit i=>cases h;rfl
  |ret=>cases h;rfl
  |bC l=>
   simp only [aG]at h;split at h
   ·rename_i a b e
    cases h;exact Lr K d e
   ·cases h
  |bz l p=>
   simp only [aG]at h;split at h
   ·rename_i a b e
    cases h;exact Qh K d e
   ·cases h
  |seq a b=>
   simp only [AM,avj]at d;simp only [aG]at h;split at h
   ·rename_i k n e
    exact (iC m d.2 h).trans (iC m d.1 e)
   ·exact iC m d.1 h
  |cond x a b=>
   simp only [AM,avj]at d;simp only [aG]at h;split at h
   ·exact iC m d.1 h
   ·exact iC m d.2 h
   ·cases h
  |block i a=>
   simp only [aG]at h;split at h
   ·rename_i j k n e
    have:=iC m (c:=a) d e;cases o:Nat.beq j i<;>simp only [o,cond_true,cond_false,avh,avo]at h<;>rw [←h.2.2]<;>exact this
   ·exact iC m (c:=a) d h
  |loop a=>
   simp only [aG]at h;split at h
   ·rename_i k n e
    exact (iC m (c:=.loop a) d h).trans (iC m (c:=a) d e)
   ·exact iC m (c:=a) d h
end
theorem Ls {E:Env} {O:kG} {S:Nat→Bool} (c:∀f F,S f=true→O f=none→E f=some F→AM S F.body=true) (d:∀f g,S f=true→O f=some g→∀xs H v H',g xs H=some (v,H')→H'.bs=H.bs):∀n,Lp S (gK E O n)
 |0=>fun _ _ _ _ _ _ h=>by cases h
 |n+1=>fun f xs H v H' b h=>by
  unfold gK at h;split at h
  · rename_i g a
    exact d f g b a xs H v H' h
  · rename_i a
    split at h
    · cases h
    · rename_i F i
      obtain ⟨_,h⟩:=aE h;split at h
      · cases h
      · rename_i ex j k _ e
        split at h
        · cases h
          exact iC (Ls c d n) n (c f F b a i) e
        · cases h
      · cases h
theorem Ca.tD {E:Env} {O:kG} {S:Nat→Bool} (b:∀f F,S f=true→O f=none→E f=some F→AM S F.body=true) (c:∀f g,S f=true→O f=some g→∀xs H v H',g xs H=some (v,H')→H'.bs=H.bs)
 {f:Nat} {xs:List Value} {H:AH} {Q:Value→AH→Prop} (a:S f=true) (h:Ca E O f xs H Q):Ca E O f xs H (fun x H'=>Q x H'∧H'.bs=H.bs):=by
 obtain ⟨n,x,H',e,q⟩:=h;exact ⟨n,x,H',e,q,Ls b c n f xs H x H' a e⟩
end
section
open Go
theorem jy {H:AH} {b:Nat} {s t:ByteArray} (h:H.bs=some (b,s)) (hs:s.size+t.size≤140737488355328):
 Ca E O 83 [.pointer (some ⟨b,0,none⟩),.string t] H (fun _ H'=>Ext H H'∧H'.bs=some (b,s++t)):=
 Ca.rm (g:=ua) (x:=.tuple #[.int .i64 t.size,.nilIface]) (H':={H with bs:=some (b,s++t)}) rfl (by simp [ua,h,hs]) ⟨⟨rfl,avk _,fun _ _=>rfl⟩,rfl⟩
theorem Qi {H:AH} {b:Nat} {s:ByteArray} (h:H.bs=some (b,s)):
 Ca E O 86 [.pointer (some ⟨b,0,none⟩)] H (fun x H'=>x= .string s∧H'=H):=
 Ca.rm (g:=IN) (x:=.string s) (H':=H) rfl (by simp [IN,h]) ⟨rfl,rfl⟩
def Qj:Nat→Nat→List UInt8
 |0,_=>[]
 |f+1,n=>if n<10 then [UInt8.ofNat (48+n)]else Qj f (n/10)++[UInt8.ofNat (48+n%10)]
theorem CW:∀(f n:Nat),n<10^f→Qj f n=Lib.decDigits n∨f=0
 |0,n,h=>.inr rfl
 |f+1,n,h=>by
  rw [Qj,Lib.decDigits];by_cases a:n<10
  ·rw [if_pos a,dif_pos a];exact .inl rfl
  ·rw [if_neg a,dif_neg a]
   rcases CW f (n/10) (by rw [Nat.pow_succ]at h;omega)with e|rfl
   ·rw [e];exact .inl rfl
   ·simp at h;omega
theorem yA:∀(f n:Nat),(Qj f n).length≤f
 |0,n=>avk _
 |f+1,n=>by
  rw [Qj];have:=yA f (n/10);split<;>simp<;>omega
def eL (n:Int):ByteArray:=⟨(if n<0 then 45::Qj 20 n.natAbs else Qj 20 n.toNat).toArray⟩
def oO (n:Int):Prop:=-9223372036854775808≤n∧n≤9223372036854775807
theorem GU {n:Int} (h:oO n):(⟨(Lib.itoa n).toArray⟩:ByteArray)=eL n:=by
 have a:=h.1;have h2:=h.2;unfold eL Lib.itoa;split
 ·rcases CW 20 n.natAbs (by omega)with e|e
  ·rw [e]
  ·cases e
 ·rcases CW 20 n.toNat (by omega)with e|e
  ·rw [e]
  ·cases e
theorem yB {H:AH} {n:Int} (h:oO n):Ca E O 84 [.int .i64 n] H (fun x H'=>x= .string (eL n)∧H'=H):=
 Ca.rm (g:=zm) (x:=.string (eL n)) (H':=H) rfl (by simp [zm,h.1,h.2,GU h]) ⟨rfl,rfl⟩
theorem eo (n:Int):(eL n).size≤21:=by
 unfold eL;have a:=yA 20 n.natAbs;have h2:=yA 20 n.toNat;split<;>simp [ByteArray.size]<;>omega
def Lt (i:Nat):ByteArray:=if i=0 then⟨#[32]⟩else⟨#[58]⟩
theorem rS (i:Nat):(Lt i).size=1:=by unfold Lt;split<;>rfl
def po (s:ByteArray) (ns:List Int):Nat→ByteArray
 |0=>s
 |j+1=>po s ns j++Lt j++eL (ns.getD j 0)
theorem pU (s:ByteArray) (a:List Int):∀j,(po s a j).size≤s.size+22*j
 |0=>by simp [po]
 |j+1=>by
  have c:=pU s a j;have h2:=eo (a.getD j 0);have b:=rS j;simp only [po,avz];omega
theorem ET {a:List Int} {v:Value} {b:Nat} {s:ByteArray} {H:AH} (D:H.n0≤H.nx) (u:fC H v a) (S:a.length≤3) (G:∀n∈a,oO n) (L:H.bs=some (b,s)) (hs:s.size≤2^40):
 Ca E O 82 [v,.pointer (some ⟨b,0,none⟩)] H (fun _ H'=>Ext H H'∧H'.bs=some (b,po s a a.length)):=by
 refine Ca.aR (F:=a82) rfl rfl rfl ?_;obtain ⟨P,U,q⟩:=u.len;simp (maxSteps:=9^7)-implicitDefEqProofs+contextual [-X.ev,a82,q];refine cn (fun k f H'=>(Ext H H'∧∃i:Nat,i+k=a.length∧H'.bs=some (b,po s a i)∧f.get 1= .pointer (some ⟨b,0,none⟩)∧f.get 5=v∧f.get 6= .int .i64 a.length∧f.get 7= .int .i64 i)) ?_ a.length ⟨Ext.refl _,0,by simp,by simpa [po]using L,by simp,by simp [q],by simp,by simp⟩;rintro k f d ⟨l,i,hi,A,c,e,j,g⟩;have C:=l.wf D;have R:=pU s a i;by_cases h:i<a.length
 ·obtain ⟨n,m⟩:∃n,a[i]?=some n:=⟨_,avg h⟩
  obtain ⟨W,Q,V,r,I⟩:=(u.ext l).at m;rw [r]at e;have o:=G n (avl m);have y:oG 3 1 [.string ⟨#[]⟩,.string ⟨#[]⟩,.string ⟨#[]⟩] d [(0,1,.string ⟨#[32]⟩),(1,1,.string ⟨#[58]⟩),(2,1,.string ⟨#[58]⟩)]=some (.slice (some ⟨d.nx,0,none⟩) 3 3,d.alloc (.cells 1 [.string ⟨#[32]⟩,.string ⟨#[58]⟩,.string ⟨#[58]⟩])):=rfl;have B:=Ext.alloc d (.cells 1 [.string ⟨#[32]⟩,.string ⟨#[58]⟩,.string ⟨#[58]⟩])
  have w:(d.alloc (.cells 1 [.string ⟨#[32]⟩,.string ⟨#[58]⟩,.string ⟨#[58]⟩])).ld ⟨d.nx,i,none⟩=some (.string (Lt i)):=by
   refine ak C ?_;have:i=0∨i=1∨i=2:=by omega
   rcases this with rfl|rfl|rfl<;>rfl
  have z:(d.alloc (.cells 1 [.string ⟨#[32]⟩,.string ⟨#[58]⟩,.string ⟨#[58]⟩])).bs=some (b,po s a i):=A;generalize T:d.alloc (.cells 1 [.string ⟨#[32]⟩,.string ⟨#[58]⟩,.string ⟨#[58]⟩])=H2 at y B w z;have p:(i:Int)<3:=by omega
  simp (maxSteps:=9^7)-implicitDefEqProofs+contextual [-X.ev,c,e,j,g,h,I,y,w,p];apply ah
  ·(simp-implicitDefEqProofs [-X.ev,c];rfl)
  refine (jy (t:=Lt i) z (by rw [rS];omega)).mono ?_;rintro x H3 ⟨N,K⟩;simp (maxSteps:=9^7)-implicitDefEqProofs+contextual [-X.ev,c,e,j,g];apply ah
  ·(simp-implicitDefEqProofs [-X.ev,c];rfl)
  refine (yB o).mono ?_;rintro x Z ⟨rfl,rfl⟩;simp (maxSteps:=9^7)-implicitDefEqProofs+contextual [-X.ev,c,e,j,g];apply ah
  ·(simp-implicitDefEqProofs [-X.ev,c];rfl)
  refine (jy (t:=eL n) K (by have:=eo n;have:=rS i;simp only [avz];omega)).mono ?_;rintro x Y ⟨M,J⟩;simp (maxSteps:=9^7)-implicitDefEqProofs+contextual [-X.ev,c,e,j,g];refine ⟨k- 1,by omega,((l.trans B).trans N).trans M,i+1,by omega,?_,r.symm,ai ⟨by omega,by omega⟩⟩;rw [J,po,List.getD_eq_getElem?_getD,m];rfl
 ·obtain rfl:i=a.length:=by omega
  simp (maxSteps:=9^7)-implicitDefEqProofs+contextual [-X.ev,c,e,j,g];exact ⟨l,A⟩
end
namespace P
open Go Go.RowKit
def yC (a b:Int):Int:=IntKind.i64.wrap (BitVec.ofInt 64 a&&&~~~BitVec.ofInt 64 b).toNat
theorem Lu (a b:Int):cl .andNot (.int .i64 a) (.int .i64 b)=some (.int .i64 (yC a b)):=rfl
def kE (level other:Int):Bool:=decide (0≤other)&&(decide (other≤15)&&decide (yC other level=0))
theorem Wf {level other:Int}:Fz E O 118 [pi level,pi other] (pb (kE level other)):=by
 refine Fz.body (F:=FJ) rfl rfl rfl rfl ?_;have b:=Lu other level;by_cases a:0≤other
 ·by_cases h2:other≤15
  ·simp (maxSteps:=9^7)-implicitDefEqProofs [-getElem?_pos,avf,FJ,kE,a,h2,b]
  ·simp (maxSteps:=9^7)-implicitDefEqProofs [-getElem?_pos,avf,FJ,kE,a,h2,b]
 ·simp (maxSteps:=9^7)-implicitDefEqProofs [-getElem?_pos,avf,FJ,kE,a]
def eG (level:Int) (l:List (Int×Int)):List (Int×Int):=l.filter fun o=>kE level o.1
theorem wL {level:Int} {l:List (Int×Int)} {i:Nat} {o:Int×Int} (h:l[i]?=some o):eG level (l.take (i+1))=if kE level o.1=true then eG level (l.take i)++[o]else eG level (l.take i):=by
 rw [avB,h];simp only [eG,List.filter_append,Option.toList_some,List.filter_cons,List.filter_nil];split<;>simp
theorem nH {level:Int} {l:List (Int×Int)}:(eG level l).length≤l.length:=List.length_filter_le ..
def TL (level:Int) (l:List (Int×Int)) (i:Nat):List (Nat×PV):=[(0,pi level),(5,.sl 2 0 0 (eG level (l.take i)).length (eG level (l.take i)).length),(8,.fs 2 (tp l)),(9,pi l.length),(10,pi i)]
def TH (level:Int) (l:List (Int×Int)) (i:Nat):PH:=[.cells 2 (rm (eG level (l.take i)))]
def TI (level:Int) (l:List (Int×Int)) (i:Nat) (fr:PF) (h:PH):Prop:=h=TH level l i∧∀t∈TL level l i,fr.get t.1=t.2
theorem CX {level:Int} {l:List (Int×Int)} {i:Nat}:TI level l i (PF.tm (TL level l i)) (TH level l i):=⟨rfl,fun t a=>by
 simp only [TL,avy,avQ,or_false]at a
 rcases a with rfl|rfl|rfl|rfl|rfl<;>simp [TL]⟩
theorem tv (l:List (Int×Int)) (i:Nat):(tp l)[i]?=(l[i]?).map fun e=>[pi e.1,pi e.2]:=by simp [tp]
theorem Wg {level:Int} {l:List (Int×Int)} (r:l.length≤2^40):Fz E O 85 [pi level,.fs 2 (tp l)] (.fs 2 (tp (eG level l))):=by
 refine fM.body (F:=a85) rfl rfl rfl ?_;simp (maxSteps:=9^7)-implicitDefEqProofs+contextual [-getElem?_pos,avf,a85];refine dV (TI level l) l.length (bX (h2:=TH level l 0) [9] (TL level l 0) ?_ ?_ ?_ ?_ ?_ ?_) CX ?_
 ·simp [TH,TL,eG]
 iterate 2· simp
 ·intro b o;omega
 iterate 2· simp (maxDischargeDepth:=8)-implicitDefEqProofs [aj,avf,TH,TL,eG]
 rintro i s h hi ⟨rfl,m⟩;simp only [TL,avy,avQ,or_false,forall_eq_or_imp,forall_eq]at m;obtain ⟨g,a,f,d,f10⟩:=m;have q:(eG level (l.take i)).length≤i:=avC nH (by simp;omega);by_cases h:i<l.length
 ·obtain ⟨e,n⟩:∃e,l[i]?=some e:=⟨_,avg h⟩
  have c:=wL (level:=level) n;have j:IntKind.i64.wrap ((i:Int)+1)=((i+1:Nat):Int):=ai ⟨by omega,by omega⟩
  obtain ⟨T,p⟩:∃T,eG level (l.take i)=T:=⟨_,rfl⟩
  rw [p]at c a q;simp (maxSteps:=9^7)-implicitDefEqProofs+contextual [-getElem?_pos,avf,g,a,f,d,f10,h,tv,n,TH,p];refine aF (Wf (level:=level) (other:=e.1)) ?_ ?_ ?_
  iterate 2· simp (maxDischargeDepth:=8)-implicitDefEqProofs [-getElem?_pos,avf]
  cases k:kE level e.1 with
  |true=>
   rw [k,if_pos rfl]at c;simp (maxSteps:=9^7)-implicitDefEqProofs+contextual [-getElem?_pos,avf,a];apply cj
   iterate 9· first|rfl|omega|(simp-implicitDefEqProofs [-getElem?_pos,avf];first|done|rfl|omega)
   simp (maxSteps:=9^7)-implicitDefEqProofs+contextual [-getElem?_pos,avf,f10,j];refine .ny h (bX (h2:=TH level l (i+1)) [0] (TL level l (i+1)) ?_ ?_ ?_ ?_ ?_ ?_) CX
   ·simp [TH,TL,c,aJ,g,f,d]
   iterate 2· simp
   ·intro b o;omega
   iterate 2· simp (maxDischargeDepth:=8)-implicitDefEqProofs [aj,avf,TH,TL,c,aJ,g,f,d]
  |false=>
   rw [k,if_neg (by simp)]at c;simp (maxSteps:=9^7)-implicitDefEqProofs+contextual [-getElem?_pos,avf,a,f10,j];refine .ny h (bX (h2:=TH level l (i+1)) [0] (TL level l (i+1)) ?_ ?_ ?_ ?_ ?_ ?_) CX
   ·simp [TH,TL,c,g,a,f,d]
   iterate 2· simp
   ·intro b o;omega
   iterate 2· simp (maxDischargeDepth:=8)-implicitDefEqProofs [aj,avf,TH,TL,c,g,a,f,d]
 ·obtain rfl:i=l.length:=by omega
  rw [avn (avk _)]at a;simp (maxSteps:=9^7)-implicitDefEqProofs+contextual [-getElem?_pos,avf,a,f,d,f10,TH];refine bW ?_;simp (maxDischargeDepth:=8)-implicitDefEqProofs []
end P
section
open Go
def CY (H:AH):AH:={H with tr:=T.put none (some none) (H.nx+1) H.tr H.nx,nx:=H.nx+1,bs:=some (H.nx,.empty)}
theorem Wh {m:Md} {d:Nat} {l:List AO} {b:List Ko} {a:Fr} {H:AH} {Q:Ex→Fr→AH→Prop}:Vx E O m (⟨none,some d,.xt .pY []⟩::l) b a H Q↔
 Vx E O (m.up (a.put d (.pointer (some ⟨H.nx,0,none⟩))) (CY H)) l b (a.put d (.pointer (some ⟨H.nx,0,none⟩))) (CY H) Q:=by
 rw [Jg _ (r:=some (.pointer (some ⟨H.nx,0,none⟩),CY H)) rfl rfl];simp [FU,v1,h2]
theorem Ext.pY (H:AH):Ext H (CY H):=⟨rfl,avH _,fun b a=>by
 have e:(CY H).raw b=H.raw b:=by
  show(match(T.put none (some none) (H.nx+1) H.tr H.nx).get none b with|some x=>x|none=>H.base b)=_;rw [T.bZ _ _ _ _ _ _ (by omega),if_neg (by omega)];rfl
 rw [AH.fN (show b<(CY H).nx by show b<H.nx+1;omega),AH.fN a,e]⟩
def pV (a b:Int):Int:=IntKind.i64.wrap (BitVec.ofInt 64 a&&&BitVec.ofInt 64 b).toNat
theorem EU (a b:Int):cl .and (.int .i64 a) (.int .i64 b)=some (.int .i64 (pV a b)):=rfl
theorem eI {a b:ByteArray} (h:a.size+b.size≤2^50):cl .add (.string a) (.string b)=some (.string (a++b)):=by
 have:¬ (((a.size+b.size:Nat):Int)>IntKind.i64.max):=by
  have:IntKind.i64.max=9223372036854775807:=by decide
  rw [this];omega
 simp only [cl,wV,if_neg this]
theorem So {H:AH} {l:List Int} (c:H.n0≤H.nx):fC (H.alloc (.cells 1 (l.map fun n=>.int .i64 n))) (.slice (some ⟨H.nx,0,none⟩) l.length l.length) l:=by
 refine ⟨some ⟨H.nx,0,none⟩,l.length,by simp [a7],fun i r hi=>?_⟩;refine ⟨H.nx,0,rfl,?_⟩;simp only [a7,avK]at hi
 cases a:l[i]? with
 |none=>rw [a]at hi;cases hi
 |some n=>
  rw [a]at hi;cases hi;have b:=(avm.1 a).1;have d:(H.alloc (.cells 1 (l.map fun n=>.int .i64 n))).get H.nx=some (.cells 1 (l.map fun n=>.int .i64 n)):=by rw [AH.eh,if_pos rfl]
  rw [b9 d c (by simp;omega)];congr 1;rw [List.drop_eq_getElem_cons (by simpa using b)];simp;rw [avg b]at a;cases a;rfl
def ey (s:ByteArray) (rs:List (List Int)):Nat→ByteArray
 |0=>s
 |j+1=>po (ey s rs j) (rs.getD j []) (rs.getD j []).length
theorem ff (s:ByteArray) (rs:List (List Int)) (h:∀r∈rs,r.length≤3):∀j,(ey s rs j).size≤s.size+66*j
 |0=>by simp [ey]
 |j+1=>by
  have c:=ff s rs h j;have h2:=pU (ey s rs j) (rs.getD j []) (rs.getD j []).length
  have b:(rs.getD j []).length≤3:=by
   rw [List.getD_eq_getElem?_getD]
   cases a:rs[j]? with
   |none=>simp
   |some r=>exact h r (avl a)
  rw [ey];omega
def nI (l:List (Int×Int)):List (List Int):=l.map fun o=>[o.1,o.2]
def AN (l:List Ev):List (List Int):=l.map fun e=>[e.kind,e.at_,e.val]
def vi (bits:Int) (r:iS) (s:ByteArray):ByteArray:=if pV bits 8=0 then s else s++(⟨#[101]⟩++eL r.en++⟨#[59]⟩)
def vj (level bits:Int) (r:iS) (s:ByteArray):ByteArray:=if pV bits 1=0 then s else ey (s++⟨#[111]⟩) (nI (P.eG level r.outs)) (P.eG level r.outs).length++⟨#[59]⟩
def vk (bits:Int) (r:iS) (s:ByteArray):ByteArray:=if pV bits 2=0 then s else ey (s++⟨#[116]⟩) (AN r.trace) r.trace.length++⟨#[59]⟩
def CZ (bits:Int) (r:iS) (s:ByteArray):ByteArray:=if pV bits 4=0 then s else s++(⟨#[99]⟩++eL r.cost++⟨#[59]⟩)
def mE (level bits:Int) (r:iS):ByteArray:=CZ bits r (vk bits r (vj level bits r (vi bits r .empty)))
open Go
open P (eG)
theorem Qk {level:Int} {l:List (Int×Int)} {F:Nat→Prop} {H:AH} {φ:Nat→Nat} {c:Value} (S:P.eK ⟨F,H,φ,[]⟩) (d:P.RF F H (.fs 2 (P.tp l)) c) (h:l.length≤2^40):
 Ca E O 85 [.int .i64 level,c] H (fun x H'=>(Ext H H'∧Rows H' 2 x (dH (eG level l)))∧H'.bs=H.bs):=by
 refine Ca.tD (S:=fun f=>f==85||f==118) (fun f G a _ k=>?_) (fun f g a i=>?_) rfl ?_
 ·simp only [Bool.or_eq_true,beq_iff_eq]at a
  rcases a with rfl|rfl<;>(cases k;rfl)
 ·simp only [Bool.or_eq_true,beq_iff_eq]at a
  rcases a with rfl|rfl<;>cases i
 ·refine (P.Wg (level:=level) h F H φ _ S (.cons (.v _) (.cons (.fs d) .nil))).mono ?_
  rintro x H' ⟨r,n,p,m,⟨rfl,rfl,_⟩,e,o,T⟩
  have no:∀x,¬ P.im ⟨F,H,φ,[]⟩ P.qZ x:=fun x q=>by
   obtain ⟨b,_,s,_⟩:=q;exact absurd (P.aW s) (avG _)
  exact ⟨⟨T.n0,T.nx,fun b j=>T.out b j (no b)⟩,P.EG (by simp [P.tp,dH,Ck,P.pi]) (P.GB e)⟩
theorem wM (bits:Int) (r:iS) (s:ByteArray):(vi bits r s).size≤s.size+30:=by
 have:=eo r.en;unfold vi;split
 ·omega
 ·simp only [avz]
  show _+(1+_+1)≤_;omega
theorem yD (l:List (Int×Int)):∀r∈nI l,r.length≤3:=by
 intro r a;simp only [nI,avN]at a;obtain ⟨x,_,rfl⟩:=a;simp
theorem EV (l:List Ev):∀r∈AN l,r.length≤3:=by
 intro r a;simp only [AN,avN]at a;obtain ⟨x,_,rfl⟩:=a;simp
theorem wN (level bits:Int) (r:iS) (s:ByteArray):(vj level bits r s).size≤s.size+66*r.outs.length+10:=by
 have a:=ff (s++⟨#[111]⟩) (nI (eG level r.outs)) (yD _) (eG level r.outs).length;have h2:=P.nH (level:=level) (l:=r.outs);unfold vj;split
 ·omega
 ·simp only [avz]at*
  have c:(⟨#[111]⟩:ByteArray).size=1:=rfl;have b:(⟨#[59]⟩:ByteArray).size=1:=rfl;omega
theorem wO (bits:Int) (r:iS) (s:ByteArray):(vk bits r s).size≤s.size+66*r.trace.length+10:=by
 have a:=ff (s++⟨#[116]⟩) (AN r.trace) (EV _) r.trace.length;unfold vk;split
 ·omega
 ·simp only [avz]at*
  have c:(⟨#[116]⟩:ByteArray).size=1:=rfl;have b:(⟨#[59]⟩:ByteArray).size=1:=rfl;omega
theorem Lv {F:Nat→Prop} {H H':AH} {φ:Nat→Nat} (S:P.eK ⟨F,H,φ,[]⟩) (X:Ext H H'):P.eK ⟨F,H',φ,[]⟩:=⟨X.wf S.wf,fun x a=>avD (S.fz x a) X.nx,fun b c s=>absurd (P.aW s) (avG _),fun b z cs e=>by simp at e,fun b es e=>by simp at e⟩
theorem Wi {F:Nat→Prop} {H H':AH} {φ:Nat→Nat} (S:P.eK ⟨F,H,φ,[]⟩) (X:Ext H H') {p:P.PV} {x:Value} (h:P.RF F H p x):P.RF F H' p x:=P.RF.mono X.n0 (fun x a=>⟨a,X.old x (S.fz x a)⟩) h
def VI (H0:AH) (b bx:Nat) (level bits:Int) (s:ByteArray) (fr:Fr) (H:AH):Prop:=Ext H0 H∧H.bs=some (b,s)∧fr.get 0= .int .i64 level∧fr.get 1= .int .i64 bits∧fr.get 5= .pointer (some ⟨bx,0,none⟩)∧fr.get 7= .pointer (some ⟨b,0,none⟩)∧fr.get 8= .func (.func 82) #[] #[.pointer (some ⟨b,0,none⟩)]
structure GW (r:iS):Prop where
 en:oO r.en
 cost:oO r.cost
 outs:∀o∈r.outs,oO o.1∧oO o.2
 trace:∀e∈r.trace,oO e.kind∧oO e.at_∧oO e.val
 lo:r.outs.length≤2^31
 lt:r.trace.length≤2^31
theorem Ql {level bits:Int} {r:iS} {F:Nat→Prop} {H:AH} {φ:Nat→Nat} {us uo ut:Value} (S:P.eK ⟨F,H,φ,[]⟩) (ho:P.RF F H (.fs 2 (P.tp r.outs)) uo) (ht:P.RF F H (.fs 3 (P.yT r.trace)) ut) (k:GW r):
 Ca E O 51 [.int .i64 level,.int .i64 bits,.agg #[.int .i64 r.en,us,uo,ut,.int .i64 r.cost,.int .i64 r.used,.int .i64 r.wh]] H (fun x H'=>x= .string (mE level bits r)∧Ext H H'):=by
 have Q:H.n0≤H.nx:=S.wf;have RK:Rows H 3 ut (dj r.trace):=P.EG (by simp [P.yT,dj,Ev.row,P.pi]) ht;refine Ca.aR (F:=a51) rfl rfl rfl ?_;have X1:=Ext.alloc H (.cells 7 [.int .i64 r.en,us,uo,ut,.int .i64 r.cost,.int .i64 r.used,.int .i64 r.wh]);have d0:(H.alloc (.cells 7 [.int .i64 r.en,us,uo,ut,.int .i64 r.cost,.int .i64 r.used,.int .i64 r.wh])).ld ⟨H.nx,0,none⟩=some (.int .i64 r.en):=ak Q rfl;have d1:(H.alloc (.cells 7 [.int .i64 r.en,us,uo,ut,.int .i64 r.cost,.int .i64 r.used,.int .i64 r.wh])).ld ⟨H.nx,1,none⟩=some us:=ak Q rfl;have d2:(H.alloc (.cells 7 [.int .i64 r.en,us,uo,ut,.int .i64 r.cost,.int .i64 r.used,.int .i64 r.wh])).ld ⟨H.nx,2,none⟩=some uo:=ak Q rfl;have d3:(H.alloc (.cells 7 [.int .i64 r.en,us,uo,ut,.int .i64 r.cost,.int .i64 r.used,.int .i64 r.wh])).ld ⟨H.nx,3,none⟩=some ut:=ak Q rfl;have d4:(H.alloc (.cells 7 [.int .i64 r.en,us,uo,ut,.int .i64 r.cost,.int .i64 r.used,.int .i64 r.wh])).ld ⟨H.nx,4,none⟩=some (.int .i64 r.cost):=ak Q rfl;have d5:(H.alloc (.cells 7 [.int .i64 r.en,us,uo,ut,.int .i64 r.cost,.int .i64 r.used,.int .i64 r.wh])).ld ⟨H.nx,5,none⟩=some (.int .i64 r.used):=ak Q rfl;have d6:(H.alloc (.cells 7 [.int .i64 r.en,us,uo,ut,.int .i64 r.cost,.int .i64 r.used,.int .i64 r.wh])).ld ⟨H.nx,6,none⟩=some (.int .i64 r.wh):=ak Q rfl;have d:(H.alloc (.cells 7 [.int .i64 r.en,us,uo,ut,.int .i64 r.cost,.int .i64 r.used,.int .i64 r.wh])).ldn ⟨H.nx,0,none⟩ 7=some [.int .i64 r.en,us,uo,ut,.int .i64 r.cost,.int .i64 r.used,.int .i64 r.wh]:=bo Q 7 rfl;generalize cM:H.alloc (.cells 7 [.int .i64 r.en,us,uo,ut,.int .i64 r.cost,.int .i64 r.used,.int .i64 r.wh])=C at X1 d0 d1 d2 d3 d4 d5 d6 d;have bT:=X1.wf Q;have XB:=Ext.pY C;have hbB:(CY C).bs=some (C.nx,.empty):=rfl;have WO:=k.lo;have ez:ByteArray.empty.size=0:=rfl;have cO:=k.lt;refine uq [.r,.r,.r] (VI C C.nx H.nx level bits .empty) rfl ?_ ?_
 case refine_2=>
  intro rest A;simp (maxSteps:=9^7)-implicitDefEqProofs+contextual [-X.ev,a51,cM,Wh];refine A _ _ ⟨XB,hbB,by simp,by simp,by simp,by simp,by simp⟩
 generalize C.nx=b;rintro j W ⟨o,w,m,s,g,f,p⟩;refine uq [.r] (VI C b H.nx level bits (vi bits r .empty)) rfl ?_ ?_
 case refine_2=>
  intro rest A;have D:=EU bits 8;have l0:=o.ld d0;have hd:=eo r.en;by_cases h:pV bits 8=0
  ·simp (maxSteps:=9^7)-implicitDefEqProofs+contextual [-X.ev,a51,m,s,g,f,p,D,h]
   exact A _ _ ⟨o,by rw [vi,if_pos h];exact w,by simp [m],by simp [s],by simp [g],by simp [f],by simp [p]⟩
  ·simp (maxSteps:=9^7)-implicitDefEqProofs+contextual [-X.ev,a51,m,s,g,f,p,D,h,l0]
   apply ah
   ·(simp-implicitDefEqProofs [-X.ev,g,f];rfl)
   refine (yB k.en).mono ?_;rintro x H3 ⟨rfl,rfl⟩;have c1:=eI (a:=⟨#[101]⟩) (b:=eL r.en) (by show 1+_≤_;omega);have c2:=eI (a:=⟨#[101]⟩++eL r.en) (b:=⟨#[59]⟩) (by rw [avz];show 1+_+1≤_;omega);simp (maxSteps:=9^7)-implicitDefEqProofs+contextual [-X.ev,g,f,c1,c2];apply ah
   ·(simp-implicitDefEqProofs [-X.ev,g,f];rfl)
   refine (jy (t:=⟨#[101]⟩++eL r.en++⟨#[59]⟩) w (by simp only [avz];show 0+(1+_+1)≤_;omega)).mono ?_;rintro x H4 ⟨X4,M⟩;simp (maxSteps:=9^7)-implicitDefEqProofs+contextual [-X.ev];exact A _ _ ⟨o.trans X4,by rw [vi,if_neg h];exact M,by simp [m],by simp [s],by simp [g],by simp [f],by simp [p]⟩
 clear o w m s g f p j W;have z1:=wM bits r .empty;generalize hE1:vi bits r .empty=s1 at z1⊢;rintro j W ⟨o,w,m,s,g,f,p⟩;refine uq [.r] (VI C b H.nx level bits (vj level bits r s1)) rfl ?_ ?_
 case refine_2=>
  intro rest A;have D:=EU bits 1;have jG:=o.wf bT;by_cases h:pV bits 1=0
  ·simp (maxSteps:=9^7)-implicitDefEqProofs+contextual [-X.ev,a51,m,s,g,f,p,D,h]
   exact A _ _ ⟨o,by rw [vj,if_pos h];exact w,by simp [m],by simp [s],by simp [g],by simp [f],by simp [p]⟩
  ·simp (maxSteps:=9^7)-implicitDefEqProofs+contextual [-X.ev,a51,m,s,g,f,p,D,h]
   apply ah
   ·(simp-implicitDefEqProofs [-X.ev,g,f];rfl)
   refine (jy (t:=⟨#[111]⟩) w (by show _+1≤_;omega)).mono ?_;rintro x H3 ⟨X3,vB⟩;have l2:=(o.trans X3).ld d2;have BQ:=X1.trans (o.trans X3);simp (maxSteps:=9^7)-implicitDefEqProofs+contextual [-X.ev,m,g,l2];apply ah
   ·(simp-implicitDefEqProofs [-X.ev,m,g];rfl)
   refine (Qk (level:=level) (Lv S BQ) (Wi S BQ ho) (by omega)).mono ?_;rintro x H4 ⟨⟨X4,gW⟩,M⟩;rw [vB]at M
   obtain ⟨T,hT⟩:∃T,eG level r.outs=T:=⟨_,rfl⟩
   have htl:T.length≤r.outs.length:=hT▸P.nH;rw [hT]at gW;have hX:Ext C H4:=(o.trans X3).trans X4;obtain ⟨xa,xc,Y⟩:=gW.len;have v:(dH T).length=(T).length:=by simp [dH]
   rw [v]at Y;simp (maxSteps:=9^7)-implicitDefEqProofs+contextual [-X.ev,g,f,Y];generalize A9:s1++⟨#[111]⟩=L at M;have aty:L.size≤s1.size+1:=by rw [←A9,avz];exact avk _
   have Z:H4.n0≤H4.nx:=hX.wf bT;refine cn (fun k j H'=>Ext H4 H'∧∃i:Nat,i+k=(T).length∧H'.bs=some (b,ey L (nI T) i)∧j.get 0= .int .i64 level∧j.get 1= .int .i64 bits∧j.get 5= .pointer (some ⟨H.nx,0,none⟩)∧j.get 7= .pointer (some ⟨b,0,none⟩)∧j.get 8= .func (.func 82) #[] #[.pointer (some ⟨b,0,none⟩)]∧j.get 30=x∧j.get 31= .int .i64 (T).length∧j.get 32= .int .i64 i) ?_ (T).length ⟨Ext.refl _,0,by simp,by simpa [ey]using M,by simp [m],by simp [s],by simp [g],by simp [f],by simp [p],by simp [Y],by simp,by simp⟩;rintro kk gv N ⟨R,i,hi,yQ,g0,g1,J,I,G,B,gn,gi⟩;have sw:=R.wf Z;have iD:=ff L (nI T) (yD _) i;by_cases rT:i<(T).length
   ·obtain ⟨e,V⟩:∃e,(T)[i]?=some e:=⟨_,avg rT⟩
    have hem:e∈r.outs:=by rw [←hT]at V;exact (List.mem_filter.1 (avl V)).1
    obtain ⟨b1,o1,c1,ue,bM⟩:=(gW.ext R).at (r:=[.int .i64 e.1,.int .i64 e.2]) (by rw [dH,avK,V];rfl);rw [v]at ue;rw [ue]at B;obtain ⟨u,Oz,K,T7,T8,q,U⟩:=eZ (H:=N) sw (z:=2) (c:=[.int .i64 0,.int .i64 0]) (vs:=[.int .i64 e.1,.int .i64 e.2]) rfl;have q0:u.ld ⟨N.nx,0,none⟩=some (.int .i64 e.1):=U 0 _ rfl;have q1:u.ld ⟨N.nx,1,none⟩=some (.int .i64 e.2):=U 1 _ rfl;clear U;replace q:u.ldn ⟨N.nx,0,none⟩ 2=some [.int .i64 e.1,.int .i64 e.2]:=q;have Jn:=K.wf sw;have Jo:=(ER Oz).trans yQ;have F6:=K.wf sw;have lj:oG 2 1 [.int .i64 0,.int .i64 0] u [(0,1,.int .i64 e.1),(1,1,.int .i64 e.2)]=some (.slice (some ⟨u.nx,0,none⟩) 2 2,u.alloc (.cells 1 [.int .i64 e.1,.int .i64 e.2])):=rfl;have X7:=Ext.alloc u (.cells 1 [.int .i64 e.1,.int .i64 e.2]);have vN:=So (l:=[e.1,e.2]) F6;have Ju:(u.alloc (.cells 1 [.int .i64 e.1,.int .i64 e.2])).bs=some (b,ey L (nI T) i):=Jo;simp only [List.map_cons,List.map_nil,List.length_cons,List.length_nil,Nat.zero_add]at vN;generalize u.alloc (.cells 1 [.int .i64 e.1,.int .i64 e.2])=H7 at lj X7 vN Ju;simp (maxSteps:=9^7)-implicitDefEqProofs+contextual [-X.ev,J,I,G,B,gn,gi,rT,bM,Oz,q0,q1,lj];apply lF
    ·(simp-implicitDefEqProofs [-X.ev,-Value.func.injEq,G,B];rfl)
    ·(simp-implicitDefEqProofs [-X.ev,G,B];rfl)
    refine (ET (X7.wf F6) vN (by simp) (by intro n hn;simp only [avy,avQ,or_false]at hn;have:=k.outs e hem;rcases hn with rfl|rfl<;>simp [this]) Ju (by omega)).mono ?_;rintro y H8 ⟨X8,ZK⟩;simp (maxSteps:=9^7)-implicitDefEqProofs+contextual [-X.ev,gn,gi];refine ⟨kk- 1,by omega,((R.trans K).trans X7).trans X8,i+1,by omega,?_,g0,g1,J,I,G,B.trans ue.symm,ai ⟨by omega,by omega⟩⟩;rw [ZK,ey,List.getD_eq_getElem?_getD,nI,avK,V];rfl
   ·obtain rfl:i=(T).length:=by omega
    simp (maxSteps:=9^7)-implicitDefEqProofs+contextual [-X.ev,J,I,B,gn,gi];apply ah
    ·(simp-implicitDefEqProofs [-X.ev,J,I];rfl)
    refine (jy (t:=⟨#[59]⟩) yQ (by show _+1≤_;omega)).mono ?_;rintro y u ⟨K,Jo⟩;simp (maxSteps:=9^7)-implicitDefEqProofs+contextual [-X.ev];exact A _ _ ⟨(hX.trans R).trans K,by rw [vj,if_neg h,hT,A9];exact Jo,by simp [g0],by simp [g1],by simp [J],by simp [I],by simp [G]⟩
 clear o w m s g f p j W;have z2:=wN level bits r s1;generalize hE2:vj level bits r s1=L at z2⊢;rintro j W ⟨o,w,m,s,g,f,p⟩;refine uq [.r] (VI C b H.nx level bits (vk bits r L)) rfl ?_ ?_
 case refine_2=>
  intro rest A;have D:=EU bits 2;have jG:=o.wf bT;by_cases h:pV bits 2=0
  ·simp (maxSteps:=9^7)-implicitDefEqProofs+contextual [-X.ev,a51,m,s,g,f,p,D,h]
   exact A _ _ ⟨o,by rw [vk,if_pos h];exact w,by simp [m],by simp [s],by simp [g],by simp [f],by simp [p]⟩
  ·simp (maxSteps:=9^7)-implicitDefEqProofs+contextual [-X.ev,a51,m,s,g,f,p,D,h]
   apply ah
   ·(simp-implicitDefEqProofs [-X.ev,g,f];rfl)
   refine (jy (t:=⟨#[116]⟩) w (by show _+1≤_;omega)).mono ?_;rintro x H3 ⟨X3,vB⟩;have l2:=(o.trans X3).ld d3;have BQ:=X1.trans (o.trans X3);have gW:=RK.ext BQ
   obtain ⟨x,hx0⟩:∃x,ut=x:=⟨_,rfl⟩
   rw [hx0]at l2 gW
   obtain ⟨H4,hH4⟩:∃H4,H3=H4:=⟨_,rfl⟩
   subst hH4;have M:=vB;have hX:Ext C H3:=o.trans X3;obtain ⟨xa,xc,Y⟩:=gW.len;have v:(dj r.trace).length=(r.trace).length:=by simp [dj]
   rw [v]at Y;simp (maxSteps:=9^7)-implicitDefEqProofs+contextual [-X.ev,l2,g,f,Y];generalize Mu:L++⟨#[116]⟩=s9 at M;have abW:s9.size≤L.size+1:=by rw [←Mu,avz];exact avk _
   have Z:H3.n0≤H3.nx:=hX.wf bT;refine cn (fun k j H'=>Ext H3 H'∧∃i:Nat,i+k=(r.trace).length∧H'.bs=some (b,ey s9 (AN r.trace) i)∧j.get 0= .int .i64 level∧j.get 1= .int .i64 bits∧j.get 5= .pointer (some ⟨H.nx,0,none⟩)∧j.get 7= .pointer (some ⟨b,0,none⟩)∧j.get 8= .func (.func 82) #[] #[.pointer (some ⟨b,0,none⟩)]∧j.get 50=x∧j.get 51= .int .i64 (r.trace).length∧j.get 52= .int .i64 i) ?_ (r.trace).length ⟨Ext.refl _,0,by simp,by simpa [ey]using M,by simp [m],by simp [s],by simp [g],by simp [f],by simp [p],by simp [Y],by simp,by simp⟩;rintro kk gv N ⟨R,i,hi,yQ,g0,g1,J,I,G,B,gn,gi⟩;have sw:=R.wf Z;have iD:=ff s9 (AN r.trace) (EV _) i;by_cases rT:i<(r.trace).length
   ·obtain ⟨e,V⟩:∃e,(r.trace)[i]?=some e:=⟨_,avg rT⟩
    have hem:e∈r.trace:=avl V;obtain ⟨b1,o1,c1,ue,bM⟩:=(gW.ext R).at (r:=[.int .i64 e.kind,.int .i64 e.at_,.int .i64 e.val]) (by rw [dj,avK,V];rfl);rw [v]at ue;rw [ue]at B;obtain ⟨u,Oz,K,T7,T8,q,U⟩:=eZ (H:=N) sw (z:=3) (c:=[.int .i64 0,.int .i64 0,.int .i64 0]) (vs:=[.int .i64 e.kind,.int .i64 e.at_,.int .i64 e.val]) rfl;have q0:u.ld ⟨N.nx,0,none⟩=some (.int .i64 e.kind):=U 0 _ rfl;have q1:u.ld ⟨N.nx,1,none⟩=some (.int .i64 e.at_):=U 1 _ rfl;have q2:u.ld ⟨N.nx,2,none⟩=some (.int .i64 e.val):=U 2 _ rfl;clear U;replace q:u.ldn ⟨N.nx,0,none⟩ 3=some [.int .i64 e.kind,.int .i64 e.at_,.int .i64 e.val]:=q;have Jn:=K.wf sw;have Jo:=(ER Oz).trans yQ;have F6:=K.wf sw;have lj:oG 3 1 [.int .i64 0,.int .i64 0,.int .i64 0] u [(0,1,.int .i64 e.kind),(1,1,.int .i64 e.at_),(2,1,.int .i64 e.val)]=some (.slice (some ⟨u.nx,0,none⟩) 3 3,u.alloc (.cells 1 [.int .i64 e.kind,.int .i64 e.at_,.int .i64 e.val])):=rfl;have X7:=Ext.alloc u (.cells 1 [.int .i64 e.kind,.int .i64 e.at_,.int .i64 e.val]);have vN:=So (l:=[e.kind,e.at_,e.val]) F6;have Ju:(u.alloc (.cells 1 [.int .i64 e.kind,.int .i64 e.at_,.int .i64 e.val])).bs=some (b,ey s9 (AN r.trace) i):=Jo;simp only [List.map_cons,List.map_nil,List.length_cons,List.length_nil,Nat.zero_add]at vN;generalize u.alloc (.cells 1 [.int .i64 e.kind,.int .i64 e.at_,.int .i64 e.val])=H7 at lj X7 vN Ju;simp (maxSteps:=9^7)-implicitDefEqProofs+contextual [-X.ev,J,I,G,B,gn,gi,rT,bM,Oz,q0,q1,q2,lj];apply lF
    ·(simp-implicitDefEqProofs [-X.ev,-Value.func.injEq,G,B];rfl)
    ·(simp-implicitDefEqProofs [-X.ev,G,B];rfl)
    refine (ET (X7.wf F6) vN (by simp) (by intro n hn;simp only [avy,avQ,or_false]at hn;have:=k.trace e hem;rcases hn with rfl|rfl|rfl<;>simp [this]) Ju (by omega)).mono ?_;rintro y H8 ⟨X8,ZK⟩;simp (maxSteps:=9^7)-implicitDefEqProofs+contextual [-X.ev,gn,gi];refine ⟨kk- 1,by omega,((R.trans K).trans X7).trans X8,i+1,by omega,?_,g0,g1,J,I,G,B.trans ue.symm,ai ⟨by omega,by omega⟩⟩;rw [ZK,ey,List.getD_eq_getElem?_getD,AN,avK,V];rfl
   ·obtain rfl:i=(r.trace).length:=by omega
    simp (maxSteps:=9^7)-implicitDefEqProofs+contextual [-X.ev,J,I,B,gn,gi];apply ah
    ·(simp-implicitDefEqProofs [-X.ev,J,I];rfl)
    refine (jy (t:=⟨#[59]⟩) yQ (by show _+1≤_;omega)).mono ?_;rintro y u ⟨K,Jo⟩;simp (maxSteps:=9^7)-implicitDefEqProofs+contextual [-X.ev];exact A _ _ ⟨(hX.trans R).trans K,by rw [vk,if_neg h,Mu];exact Jo,by simp [g0],by simp [g1],by simp [J],by simp [I],by simp [G]⟩
 clear o w m s g f p j W;have z3:=wO bits r L;generalize hE3:vk bits r L=s3 at z3⊢;rintro j W ⟨o,w,m,s,g,f,p⟩;refine uq [.r] (VI C b H.nx level bits (CZ bits r s3)) rfl ?_ ?_
 case refine_2=>
  intro rest A;have D:=EU bits 4;have l0:=o.ld d4;have hd:=eo r.cost;by_cases h:pV bits 4=0
  ·simp (maxSteps:=9^7)-implicitDefEqProofs+contextual [-X.ev,a51,m,s,g,f,p,D,h]
   exact A _ _ ⟨o,by rw [CZ,if_pos h];exact w,by simp [m],by simp [s],by simp [g],by simp [f],by simp [p]⟩
  ·simp (maxSteps:=9^7)-implicitDefEqProofs+contextual [-X.ev,a51,m,s,g,f,p,D,h,l0]
   apply ah
   ·(simp-implicitDefEqProofs [-X.ev,g,f];rfl)
   refine (yB k.cost).mono ?_;rintro x H3 ⟨rfl,rfl⟩;have c1:=eI (a:=⟨#[99]⟩) (b:=eL r.cost) (by show 1+_≤_;omega);have c2:=eI (a:=⟨#[99]⟩++eL r.cost) (b:=⟨#[59]⟩) (by rw [avz];show 1+_+1≤_;omega);simp (maxSteps:=9^7)-implicitDefEqProofs+contextual [-X.ev,g,f,c1,c2];apply ah
   ·(simp-implicitDefEqProofs [-X.ev,g,f];rfl)
   refine (jy (t:=⟨#[99]⟩++eL r.cost++⟨#[59]⟩) w (by simp only [avz];show _+(1+_+1)≤_;omega)).mono ?_;rintro x H4 ⟨X4,M⟩;simp (maxSteps:=9^7)-implicitDefEqProofs+contextual [-X.ev];exact A _ _ ⟨o.trans X4,by rw [CZ,if_neg h];exact M,by simp [m],by simp [s],by simp [g],by simp [f],by simp [p]⟩
 clear o w m s g f p j W;rintro j W ⟨o,w,m,s,g,f,p⟩;simp (maxSteps:=9^7)-implicitDefEqProofs+contextual [-X.ev,a51,f];apply ah
 ·(simp-implicitDefEqProofs [-X.ev,f];rfl)
 refine (Qi w).mono ?_;rintro x H3 ⟨rfl,rfl⟩;simp (maxSteps:=9^7)-implicitDefEqProofs+contextual [-X.ev];exact ⟨by rw [mE,hE1,hE2,hE3],X1.trans o⟩
end
namespace P
open Go Go.RowKit
theorem Fz.abX {f:Nat} {args:List PV} {y:Value} (k:∀F H φ vs,eK ⟨F,H,φ,[]⟩→dA ⟨F,H,φ,[]⟩ args vs→Ca E O f vs H (fun x H'=>x=y∧Ext H H')):Fz E O f args (.v y):=by
 intro F H φ vs S d;refine (k F H φ vs S d).mono ?_;rintro x H' ⟨rfl,X⟩
 have T:dR 0 qZ ⟨F,H,φ,[]⟩ ⟨F,H',φ,[]⟩:=⟨X.n0,X.nx,fun x c=>⟨c,X.old x (S.fz x c)⟩,fun _ _ _ h=>h,fun x c _=>X.old x c,fun b a=>absurd (aW a) (avG _),fun _=>avk _,fun b a=>absurd a (avG _),fun b a=>absurd a (avG _),fun b a=>absurd a (avG _)⟩
 exact ⟨_,[],F,φ,⟨rfl,rfl,rfl⟩,.v _,Lv S X,T⟩
theorem Lw {level bits:Int} {r:iS} (k:GW r):Fz E O 51 [pi level,pi bits,.agg (du r)] (.v (.string (mE level bits r))):=
 Fz.abX fun F H l i S f=>by
  cases f with|cons a f=>
  cases f with|cons b f=>
  cases f with|cons c f=>
  cases f;cases a;cases b;obtain ⟨cs,rfl,h⟩:=pj (by simp [du,tn]) c
  cases h with|cons a h=>
  cases h with|cons i h=>
  cases h with|cons j h=>
  cases h with|cons g h=>
  cases h with|cons b h=>
  cases h with|cons d h=>
  cases h with|cons e h=>
  cases h;cases a;cases b;cases d;cases e;exact Ql S j g k
theorem Wj {level bits:Int} {r:iS} (k:GW r) (d:0≤level∧level≤15) (e:0≤bits∧bits≤15):Fz E O 21 [pi level,pi bits,.agg (du r)] (.hZ [.v (.string (mE level bits r)),pi 0]):=by
 refine Fz.body (F:=a21) rfl rfl rfl (by simp) ?_;have c:¬ level<0:=by omega
 have h2:¬ 15<level:=by omega
 have b:¬ bits<0:=by omega
 have a:¬ 15<bits:=by omega
 simp (maxSteps:=9^7)-implicitDefEqProofs [-getElem?_pos,avf,a21,du,c,h2,b,a];refine aF (Lw (level:=level) (bits:=bits) k) ?_ ?_ ?_
 iterate 2· simp (maxDischargeDepth:=8)-implicitDefEqProofs [-getElem?_pos,avf,du]
 simp (maxSteps:=9^7)-implicitDefEqProofs [-getElem?_pos,avf]
theorem Wl {v c:Int}:Fz E O 65 [pi v,pi c] (.agg (iG (.mk 1 v c []))):=by
 refine fM.body (F:=a65) rfl rfl rfl ?_;simp (maxSteps:=9^7)-implicitDefEqProofs+contextual [-getElem?_pos,avf,a65,iG,iJ];refine bW ?_;simp
theorem Qm {n:Int}:Fz E O 67 [pi n] (.agg (iG (.mk 0 n 0 []))):=by
 refine fM.body (F:=a67) rfl rfl rfl ?_;simp (maxSteps:=9^7)-implicitDefEqProofs+contextual [-getElem?_pos,avf,a67,iG,iJ];refine bW ?_;simp
theorem abY {op:Int} {l:List ch}:Fz E O 66 [pi op,.fs 4 (iJ l)] (.agg (iG (.mk op 0 0 l))):=by
 refine fM.body (F:=a66) rfl rfl rfl ?_;simp (maxSteps:=9^7)-implicitDefEqProofs+contextual [-getElem?_pos,avf,a66,iG,iJ];refine bW ?_;simp
def C1:Option PB→List PV
 |some (.cells _ cs)=>cs
 |_=>[]
def Sp (sz:Nat):Option PB→Bool
 |some (.cells z cs)=>decide (z=sz)
 |_=>false
theorem EW {A:Nat→Prop} {h:PH}:∀{ps a:List PV},Ep A h ps a→ps.length=a.length
 |[],[],_=>rfl
 |p::ps,q::a,k=>by simp [EW k.2]
 |[],q::a,k=>k.elim
 |p::ps,[],k=>k.elim
theorem vn {A:Nat→Prop} {h:PH} {sz b n:Nat} {rows:List (List PV)} (k:A b) (c:Sp sz h[b]?=true) (i:0<sz) (g:rows.length=n) (f:∀r∈rows,r.length=sz) (d:Ep A h (C1 h[b]?) rows.flatten):Vz A h (.sl sz b 0 n n) (.fs sz rows)↔True:=⟨fun _=>trivial,fun _=>by
 unfold Sp at c;split at c
 case h_2=>cases c
 rename_i z cs e;simp only [avs]at c;subst c;rw [e]at d
 have m:rows.flatten.length=n*z:=by
  rw [←g];clear d g
  induction rows with
  |nil=>simp
  |cons r l ih=>simp [f r (by simp),ih fun x j=>f x (by simp [j]),Nat.succ_mul];omega
 have a:cs.length=n*z:=by
  exact (EW d).trans m
 refine Am k e (by simp [a]) i (avk _) (avk _) g f ?_;simp only [Nat.zero_mul,List.drop_zero];rw [avn (by omega)]
 exact d⟩
theorem nJ {A:Nat→Prop} {a:Nat→Nat} {h j:PH} {sz b n:Nat} {rows:List (List PV)} (i:A b) (g:Sp sz h[b]?=true) (c:0<sz) (f:rows.length=n) (e:∀r∈rows,r.length=sz) (d:Ep A h (C1 h[b]?) rows.flatten):Vg A a h j (.sl sz b 0 n n) (.fs sz rows)↔True:=⟨fun _=>trivial,fun _=>oL ((vn i g c f e d).2 trivial)⟩
def EX:bF:=.mk 4 0 [] [] []
def Wm:ch:=.mk 13 0 0 [.mk 1 0 0 [],.mk 0 1 0 []]
def pW:aU:=⟨1,[⟨⟨#[104]⟩,1,1⟩],[EX,.mk 1 0 [Wm] [EX] []]⟩
theorem abZ:Fz E O 36 [] (.agg (au pW)):=by
 refine fM.body (F:=a36) rfl rfl rfl ?_;simp (maxSteps:=9^7)-implicitDefEqProofs+contextual [-getElem?_pos,avf,a36];refine aF (Wl (v:=0) (c:=0)) ?_ ?_ ?_
 iterate 2· simp (maxDischargeDepth:=8)-implicitDefEqProofs [-getElem?_pos,avf]
 simp (maxSteps:=9^7)-implicitDefEqProofs+contextual [-getElem?_pos,avf,iG,iJ];refine aF (Qm (n:=1)) ?_ ?_ ?_
 iterate 2· simp (maxDischargeDepth:=8)-implicitDefEqProofs [-getElem?_pos,avf]
 simp (maxSteps:=9^7)-implicitDefEqProofs+contextual [-getElem?_pos,avf,iG,iJ];refine rL [5] (abY (op:=13) (l:=[.mk 1 0 0 [],.mk 0 1 0 []])) ?_ ?_
 ·simp (maxDischargeDepth:=8)-implicitDefEqProofs [-getElem?_pos,avf,iG,iJ,nJ,Sp,C1]
 simp (maxSteps:=9^7)-implicitDefEqProofs+contextual [-getElem?_pos,avf,iG,iJ,bR];refine bW ?_;simp (maxDischargeDepth:=12)-implicitDefEqProofs [au,pW,Wm,EX,bQ,iK,iG,iJ,mD,As,nJ,vn,Sp,C1,qZ]
open Go Go.RowKit
def Qn (c:dY):Prop:=0≤c.en∧c.en≤4
theorem Qo {p:aU} {ps:List Int} {c:dY} (h:Qn c):Qn (bI p ps c):=by
 unfold bI;split
 ·exact h
 split
 ·exact h
 split
 ·exact ⟨by simp [dZ],by simp [dZ]⟩
 ·rename_i k s next _ _
  obtain ⟨op,n,args,a,b⟩:=s;unfold cN
  repeat' split
  all_goals first
   |exact h
   |exact ⟨by simp [dZ],by simp [dZ]⟩
theorem EY {p:aU} {ps:List Int}:∀(n:Nat) {c:dY},Qn c→Qn (iterM p ps n c)
 |0,_,h=>h
 |n+1,_,h=>EY n (Qo h)
theorem Lx (p:aU) (fuel:Int) (t:dW):0≤(gJ p fuel t).en∧(gJ p fuel t).en≤4:=by
 unfold gJ;split
 ·exact EY _ (c:=ee p fuel t) ⟨by simp [ee],by simp [ee]⟩
 ·exact ⟨by decide,by decide⟩
def bump (a:List Int) (e:Nat):List Int:=a.set e (a.getD e 0+1)
def fK (p:aU) (fuel:Int) (l:List dW):Nat→List Int
 |0=>[0,0,0,0,0]
 |j+1=>bump (fK p fuel l j) (gJ p fuel (l.getD j ⟨[],[]⟩)).en.toNat
theorem AP (p:aU) (fuel:Int) (l:List dW):∀j,(fK p fuel l j).length=5
 |0=>rfl
 |j+1=>by simp [fK,bump,AP p fuel l j]
theorem EZ (p:aU) (fuel:Int) (l:List dW):∀j,∀x∈fK p fuel l j,0≤x∧x≤j
 |0,x,h=>by simp [fK]at h;subst h;simp
 |j+1,x,h=>by
  have ih:=EZ p fuel l j;rcases List.mem_or_eq_of_mem_set h with h|h
  ·have:=ih x h;omega
  ·rw [h,List.getD_eq_getElem?_getD]
   cases a:(fK p fuel l j)[(gJ p fuel (l.getD j ⟨[],[]⟩)).en.toNat]? with
   |none=>simp;omega
   |some y=>have:=ih y (avl a);simp;omega
def Sq (p:aU) (fuel:Int):List PV:=
 if cC p fuel≠0 then [.agg [pi 0,pi 0,pi 0,pi 0,pi 0],pi (cC p fuel)]else match eV p fuel with
  |some l=>[.agg ((fK p fuel l l.length).map pi),pi 0]
  |none=>[.agg [pi 0,pi 0,pi 0,pi 0,pi 0],pi 5]
def NH (p:aU) (c:List Int):PH:=[.cells 3 (au p),.cells 5 [pi 0,pi 0,pi 0,pi 0,pi 0],.cells 5 (c.map pi)]
def NL (fuel:Int) (e:Int) (l:List dW) (j:Nat):List (Nat×PV):=[(1,pi fuel),(2,.ref 0 0 3),(4,.ref 1 0 5),(7,pi e),(8,.ref 2 0 5),(19,.fs 2 (str l)),(20,pi l.length),(21,pi j)]
def NI (p:aU) (fuel e:Int) (l:List dW) (j:Nat) (fr:PF) (h:PH):Prop:=h=NH p (fK p fuel l j)∧∀t∈NL fuel e l j,fr.get t.1=t.2
theorem Ly {p:aU} {fuel e:Int} {l:List dW} {j:Nat}:NI p fuel e l j (PF.tm (NL fuel e l j)) (NH p (fK p fuel l j)):=⟨rfl,fun t a=>by
 simp only [NL,avy,avQ,or_false]at a
 rcases a with rfl|rfl|rfl|rfl|rfl|rfl|rfl|rfl<;>simp [NL]⟩
theorem yE (l:List Int):dN (l.map pi)=true:=by
 induction l with
 |nil=>rfl
 |cons a l ih=>simp [ih]
theorem vq {α:Type} {q:α}:∀{xs:List (Option (List α))} {l:List α},hY xs=some l→q∈l→∃m,some m∈xs∧q∈m
 |[],l,e,h=>by simp [hY]at e;subst e;simp at h
 |x::xs,l,e,h=>by
  simp only [hY]at e
  cases x with
  |none=>simp at e
  |some m=>
   cases a:hY xs with
   |none=>simp [a]at e
   |some b=>
    simp only [a,Option.bind_some,Option.map_some,avh]at e;subst e;rcases avA.1 h with h|h
    ·exact ⟨m,by simp,h⟩
    ·obtain ⟨c,d,h2⟩:=vq a h
     exact ⟨c,by simp [d],h2⟩
def okQ (q:List Int):Prop:=∀n∈q,0≤n∧n<256
theorem wP {p:aU} {fuel:Int} {s:List Int} (k:bP p≤256):∀(d:Nat) {ps:List Int} {l:List (List Int)},leaves p fuel s d ps=some l→okQ ps→∀q∈l,q.length≤ps.length+d∧okQ q
 |0,ps,l,e,h,q,b=>by
  rw [leaves]at e;split at e
  ·cases e
  ·cases e;simp at b;subst b;exact ⟨by simp,h⟩
 |d+1,ps,l,e,h,q,b=>by
  rw [leaves]at e;split at e
  ·obtain ⟨m,i,h2⟩:=vq e b
   simp only [avN]at i;obtain ⟨u,c,o⟩:=i;have r:=nD c
   have f:okQ u:=by
    simp only [kids,avN,List.mem_range]at c;obtain ⟨a,t,rfl⟩:=c;intro n j;rcases avA.1 j with g|g
    ·exact h n g
    ·simp at g;omega
   have:=wP k d o f q h2;exact ⟨by omega,this.2⟩
  ·cases e;simp at b;subst b;exact ⟨by simp,h⟩
theorem Wn {p:aU} {fuel:Int} {s:List Int} {most:Nat} {m:List (List Int)} (e:bm p=true) (hs:s.length<2^60) (f:∀n∈s,lC n) (h:ofM p fuel s most=some m):∀t∈mn s m,CB t:=by
 unfold ofM at h
 cases b:kU p fuel s with
 |none=>simp [b]at h
 |some l=>
  simp [b]at h;obtain ⟨_,rfl⟩:=h;intro t c;simp only [mn,avN]at c;obtain ⟨q,d,rfl⟩:=c;have:=wP (rP e) _ b (by intro n a;simp at a) q d;refine ⟨hs,by have:=this.1;simp at this;show q.length<_;omega,f,fun n a=>?_⟩;have:=this.2 n a;exact ⟨by omega,by omega⟩
theorem Lz {p:aU} {fuel:Int} (h:bm p=true):∀{n:Nat} {l:List dW},eN p fuel n=some l→∀t∈l,CB t
 |0,l,e=>by simp [eN]at e;subst e;simp
 |n+1,l,e=>by
  simp only [eN]at e
  cases b:eN p fuel n with
  |none=>simp [b]at e
  |some c=>
   have f:=Lz h b;simp only [b,Option.bind_some]at e
   cases h2:ofM p fuel (dy p n) (16384- c.length)with
   |none=>simp [h2]at e
   |some m=>
    simp [h2]at e;subst e;intro t a;rcases avA.1 a with a|a
    ·exact f t a
    ·have:=rR h n
     exact Wn h (show(dy p n).length<2^60 by omega) (fun x d=>AJ (oC (pk h) _ x d)) h2 t a
theorem qS {p:aU} {fuel:Int} (h:bm p=true) {l:List dW} (e:eV p fuel=some l):(∀t∈l,CB t)∧l.length≤16384:=by
 unfold eV at e;split at e
 ·exact ⟨Lz h e,tu e⟩
 ·cases e
theorem AQ {p:aU} {fuel:Int}:∃x e l,vT p fuel=[x,pi e]∧(x= .fs 2 (str l)∨(x=da∧l=[]))∧Sq p fuel=[.agg ((fK p fuel l l.length).map pi),pi e]∧(∀t∈l,CB t)∧l.length≤16384:=by
 by_cases a:cC p fuel=0
 case neg=>exact ⟨da,cC p fuel,[],by simp [vT,a],.inr ⟨rfl,rfl⟩,by simp [Sq,a,fK],by simp,by simp⟩
 have c:bm p=true:=by
  cases h:bm p with
  |true=>rfl
  |false=>simp [cC,h]at a
 cases b:eV p fuel with
 |none=>exact ⟨da,5,[],by simp [vT,a,b],.inr ⟨rfl,rfl⟩,by simp [Sq,a,b,fK],by simp,by simp⟩
 |some l=>exact ⟨.fs 2 (str l),0,l,by simp [vT,a,b],.inl rfl,by simp [Sq,a,b],(qS c b).1,(qS c b).2⟩
theorem LA {c:List Int} {k:Nat} (a:k<c.length):vQ (c.map pi) k [pi (c.getD k 0+1)]=(bump c k).map pi:=by
 rw [kT (by simpa using a)];simp [bump]
theorem Fz.nil {f sz:Nat} {args:List PV} {y:PV} (k:Fz E O f args (.hZ [da,y])):Fz E O f args (.hZ [.fs sz [],y]):=by
 intro F H e g S n;refine (k F H e g S n).mono ?_;rintro x q ⟨r,p,o,c,⟨rfl,rfl,j⟩,h,m,T⟩;refine ⟨_,[],o,c,⟨rfl,rfl,by simpa using j⟩,?_,m,T⟩
 cases h with|hZ a=>
 cases a with|cons a b=>
 cases a;exact .hZ (.cons (.fs (.fs (rows:=[]) (rs:=[]) ⟨_,_,rfl,fun i r hi=>by simp at hi⟩ (avk _) (fun d l=>by cases l) .nil)) b)
theorem Qp {p:aU} {fuel:Int} (f:gZ p):∃e l,Fz E O 17 [.agg (au p),pi fuel] (.hZ [.fs 2 (str l),pi e])∧(vT p fuel=[.fs 2 (str l),pi e]∨(vT p fuel=[da,pi e]∧l=[]))∧Sq p fuel=[.agg ((fK p fuel l l.length).map pi),pi e]∧(∀t∈l,CB t)∧l.length≤16384:=by
 obtain ⟨x,e,l,c,g,h2,a,d⟩:=AQ (p:=p) (fuel:=fuel);have b:=yy (fuel:=fuel) f;rw [c]at b;rcases g with rfl|⟨rfl,rfl⟩
 ·exact ⟨e,l,b,.inl c,h2,a,d⟩
 ·exact ⟨e,[],b.nil,.inr ⟨c,rfl⟩,h2,a,d⟩
theorem Ws {p:aU} {fuel:Int} (B:gZ p):Fz E O 18 [.agg (au p),pi fuel] (.hZ (Sq p fuel)):=by
 refine fM.body (F:=a18) rfl rfl rfl ?_;obtain ⟨e,l,N,_,h2,s,R⟩:=Qp (p:=p) (fuel:=fuel) B;rw [h2];simp (maxSteps:=9^7)-implicitDefEqProofs+contextual [-getElem?_pos,avf,a18,au];refine aF (N) ?_ ?_ ?_
 iterate 2· simp (maxDischargeDepth:=8)-implicitDefEqProofs [-getElem?_pos,avf,au]
 simp (maxSteps:=9^7)-implicitDefEqProofs+contextual [-getElem?_pos,avf];refine dV (NI p fuel e l) l.length (bX (h2:=NH p (fK p fuel l 0)) [0,1,2] (NL fuel e l 0) ?_ ?_ ?_ ?_ ?_ ?_) Ly ?_
 ·simp [NH,NL,au,fK]
 iterate 2· simp
 ·intro b m;omega
 iterate 2· simp (maxDischargeDepth:=8)-implicitDefEqProofs [aj,avf,NH,NL,au,fK]
 rintro j T h S ⟨rfl,H⟩;simp only [NL,avy,avQ,or_false,forall_eq_or_imp,forall_eq]at H;obtain ⟨r,q,o,n,d,f19,f20,f21⟩:=H;have i:=AP p fuel l j;by_cases y:j<l.length
 ·obtain ⟨t,u⟩:∃t,l[j]?=some t:=⟨_,avg y⟩
  have Q:=Lx p fuel t;have f:fK p fuel l (j+1)=bump (fK p fuel l j) (gJ p fuel t).en.toNat:=by rw [fK,List.getD_eq_getElem?_getD,u];rfl
  have m:=EZ p fuel l j;have M:=CJ (fuel:=fuel) B (s t (avl u));have J:IntKind.i64.wrap ((j:Int)+1)=((j+1:Nat):Int):=ai ⟨by omega,by omega⟩
  obtain ⟨k,D⟩:∃k:Nat,(gJ p fuel t).en=k:=⟨(gJ p fuel t).en.toNat,by omega⟩
  rw [D,Int.toNat_natCast]at f
  obtain ⟨c,I⟩:∃c,fK p fuel l j=c:=⟨_,rfl⟩
  rw [I]at i m f;have a:k<c.length:=by omega
  have G:(c.map pi)[k]?=some (pi (c.getD k 0)):=by simp [avg a]
  have K:c.getD k 0∈c:=by rw [List.getD_eq_getElem?_getD,avg a];exact List.getElem_mem _
  have L:=m _ K;have A:IntKind.i64.wrap (c.getD k 0+1)=c.getD k 0+1:=ai ⟨by omega,by omega⟩;have C:=LA a;have x:k<5:=by omega
  have w:(k:Int)<5:=by omega
  have v:k≤4:=by omega
  obtain ⟨g,z⟩:∃g,c.getD k 0=g:=⟨_,rfl⟩
  rw [z]at G A C;simp (maxSteps:=9^7)-implicitDefEqProofs+contextual [-getElem?_pos,avf,r,q,o,n,d,f19,f20,f21,y,tt,u,NH,au,cH,I];refine aF (M) ?_ ?_ ?_
  iterate 2· simp (maxDischargeDepth:=8)-implicitDefEqProofs [-getElem?_pos,avf,au,cH]
  simp (maxSteps:=9^7)-implicitDefEqProofs+contextual [-getElem?_pos,avf,du,D,d,x,w,v,G,C,A,f21,J,i];refine .ny y (bX (h2:=NH p (fK p fuel l (j+1))) [0,1,2] (NL fuel e l (j+1)) ?_ ?_ ?_ ?_ ?_ ?_) Ly
  ·simp [NH,NL,au,f,r,q,o,n,d,f19,f20,yE]
  iterate 2· simp
  ·intro b m;omega
  iterate 2· simp (maxDischargeDepth:=8)-implicitDefEqProofs [aj,avf,NH,NL,au,f,r,q,o,n,d,f19,f20,yE]
 ·obtain rfl:j=l.length:=by omega
  have P:List.take 5 ((fK p fuel l l.length).map pi)=(fK p fuel l l.length).map pi:=avn (by simp [i]);simp (maxSteps:=9^7)-implicitDefEqProofs+contextual [-getElem?_pos,avf,r,q,o,n,d,f19,f20,f21,NH,au,i,P];refine bW ?_;simp [yE]
end P
namespace P
open Go Go.RowKit
theorem Qq:bm pW=true:=by decide+kernel
theorem Wu:ofM pW 9 [0] 16384=some [[0],[1,0],[1,1]]:=by decide+kernel
theorem LB:mE 1 5 ⟨0,[],[(1,1),(2,1),(0,0)],[],4,0,0⟩=⟨#[111,32,49,58,49,32,48,58,48,59,99,52,59]⟩:=by decide+kernel
def LC:List dW:=[⟨[0],[0]⟩,⟨[0],[1,0]⟩,⟨[0],[1,1]⟩,⟨[1],[0]⟩,⟨[1],[1,0]⟩,⟨[1],[1,1]⟩]
instance:DecidableEq dW:=fun a b=>decidable_of_iff (a.store=b.store∧a.bN=b.bN) (by cases a;cases b;simp)
theorem wQ:eV pW 9=some LC:=by decide+kernel
theorem LD:fK pW 9 LC 6=[6,0,0,0,0]:=by decide+kernel
theorem C2:gZ pW:=by
 have d:lC 0:=⟨by decide,by decide⟩
 have a:lC 1:=⟨by decide,by decide⟩
 have c:lC 4:=⟨by decide,by decide⟩
 have i13:lC 13:=⟨by decide,by decide⟩
 refine ⟨a,⟨by decide,?_⟩,?_,by decide⟩
 ·intro v b
  simp only [pW,List.mem_singleton]at b;subst b;decide
 ·simp [pW,x9,EB,Hw,CA,Wm,EX,d,a,c,i13]
theorem vr:cC pW 9=0:=by simp [cC,Qq]
theorem Qr:GQ pW 9 [0]=[.fs 2 (str (mn [0] [[0],[1,0],[1,1]])),pi 0]:=by
 have h:bq pW.w pW.vars [0]=true:=by decide+kernel
 simp [GQ,vr,h,Wu,CS]
theorem Qs:vT pW 9=[.fs 2 (str LC),pi 0]:=by simp [vT,vr,wQ]
theorem Qt:Sq pW 9=[.agg [pi 6,pi 0,pi 0,pi 0,pi 0],pi 0]:=by
 simp only [Sq,vr,wQ];rw [show LC.length=6 from rfl,LD];rfl
def AR:iS:=⟨0,[],[(1,1),(2,1),(0,0)],[],4,0,0⟩
theorem LF:GW AR:=⟨⟨by decide,by decide⟩,⟨by decide,by decide⟩,by simp [AR,oO],by simp [AR],by decide,by decide⟩
theorem Qu:Fz E O 11 [] (pb true):=by
 refine fM.body (F:=a11) rfl rfl rfl ?_;have d:=alq (fuel:=9) (s:=[0]) C2 (by decide) (by intro n b;simp at b;subst b;exact ⟨by decide,by decide⟩);have f:=yy (fuel:=9) C2;have e:=Ws (fuel:=9) C2;rw [Qr]at d;rw [Qs]at f;rw [Qt]at e;have c:=Wj (level:=1) (bits:=5) LF (by decide) (by decide);rw [show mE 1 5 AR=_ from LB]at c
 have g:=V4 (l:=mn [0] [[0],[1,0],[1,1]]) (by
  intro t a;simp [mn]at a
  rcases a with rfl|rfl|rfl<;>exact ⟨by decide,by decide,by simp [lC],by simp [lC]⟩) (by decide)
 simp (maxSteps:=9^7)-implicitDefEqProofs+contextual [-getElem?_pos,avf,a11];refine aF (abZ) ?_ ?_ ?_
 iterate 2· simp (maxDischargeDepth:=8)-implicitDefEqProofs [-getElem?_pos,avf]
 simp (maxSteps:=9^7)-implicitDefEqProofs+contextual [-getElem?_pos,avf,au];refine rL [1] (d) ?_ ?_
 ·simp (maxDischargeDepth:=8)-implicitDefEqProofs [-getElem?_pos,avf,au,nJ,Sp,C1]
 simp (maxSteps:=9^7)-implicitDefEqProofs+contextual [-getElem?_pos,avf,au,bR];refine aF (f) ?_ ?_ ?_
 iterate 2· simp (maxDischargeDepth:=8)-implicitDefEqProofs [-getElem?_pos,avf,au]
 simp (maxSteps:=9^7)-implicitDefEqProofs+contextual [-getElem?_pos,avf,au];refine aF (e) ?_ ?_ ?_
 iterate 2· simp (maxDischargeDepth:=8)-implicitDefEqProofs [-getElem?_pos,avf,au]
 simp (maxSteps:=9^7)-implicitDefEqProofs+contextual [-getElem?_pos,avf,au];refine rL [3] (c) ?_ ?_
 ·simp (maxDischargeDepth:=8)-implicitDefEqProofs [-getElem?_pos,avf,du,AR,nJ,Sp,C1,tp,yT,ir]
 simp (maxSteps:=9^7)-implicitDefEqProofs+contextual [-getElem?_pos,avf,bR];refine rL [4,5,6,7,8,9,10] (g) ?_ ?_
 ·simp (maxDischargeDepth:=8)-implicitDefEqProofs [-getElem?_pos,avf,nJ,vn,Sp,C1,str,mn,cH,ir]
 have h:LC.length=6:=rfl;simp (maxSteps:=9^7)-implicitDefEqProofs [-getElem?_pos,avf,bR,h,cU,jB];rw [show bD ⟨#[111,32,49,58,49,32,48,58,48,59,99,52,59]⟩ ⟨#[111,32,49,58,49,32,48,58,48,59,99,52,59]⟩=true by decide];refine bW ?_;simp
open Go Go.RowKit
theorem AS {p:aU} {fuel:Int} (h:cC p fuel=0):bm p=true:=by
 cases a:bm p with
 |true=>rfl
 |false=>simp [cC,a]at h
end P
namespace P
open Go Go.RowKit
theorem sI {p:aU} {fuel:Int} {s:List Int} (j:bm p=true):∀(d:Nat) {ps:List Int} {l:List (List Int)},leaves p fuel s d ps=some l→(∀n∈ps,isWord p.w n=true)→∀q∈l,q.length≤ps.length+d∧∀n∈q,isWord p.w n=true
 |0,ps,l,e,h,q,b=>by
  rw [leaves]at e;split at e
  ·cases e
  ·cases e;simp at b;subst b;exact ⟨by simp,h⟩
 |d+1,ps,l,e,h,q,b=>by
  rw [leaves]at e;split at e
  ·obtain ⟨m,f,h2⟩:=vq e b
   simp only [avN]at f;obtain ⟨u,g,o⟩:=f;have t:=nD g
   have i:∀n∈u,isWord p.w n=true:=by
    simp only [kids,avN,List.mem_range]at g;obtain ⟨a,v,rfl⟩:=g;intro n k;rcases avA.1 k with c|c
    ·exact h n c
    ·simp only [List.mem_singleton]at c
     subst c;have r:=pk j;have f:bE p.w=true:=by simp [bE];omega
     have h2:(a:Int)<2^p.w.toNat:=by
      have c:(bP p:Int)=2^p.w.toNat:=by simp [bP]
      omega
     simp [isWord,f,h2]
   have:=sI j d o i q h2;exact ⟨by omega,this.2⟩
  ·cases e;simp at b;subst b;exact ⟨by simp,h⟩
theorem Qv {p:aU} {fuel:Int} {s:List Int} {most:Nat} {m:List (List Int)} (d:bm p=true) (hs:bq p.w p.vars s=true) (h:ofM p fuel s most=some m):∀t∈mn s m,jo p t=true:=by
 unfold ofM at h
 cases a:kU p fuel s with
 |none=>simp [a]at h
 |some l=>
  simp [a]at h;obtain ⟨_,rfl⟩:=h;intro t b;simp only [mn,avN]at b;obtain ⟨q,c,rfl⟩:=b;have:=sI d _ a (by intro n e;simp at e) q c;simp only [jo,hs,Bool.true_and,avj,avs,avw];exact ⟨by have:=this.1;simp at this;exact this,this.2⟩
theorem E4 {p:aU} {fuel:Int} (h:bm p=true):∀{n:Nat} {l:List dW},eN p fuel n=some l→∀t∈l,jo p t=true
 |0,l,e=>by simp [eN]at e;subst e;simp
 |n+1,l,e=>by
  simp only [eN]at e
  cases b:eN p fuel n with
  |none=>simp [b]at e
  |some c=>
   have d:=E4 h b;simp only [b,Option.bind_some]at e
   cases h2:ofM p fuel (dy p n) (16384- c.length)with
   |none=>simp [h2]at e
   |some m=>
    simp [h2]at e;subst e;intro t a;rcases avA.1 a with a|a
    ·exact d t a
    ·exact Qv h (AI h n) h2 t a
theorem rU {p:aU} {fuel:Int} (b:cC p fuel=0) {l:List dW} (e:eV p fuel=some l):∀t∈l,fQ p fuel t=0:=by
 have a:=AS b
 have d:¬ (fuel<0∨4096<fuel):=by
  intro h;simp [cC,a,h]at b
 unfold eV at e;split at e
 ·intro t c
  have:=E4 a e t c;simp [fQ,a,d,this]
 ·cases e
def Bl (p:aU) (fuel:Int) (l:List dW):List (List PV):=l.map fun t=>du (gJ p fuel t)
@[simp]theorem C3 (p:aU) (fuel:Int) (l:List dW):(Bl p fuel l).length=l.length:=by simp [Bl]
theorem Qw (p:aU) (fuel:Int) (l:List dW) (i:Nat):(Bl p fuel l)[i]?=(l[i]?).map fun t=>du (gJ p fuel t):=by simp [Bl]
def GY (p:aU) (fuel:Int) (l:List dW):List PV:=(Bl p fuel l).flatten
theorem AT (p:aU) (fuel:Int) (l:List dW) (t:dW):GY p fuel (l++[t])=GY p fuel l++du (gJ p fuel t):=by simp [GY,Bl]
@[simp]theorem C4 (p:aU) (fuel:Int):∀l,(GY p fuel l).length=l.length*7
 |[]=>rfl
 |a::l=>by
  have:=C4 p fuel l;simp only [GY,Bl,List.map_cons,List.flatten_cons,avp,List.length_cons]at*;rw [this];simp [du];omega
@[simp]theorem Qx (p:aU) (fuel:Int):∀l,dN (GY p fuel l)=true
 |[]=>rfl
 |a::l=>by
  have:=Qx p fuel l;simp only [GY,Bl,List.map_cons,List.flatten_cons]at*;rw [aj];exact ⟨by simp [du],this⟩
theorem E5 (p:aU) (fuel:Int):∀l,(GY p fuel l).all tn=true
 |[]=>rfl
 |a::l=>by
  have:=E5 p fuel l;simp only [GY,Bl,List.map_cons,List.flatten_cons]at*;rw [List.all_append,this];simp [du,tn]
theorem Wv {A:Nat→Prop} {c:Nat→Nat} {h g:PH} {b n:Nat} {p:aU} {fuel:Int} {l:List dW} (d:l.length=n) (f:A b) (e:h[b]?=some (.cells 7 (GY p fuel l))):Vg A c h g (.sl 7 b 0 n n) (.fs 7 (Bl p fuel l))↔True:=⟨fun _=>trivial,fun _=>d▸oL (mj f e (by omega) (C3 p fuel l) (by
 intro r a;simp only [Bl,avN]at a;obtain ⟨t,_,rfl⟩:=a
 rfl) (jR (E5 p fuel l)))⟩
def UL (fuel:Int) (l:List dW) (j:Nat):List (Nat×PV):=[(1,pi fuel),(2,.fs 2 (str l)),(3,.ref 0 0 3),(7,.sl 7 1 0 j j),(8,pi j)]
def UH (p:aU) (fuel:Int) (l:List dW) (j:Nat):PH:=[.cells 3 (au p),.cells 7 (GY p fuel (l.take j))]
def UI (p:aU) (fuel:Int) (l:List dW) (j:Nat) (fr:PF) (h:PH):Prop:=h=UH p fuel l j∧∀t∈UL fuel l j,fr.get t.1=t.2
theorem LG {p:aU} {fuel:Int} {l:List dW} {j:Nat}:UI p fuel l j (PF.tm (UL fuel l j)) (UH p fuel l j):=⟨rfl,fun t a=>by
 simp only [UL,avy,avQ,or_false]at a
 rcases a with rfl|rfl|rfl|rfl|rfl<;>simp [UL]⟩
theorem Ww {p:aU} {fuel:Int} {l:List dW} (r:gZ p) (s:av p.body≤2^20) (w:l.length≤16384) (u:∀t∈l,fQ p fuel t=0):Fz E O 20 [.agg (au p),pi fuel,.fs 2 (str l)] (.fs 7 (Bl p fuel l)):=by
 refine fM.body (F:=a20) rfl rfl rfl ?_;simp (maxSteps:=9^7)-implicitDefEqProofs+contextual [-getElem?_pos,avf,a20,au];refine dV (UI p fuel l) l.length (bX (h2:=UH p fuel l 0) [0,9] (UL fuel l 0) ?_ ?_ ?_ ?_ ?_ ?_) LG ?_
 ·simp [UH,UL,au,GY,Bl]
 iterate 2· simp
 ·intro b v;omega
 iterate 2· simp (maxDischargeDepth:=8)-implicitDefEqProofs [aj,avf,UH,UL,au,GY,Bl]
 rintro j y h x ⟨rfl,n⟩;simp only [UL,avy,avQ,or_false,forall_eq_or_imp,forall_eq]at n;obtain ⟨d,c,a,f,m⟩:=n;by_cases k:j<l.length
 ·obtain ⟨t,i⟩:∃t,l[j]?=some t:=⟨_,avg k⟩
  have q:IntKind.i64.wrap ((j:Int)+1)=((j+1:Nat):Int):=ai ⟨by omega,by omega⟩;have g:l.take (j+1)=l.take j++[t]:=by rw [avB,i];rfl
  have e:(l.take j).length=j:=by simp;omega
  obtain ⟨T,o⟩:∃T,l.take j=T:=⟨_,rfl⟩
  rw [o]at e g;simp (maxSteps:=9^7)-implicitDefEqProofs+contextual [-getElem?_pos,avf,d,c,a,f,m,k,tt,i,UH,au,cH,o];refine aF (K6 (fuel:=fuel) r s (u t (avl i))) ?_ ?_ ?_
  iterate 2· simp (maxDischargeDepth:=8)-implicitDefEqProofs [-getElem?_pos,avf,au,cH]
  simp (maxSteps:=9^7)-implicitDefEqProofs+contextual [-getElem?_pos,avf,du,f];apply cj
  iterate 9· first|rfl|omega|(simp-implicitDefEqProofs [-getElem?_pos,avf,e];first|done|rfl|omega)
  simp (maxSteps:=9^7)-implicitDefEqProofs+contextual [-getElem?_pos,avf,d,c,a,f,m,q];refine .ny k (bX (h2:=UH p fuel l (j+1)) [0,1] (UL fuel l (j+1)) ?_ ?_ ?_ ?_ ?_ ?_) LG
  ·simp [UH,UL,au,g,AT,du,e,d,c,a]
  iterate 2· simp
  ·intro b v;omega
  iterate 2· simp (maxDischargeDepth:=8)-implicitDefEqProofs [aj,avf,UH,UL,au,g,AT,du,e,d,c,a]
 ·obtain rfl:j=l.length:=by omega
  simp (maxSteps:=9^7)-implicitDefEqProofs+contextual [-getElem?_pos,avf,d,c,a,f,m,UH];refine bW ?_;simp (maxDischargeDepth:=8)-implicitDefEqProofs [Wv]
open Go Go.RowKit
def sS (d:Nat):ByteArray:=⟨#[UInt8.ofNat (48+d)]⟩
def kF (n:Nat):ByteArray:=if n<10 then sS n else kF (n/10)++sS (n%10)
def LH (n:Int):ByteArray:=if n<0 then⟨#[45]⟩++kF n.natAbs else kF n.toNat
theorem tw {d:Nat} (h:d<10):Utf8.encode (48+(d:Int))=sS d:=by
 have:d=0∨d=1∨d=2∨d=3∨d=4∨d=5∨d=6∨d=7∨d=8∨d=9:=by omega
 rcases this with rfl|rfl|rfl|rfl|rfl|rfl|rfl|rfl|rfl|rfl<;>decide+kernel
theorem j0 (d:Nat):(sS d).size=1:=rfl
theorem wR:∀(k n:Nat),n<10^(k+1)→(kF n).size≤k+1
 |0,n,h=>by
  rw [kF,if_pos (by simpa using h),j0];exact avk _
 |k+1,n,h=>by
  rw [kF];split
  ·rw [j0];omega
  ·have:=wR k (n/10) (by rw [Nat.pow_succ]at h;omega)
   rw [avz,j0];omega
theorem E6 {n:Nat} (h:n<2^64):(kF n).size≤20:=wR 19 n (by omega)
theorem vu:∀n:Nat,n<2^63→Fz E O 53 [pi n] (.v (.string (kF n))):=by
 intro n
 induction n using Nat.strongRecOn with
 |_ n ih=>
  intro s;refine Fz.body (F:=a53) rfl rfl rfl rfl ?_;have m:¬ (n:Int)<0:=by omega
  by_cases h:n<10
  ·have g:(n:Int)<10:=by omega
   have d:IntKind.i64.wrap (48+(n:Int))=48+n:=ai ⟨by omega,by omega⟩;have c:IntKind.i32.wrap (48+(n:Int))=48+n:=by simp [IntKind.wrap,IntKind.bits,IntKind.signed];omega
   have e:kF n=sS n:=by rw [kF,if_pos h]
   rw [e];simp (maxSteps:=9^7)-implicitDefEqProofs [-getElem?_pos,avf,a53,m,g,d,c,tw h]
  ·have g:¬ (n:Int)<10:=by omega
   have o:n%10<10:=Nat.mod_lt _ (by omega)
   have j:cl .quo (.int .i64 n) (.int .i64 10)=some (.int .i64 ((n/10:Nat):Int)):=by
    have:IntKind.i64.wrap ((n:Int)/10)=(n:Int)/10:=ai ⟨by omega,by omega⟩;simp [cl,cR,iF,Int.tdiv_eq_ediv_of_nonneg,this]
   have i:cl .rem (.int .i64 n) (.int .i64 10)=some (.int .i64 ((n%10:Nat):Int)):=by
    simp [cl,cR,iF,Int.tmod_eq_emod_of_nonneg]
   have d:IntKind.i64.wrap (48+((n%10:Nat):Int))=48+((n%10:Nat):Int):=ai ⟨by omega,by omega⟩;have c:IntKind.i32.wrap (48+((n%10:Nat):Int))=48+((n%10:Nat):Int):=by simp [IntKind.wrap,IntKind.bits,IntKind.signed];omega
   have l:=ih (n/10) (by omega) (by omega);have r:=E6 (n:=n/10) (by omega);have e:kF n=kF (n/10)++sS (n%10):=by rw [kF,if_neg h]
   rw [e];have f:=eI (a:=kF (n/10)) (b:=sS (n%10)) (by rw [j0];omega);have k:=tw o
   obtain ⟨a,q⟩:∃a,n/10=a:=⟨_,rfl⟩
   obtain ⟨b,p⟩:∃b,n%10=b:=⟨_,rfl⟩
   rw [q]at j l f⊢;rw [p]at i d c k f⊢;simp (maxSteps:=9^7)-implicitDefEqProofs [-getElem?_pos,avf,a53,m,g,j];refine aF (l) ?_ ?_ ?_
   iterate 2· simp (maxDischargeDepth:=8)-implicitDefEqProofs [-getElem?_pos,avf]
   simp (maxSteps:=9^7)-implicitDefEqProofs [-getElem?_pos,avf,i,d,c,k,f]
theorem LI {n:Int} (q:lC n):Fz E O 53 [pi n] (.v (.string (LH n))):=by
 by_cases i:n<0
 case neg=>
  obtain ⟨m,rfl⟩:=Int.eq_ofNat_of_zero_le (show 0≤n by omega);have g:=q.2;have:=vu m (by omega);rw [LH,if_neg i];exact this
 rw [LH,if_pos i];have t:=q.1
 obtain ⟨m,r⟩:∃m:Nat,n=-(m:Int):=⟨n.natAbs,by omega⟩
 have j:n.natAbs=m:=by omega
 rw [j];have B:0<m:=by omega
 refine Fz.body (F:=a53) rfl rfl rfl rfl ?_;by_cases h:m<10
 ·have g:(-10:Int)<n:=by omega
  have d:IntKind.i64.wrap (48- n)=48+(m:Int):=by rw [show 48- n=48+(m:Int) by omega];exact ai ⟨by omega,by omega⟩
  have c:IntKind.i32.wrap (48+(m:Int))=48+m:=by simp [IntKind.wrap,IntKind.bits,IntKind.signed];omega
  have e:kF m=sS m:=by rw [kF,if_pos h]
  have y:=eI (a:=⟨#[45]⟩) (b:=sS m) (by rw [j0];decide);have f:=tw h;rw [e];simp (maxSteps:=9^7)-implicitDefEqProofs [-getElem?_pos,avf,a53,i,g,d,c,f,y]
 ·have g:¬ (-10:Int)<n:=by omega
  have x:m%10<10:=Nat.mod_lt _ (by omega);have w:n.tdiv 10=-((m/10:Nat):Int):=by rw [r,Int.neg_tdiv,Int.tdiv_eq_ediv_of_nonneg (by omega)];rfl
  have p:cl .quo (.int .i64 n) (.int .i64 10)=some (.int .i64 (-((m/10:Nat):Int))):=by
   have:IntKind.i64.wrap (-((m/10:Nat):Int))=-((m/10:Nat):Int):=ai ⟨by omega,by omega⟩;simp only [cl,cR,iF];rw [if_pos trivial,if_neg (by decide),w,this]
  have o:cl .rem (.int .i64 n) (.int .i64 10)=some (.int .i64 (-((m%10:Nat):Int))):=by
   simp only [cl,cR,iF];rw [if_pos trivial,if_neg (by decide),r,Int.neg_tmod,Int.tmod_eq_emod_of_nonneg (by omega)];rfl
  have l:IntKind.i64.wrap ((m/10:Nat):Int)=((m/10:Nat):Int):=ai ⟨by omega,by omega⟩;have d:IntKind.i64.wrap (48+((m%10:Nat):Int))=48+((m%10:Nat):Int):=ai ⟨by omega,by omega⟩;have c:IntKind.i32.wrap (48+((m%10:Nat):Int))=48+((m%10:Nat):Int):=by simp [IntKind.wrap,IntKind.bits,IntKind.signed];omega
  have u:=vu (m/10) (by omega);have A:=E6 (n:=m/10) (by omega);have e:kF m=kF (m/10)++sS (m%10):=by rw [kF,if_neg h]
  rw [e];have s:=eI (a:=⟨#[45]⟩) (b:=kF (m/10)) (by show 1+_≤_;omega);have k:=eI (a:=⟨#[45]⟩++kF (m/10)) (b:=sS (m%10)) (by rw [avz,j0];show 1+_+1≤_;omega);have f:=tw x
  obtain ⟨a,z⟩:∃a,m/10=a:=⟨_,rfl⟩
  obtain ⟨b,t⟩:∃b,m%10=b:=⟨_,rfl⟩
  rw [z]at p l u s k⊢;rw [t]at o d c f k⊢;simp (maxSteps:=9^7)-implicitDefEqProofs [-getElem?_pos,avf,a53,i,g,p,l];refine aF (u) ?_ ?_ ?_
  iterate 2· simp (maxDischargeDepth:=8)-implicitDefEqProofs [-getElem?_pos,avf]
  simp (maxSteps:=9^7)-implicitDefEqProofs [-getElem?_pos,avf,o,d,c,f,s,k,ByteArray.append_assoc]
end P
end Go.Proofs.YtppcmpmnglaleaaGreatDoor.A
