/- Texts that stand one behind the other: U3, U4, U5, U6, U7, U8, V1, V2, V3, V4, V5, V6, U9, V7, V8, V9, U10a, U10, U11, U12, V10. -/
import Derived.Test.YtppcmpmnglaleaaGreatDoorG19
import Derived.KernelRfl
set_option linter.unusedVariables false
set_option linter.unusedSimpArgs false
set_option maxRecDepth 10000
namespace Go.Proofs.YtppcmpmnglaleaaGreatDoor.A.P
open Go Go.RowKit
def uu (l:List (List Int)):List PV:=l.map fun q=>iG q
@[simp]theorem TZ (l:List (List Int)):(uu l).length=l.length:=by simp [uu]
theorem iI (a b:List (List Int)):uu (a++b)=uu a++uu b:=by simp [uu]
@[simp]theorem Oi:∀l:List (List Int),dL (uu l)=true
 |[]=>rfl
 |a::l=>by
  show dL (iG a::uu l)=true
  rw [qY]
  exact ⟨rfl,Oi l⟩
@[simp]theorem acY:uu []=[]:=rfl
@[simp]theorem ZQ (a:List Int) (l:List (List Int)):uu (a::l)=iG a::uu l:=rfl
@[simp]theorem ZR (l:List (List Int)):(uu l).tail=uu l.tail:=by cases l<;>rfl
theorem Oj (l:List (List Int)) (i:Nat):(uu l)[i]?=(l[i]?).map fun q=>iG q:=by simp [uu]
theorem JY {b:Nat} {h:PH} {x v:PV} {xs ys:List PV} (hb:h[b]?=some (.cells 1 (xs++ys))) (hk:oW x=some 1) (hx:gW h 1 1 x=some [v]) (hv:gV h x=true) (KM:xs.length<2^40):
 uX 1 24 h (.sl 1 b 0 xs.length (xs.length+ys.length)) x=some (.sl 1 b 0 (xs.length+1) ((xs++[v]).length+(ys.drop 1).length),h.set b (.cells 1 ((xs++[v])++ys.drop 1))):=by
 unfold uX
 rw [hk]
 simp only [Nat.one_ne_zero,if_false,hx,hb]
 rw [if_pos ⟨trivial,trivial,Nat.one_pos,by simp,by omega,by omega,by omega⟩]
 cases ys with
 |nil=>
  cases xs with
  |nil=>simp
  |cons u us=>simp
 |cons y ys=>
  rw [if_neg (by simp),if_pos (by simp)]
  have e:uW (xs++y::ys) ((0+xs.length)*1) [v]=xs++[v]++ys:=by
   rw [sy (by simp),Nat.zero_add,Nat.mul_one]
   simp
  rw [e]
  simp
  omega
@[simp]theorem Fs:∀l:List Int,kb (l.map pi)=true
 |[]=>rfl
 |a::l=>by simp [Fs l]
theorem Dv {A:Nat→Prop} {σ:Nat→Nat} {h bs:PH}:∀{a b c:List PV},dL a=true→(mf A σ h bs (a++b) (a++c)↔mf A σ h bs b c)
 |[],_,_,_=>Iff.rfl
 |p::a,b,c,k=>by
  rw [qY]at k
  simp only [List.cons_append,Jz,Dv k.2]
  exact ⟨fun q=>q.2,fun q=>⟨ue k.1,q⟩⟩
attribute [simp] Dv
theorem q9 {fr:PF} {h h2:PH} (Z L:List Nat) (l:List (Nat×PV)) (hL:L.length=h2.length) (nd:L.Nodup) (hz:∀b∈L,b∉Z) (K:kc (· ∈Z) (fun i=>L.getD i 0) h h2 0 h2) (V:qW (· ∈Z) (fun i=>L.getD i 0) h h2 fr l):Gh 0 fr h (PF.uK l) h2:=
 Bf _ _ l (iF.at L hL nd hz K) V
def isI (o:Option PB) (l:List Int):Prop:=match o with
 |some (.cells z cs)=>z=1∧cs=l.map pi
 |_=>False
@[simp]theorem alY (z:Nat) (cs:List PV) (l:List Int):isI (some (.cells z cs)) l↔z=1∧cs=l.map pi:=Iff.rfl
@[simp]theorem acZ {A:Nat→Prop} {σ:Nat→Nat} {h bs:PH} {b n:Nat} {l:List Int} (hn:l.length=n) (hA:A b) (hb:isI h[b]? l):Vg A σ h bs (.sl 1 b 0 n n) (iG l)↔True:=⟨fun _=>trivial,fun _=>by
 subst hn
 unfold isI at hb
 split at hb
 ·rename_i z cs e
  obtain ⟨rfl,rfl⟩:=hb
  exact qV (Bh hA e)
 ·exact hb.elim⟩
theorem T0 {A:Nat→Prop} {h:PH} {b:Nat} {l:List eG} (hA:A b) (hb:h[b]?=some (.cells 2 (ur l))):Vz A h (.sl 2 b 0 l.length l.length) (.fs 2 (str l)):=
 nE hA hb (by omega) (BA l) (Oh l) (kC (xn l))
@[simp]theorem aiY {A:Nat→Prop} {σ:Nat→Nat} {h bs:PH} {b n:Nat} {l:List eG} (hn:l.length=n) (hA:A b) (hb:h[b]?=some (.cells 2 (ur l))):Vg A σ h bs (.sl 2 b 0 n n) (.fs 2 (str l))↔True:=⟨fun _=>trivial,fun _=>hn▸qV (T0 hA hb)⟩
def lv (s:List Int) (l:List (List Int)):List eG:=l.map fun ps=>⟨s,ps⟩
@[simp]theorem ac0 (s:List Int):lv s []=[]:=rfl
@[simp]theorem aiZ:ir []=[]:=rfl
@[simp]theorem ac1 {A:Nat→Prop} {σ:Nat→Nat} {h bs:PH}:Vg A σ h bs (.v (.slice none 0 0)) (iG [])↔True:=⟨fun _=>trivial,fun _=>(Ts 1).2 trivial⟩
@[simp]theorem T3 (s:List Int) (l:List (List Int)):(lv s l).length=l.length:=by simp [lv]
theorem iJ (s:List Int) (a b:List (List Int)):lv s (a++b)=lv s a++lv s b:=by simp [lv]
def zZ (s:List Int):Option (List (List Int))→List PV
 |some l=>[.fs 2 (str (lv s l)),pi 0]
 |none=>[hZ,pi 5]
theorem Ok {E:Env} {O:kj} {n:Nat} {Q:Ex→PF→PH→Prop} {ks:List Kp} {fr:PF} {m:Mp} {l:List AO} {d:Option Nat} {V:List Nat} {b j c:Nat} {h:PH} {x v:PV} {xs ys:List PV} (hb:h[b]?=some (.cells 1 (xs++ys))) (hj:j=xs.length) (hc:c=xs.length+ys.length) (hk:oW x=some 1) (hx:gW h 1 1 x=some [v]) (hv:gV h x=true) (KM:xs.length<2^40)
 (next:PK E O n Q (.ops (m.up V (fr.aU d (.sl 1 b 0 (xs.length+1) ((xs++[v]).length+(ys.drop 1).length))) (h.set b (.cells 1 ((xs++[v])++ys.drop 1)))) l ks) (fr.aU d (.sl 1 b 0 (xs.length+1) ((xs++[v]).length+(ys.drop 1).length))) (h.set b (.cells 1 ((xs++[v])++ys.drop 1)))):PO E O n Q (uX 1 24 h (.sl 1 b 0 j c) x) V d m l ks fr:=by
 subst hj hc
 rw [JY hb hk hx hv KM]
 exact (Zp _ _ _).2 next
def OH (p:bf) (s:List Int) (out qx junk:List (List Int)):PH:=[.cells 3 (au p),.cells 2 (ur (lv s out)),.cells 1 (uu qx++uu junk)]
def OL (p:bf) (s:List Int) (fuel:Int) (most:Nat) (out qx junk:List (List Int)):List (Nat×PV):=[(1,pi fuel),(2,iG s),(3,pi most),(4,.ref 0 0 3),(10,.sl 2 1 0 out.length out.length),(11,.sl 1 2 0 qx.length (qx.length+junk.length))]
def OI (p:bf) (s:List Int) (fuel:Int) (most:Nat) (k:Nat) (fr:PF) (h:PH):Prop:=∃out qx junk,k=nO qx∧vJ qx∧out.length≤most∧kD p fuel s=(rest p fuel s qx).map (fun x=>out++x)∧h=OH p s out qx junk∧∀t∈OL p s fuel most out qx junk,fr.get t.1=t.2
theorem zq {k n c:Nat} (h:n≤c):bH k c none (some (.int .i64 (n:Int))) none=some (0,n,c):=by
 simp [bH,iS,h]
def WI (p:bf) (s:List Int) (fuel:Int) (most:Nat) (out st:List (List Int)) (q:List Int) (junk:List (List Int)) (j:Nat) (fr:PF) (h:PH):Prop:=
 h=OH p s out (st++(kids p q).reverse.take j) ((q::junk).drop j)∧∀t∈(12,iG q)::(15,pi ((bL p:Int)- 1- j))::OL p s fuel most out (st++(kids p q).reverse.take j) ((q::junk).drop j),fr.get t.1=t.2
theorem JZ {p:bf} {s:List Int} {fuel:Int} {most:Nat} {out st:List (List Int)} {q:List Int} {junk:List (List Int)} {j:Nat}:
 WI p s fuel most out st q junk j (PF.uK ((12,iG q)::(15,pi ((bL p:Int)- 1- j))::OL p s fuel most out (st++(kids p q).reverse.take j) ((q::junk).drop j))) (OH p s out (st++(kids p q).reverse.take j) ((q::junk).drop j)):=by
 refine ⟨rfl,fun t ht=>?_⟩
 simp only [OL,List.mem_cons,List.not_mem_nil,or_false]at ht
 rcases ht with rfl|rfl|rfl|rfl|rfl|rfl|rfl|rfl<;>simp [OL]
theorem BD {p:bf} {s:List Int} {fuel:Int} {most:Nat} {out qx junk:List (List Int)} (t:Nat×PV) (ht:t∈OL p s fuel most out qx junk):(PF.uK (OL p s fuel most out qx junk)).get t.1=t.2:=by
 simp only [OL,List.mem_cons,List.not_mem_nil,or_false]at ht
 rcases ht with rfl|rfl|rfl|rfl|rfl|rfl<;>simp [OL]
theorem ZS {p:bf} {s:List Int} {fuel:Int} {most:Nat} (eC:fV p) (hp:bq p=true) (hs:s.length≤2^40) (Ft:∀n∈s,kK n) (hm:most≤16384):
 Fz E O 39 [.agg (au p),pi fuel,iG s,pi most] (.gA (zZ s (ofM p fuel s most))):=by
 refine fP.body (F:=a39) rfl rfl rfl ?_
 have hw:=oA hp
 simp (maxSteps:=4000000)-implicitDefEqProofs+contextual [-getElem?_pos,asj,a39,au]
 refine ua (OI p s fuel most) (nO [[]]) (cz (h2:=OH p s [] [[]] []) [0,9,1] (OL p s fuel most [] [[]] []) ?_ ?_ ?_ ?_ ?_ ?_) ⟨[],[[]],[],rfl,?_,Nat.zero_le _,?_,rfl,?_⟩ ?_
 ·simp [OH,OL,au,uu]
 iterate 2· simp
 ·intro b hb;omega
 iterate 2· simp (maxDischargeDepth:=8)-implicitDefEqProofs [aj,asj,OH,OL,au,uu]
 ·intro i q h
  cases i with
  |zero=>simp at h;subst h;simp
  |succ i=>simp at h
 ·cases h:under p fuel s []<;>simp [rest,gH,kD,h]
 ·exact BD
 rintro k fr h ⟨out,qx,junk,rfl,rU,Ol,dm,rfl,gj⟩
 simp only [OL,List.mem_cons,List.not_mem_nil,or_false,forall_eq_or_imp,forall_eq]at gj
 obtain ⟨f1,f2,f3,f4,f10,f11⟩:=gj
 have hlen:=Fm rU
 rcases List.eq_nil_or_concat qx with rfl|⟨st,q,rfl⟩
 ·
  have e:ofM p fuel s most=some out:=by
   unfold ofM
   rw [dm]
   simp [rest,gH,Ol]
  rw [e]
  simp (maxSteps:=4000000)-implicitDefEqProofs+contextual [-getElem?_pos,asj,f1,f2,f3,f4,f10,f11,OH]
  refine ⟨_,_,GI ?_,rfl,rfl,by simp [zZ]⟩
  simp (maxDischargeDepth:=8)-implicitDefEqProofs [zZ]
 rw [List.concat_eq_append]at*
 have hq:=rU st.length q (by simp)
 have hql:=hq.2.1
 simp only [asu,List.length_singleton]at hlen
 have w1:IntKind.i64.wrap (st.length:Int)=st.length:=ai ⟨by omega,by omega⟩
 obtain ⟨T,hT⟩:∃T:eG,T=⟨s,q⟩:=⟨_,rfl⟩
 have Bn:Bn T:=by subst hT;exact ⟨by show s.length<_;omega,by show q.length<_;omega,Ft,fun n hn=>by have:=hq.2.2 n hn;exact ⟨by omega,by omega⟩⟩
 have hg:(uu (st++[q])++uu junk)[st.length]?=some (iG q):=by rw [asy (by simp),Oj];simp
 have ab:bH (st.length+1) (st.length+1+junk.length) none (some (.int .i64 (st.length:Int))) none=some (0,st.length,st.length+1+junk.length):=zq (by omega)
 have c1:0<st.length+1+junk.length∧(st.length:Int)<st.length+1:=by omega
 have c2:st.length≤st.length+1+junk.length:=by omega
 have c3:st.length+(junk.length+1)=st.length+1+junk.length:=by omega
 simp (maxSteps:=4000000)-implicitDefEqProofs+contextual [-getElem?_pos,asj,f1,f2,f3,f4,f10,f11,OH,w1,hg,ab,c1,c2]
 subst hT
 refine aN (JT (fuel:=fuel) eC Bn) ?_ ?_ ?_
 iterate 2· simp (maxDischargeDepth:=8)-implicitDefEqProofs [-getElem?_pos,asj,cF]
 have hE:Bw p fuel s q=(iD p fuel ⟨s,q⟩).en:=rfl
 by_cases he:(iD p fuel ⟨s,q⟩).en=4
 ·by_cases hl:q.length=16
  ·have e:ofM p fuel s most=none:=by
    unfold ofM
    rw [dm,nG,Bx (by rw [hE];exact he) (by omega)]
    rfl
   rw [e]
   simp (maxSteps:=4000000)-implicitDefEqProofs+contextual [-getElem?_pos,asj,fR,he,hl]
   refine ⟨_,_,GI ?_,rfl,rfl,by simp [zZ]⟩
   simp (maxDischargeDepth:=8)-implicitDefEqProofs [zZ]
  ·have xE:¬ (q.length:Int)=16:=by omega
   have hN:=q8 hp
   have oJ:=fJ hw
   have hNi:(2:Int)^p.w.toNat=(bL p:Int):=by simp [bL]
   have w4:IntKind.i64.wrap ((bL p:Int)- 1)=(bL p:Int)- 1:=ai ⟨by omega,by omega⟩
   have hsh:=yE hw
   rw [hNi]at hsh
   have g0:(au p)[0]?=some (pi p.w):=rfl
   simp (maxSteps:=4000000)-implicitDefEqProofs+contextual [-getElem?_pos,asj,fR,he,xE,f4,hsh,w4,g0]
   refine fu (WI p s fuel most out st q junk) (bL p) (q9 (h2:=OH p s out (st++(kids p q).reverse.take 0) ((q::junk).drop 0)) [] [0,1,2] ((12,iG q)::(15,pi ((bL p:Int)- 1- (0:Nat)))::OL p s fuel most out (st++(kids p q).reverse.take 0) ((q::junk).drop 0)) ?_ ?_ ?_ ?_ ?_) JZ ?_
   ·simp [OH,OL,iI,f1,f2,f3,f4,f10,c3]
   iterate 2· simp
   iterate 2· simp (maxDischargeDepth:=8)-implicitDefEqProofs [aj,asj,OH,OL,iI,f1,f2,f3,f4,f10,c3]
   clear f1 f2 f3 f4 f10 f11
   rintro j fr h hj ⟨rfl,gj⟩
   simp only [OL,List.mem_cons,List.not_mem_nil,or_false,forall_eq_or_imp,forall_eq]at gj
   obtain ⟨f12,f15,f1,f2,f3,f4,f10,f11⟩:=gj
   obtain ⟨a,ha⟩:∃a:Int,(bL p:Int)- 1- j=a:=⟨_,rfl⟩
   rw [ha]at f15
   have SR:(st++(kids p q).reverse.take j).length≤5000:=by
    have:(kids p q).length=bL p:=by simp [kids]
    simp;omega
   by_cases ZT:j<bL p
   ·have Lh:0≤a:=by omega
    have w5:IntKind.i64.wrap (a- 1)=a- 1:=ai ⟨by omega,by omega⟩
    have hkt:=Fp (q:=q) ZT
    have ha2:(((bL p- 1- j:Nat):Int))=a:=by omega
    rw [ha2]at hkt
    obtain ⟨K,hK⟩:∃K,st++(kids p q).reverse.take j=K:=⟨_,rfl⟩
    obtain ⟨J,hJ⟩:∃J,(q::junk).drop j=J:=⟨_,rfl⟩
    have hK2:st++(kids p q).reverse.take (j+1)=K++[q++[a]]:=by rw [hkt,←List.append_assoc,hK]
    have hJ2:(q::junk).drop (j+1)=J.drop 1:=by rw [←hJ,List.drop_drop]
    rw [hK]at SR
    rw [hK,hJ]at f11⊢
    simp (maxSteps:=4000000)-implicitDefEqProofs+contextual [-getElem?_pos,asj,f12,f15,f11,Lh,OH]
    refine pf (xm (l:=q) (by omega)) ?_ ?_ ?_
    iterate 2· simp (maxDischargeDepth:=8)-implicitDefEqProofs [-getElem?_pos,asj]
    simp (maxSteps:=4000000)-implicitDefEqProofs+contextual [-getElem?_pos,asj,f15]
    apply cR
    iterate 9· first|rfl|omega|(simp-implicitDefEqProofs [-getElem?_pos,asj];first|done|rfl|omega)
    simp (maxSteps:=4000000)-implicitDefEqProofs+contextual [-getElem?_pos,asj]
    refine Ok (xs:=uu K) (ys:=uu J) (v:=.sl 1 3 0 (q.length+1) (q.length+1)) ?_ ?_ ?_ ?_ ?_ ?_ ?_ ?_
    iterate 6· first|rfl|(simp;done)
    ·simp;omega
    simp (maxSteps:=4000000)-implicitDefEqProofs+contextual [-getElem?_pos,asj,f15,w5]
    have e1:(bL p:Int)- 1- ((j+1:Nat):Int)=a- 1:=by omega
    have W:=JZ (p:=p) (s:=s) (fuel:=fuel) (most:=most) (out:=out) (st:=st) (q:=q) (junk:=junk) (j:=j+1)
    rw [hK2,hJ2,e1]at W
    refine .qb ZT (q9 (h2:=OH p s out (K++[q++[a]]) (J.drop 1)) [3] [0,1,2] ((12,iG q)::(15,pi (a- 1))::OL p s fuel most out (K++[q++[a]]) (J.drop 1)) ?_ ?_ ?_ ?_ ?_) W
    ·simp [OH,OL,iI,f1,f2,f3,f4,f10,f12]
    iterate 2· simp
    iterate 2· simp (maxDischargeDepth:=8)-implicitDefEqProofs [aj,asj,OH,OL,iI,f1,f2,f3,f4,f10,f12]
   ·obtain rfl:j=bL p:=by omega
    have c8:¬ 0≤a:=by omega
    have aqN:(kids p q).length=bL p:=by simp [kids]
    rw [uq]at f11
    simp (maxSteps:=4000000)-implicitDefEqProofs+contextual [-getElem?_pos,asj,f15,c8,OH]
    refine .Zo ?_ (q9 (h2:=OH p s out (st++(kids p q).reverse) ((q::junk).drop (bL p))) [] [0,1,2] (OL p s fuel most out (st++(kids p q).reverse) ((q::junk).drop (bL p))) ?_ ?_ ?_ ?_ ?_) ⟨out,st++(kids p q).reverse,(q::junk).drop (bL p),rfl,Bz hN rU (by omega),Ol,?_,rfl,BD⟩
    ·rw [mT,mT]
     have:=Fq (q:=q) hN (by omega)
     simp only [nO,List.map_cons,List.map_nil,List.sum_cons,List.sum_nil,Nat.add_zero]at*
     omega
    ·simp [OH,OL,uq,f1,f2,f3,f4,f10,f11]
    iterate 2· simp
    iterate 2· simp (maxDischargeDepth:=8)-implicitDefEqProofs [aj,asj,OH,OL,uq,f1,f2,f3,f4,f10,f11]
    ·rw [dm,nG,Fl,By (by rw [hE];exact he) (by omega)]
 ·by_cases ho:out.length=most
  ·have e:ofM p fuel s most=none:=by
    unfold ofM
    rw [dm,nG,vI (by rw [hE];exact he)]
    cases rest p fuel s st<;>simp [ho]
   rw [e]
   simp (maxSteps:=4000000)-implicitDefEqProofs+contextual [-getElem?_pos,asj,fR,he,ho,f3,f10]
   refine ⟨_,_,GI ?_,rfl,rfl,by simp [zZ]⟩
   simp (maxDischargeDepth:=8)-implicitDefEqProofs [zZ]
  ·have w3:¬ (out.length:Int)=(most:Int):=by omega
   simp (maxSteps:=4000000)-implicitDefEqProofs+contextual [-getElem?_pos,asj,fR,he,f2,f3,f10,w3]
   refine pf (xm (l:=s) hs) ?_ ?_ ?_
   iterate 2· simp (maxDischargeDepth:=8)-implicitDefEqProofs [-getElem?_pos,asj]
   simp (maxSteps:=4000000)-implicitDefEqProofs+contextual [-getElem?_pos,asj,f2]
   refine pf (xm (l:=q) (by omega)) ?_ ?_ ?_
   iterate 2· simp (maxDischargeDepth:=8)-implicitDefEqProofs [-getElem?_pos,asj]
   simp (maxSteps:=4000000)-implicitDefEqProofs+contextual [-getElem?_pos,asj,f10]
   apply cR
   iterate 9· first|rfl|omega|(simp-implicitDefEqProofs [-getElem?_pos,asj];first|done|rfl|omega)
   simp (maxSteps:=4000000)-implicitDefEqProofs+contextual [-getElem?_pos,asj]
   refine .Zo ?_ (q9 (h2:=OH p s (out++[q]) st (q::junk)) [4,5] [0,1,2] (OL p s fuel most (out++[q]) st (q::junk)) ?_ ?_ ?_ ?_ ?_) ⟨out++[q],st,q::junk,rfl,vK rU,?_,?_,rfl,?_⟩
   ·rw [mT]
    have:0<nO [q]:=by simp [nO];exact Nat.pow_pos (by omega)
    omega
   ·simp [OH,OL,iJ,eg,iI,cF,lv,f1,f2,f3,f4,c3]
   iterate 2· simp
   iterate 2· simp (maxDischargeDepth:=8)-implicitDefEqProofs [aj,asj,OH,OL,iJ,eg,iI,cF,lv,f1,f2,f3,f4,c3]
   ·simp;omega
   ·rw [dm,nG,vI (by rw [hE];exact he)]
    cases rest p fuel s st<;>simp
   ·exact BD
open Go Go.RowKit
theorem Om {p:bf} {s:List Int}:iX p ⟨s,[]⟩=aO p.w p.vars s:=by simp [iX]
theorem On {s:List Int} (hs:s.length<2^60) (Ft:∀n∈s,kK n):Bn ⟨s,[]⟩:=⟨hs,by show(0:Nat)<_;omega,Ft,fun n hn=>by cases hn⟩
theorem mU {p:bf} {s:List Int} (h:bq p=true) (hs:aO p.w p.vars s=true):s.length≤48:=by
 simp only [bq,aC,aso,asx]at h
 simp only [aO,aso,asx]at hs
 have h1:=h.1.2.2.2.2
 have h2:=hs.1
 omega
def zr (p:bf) (fuel:Int) (s:List Int):List PV:=
 if cd p fuel≠0 then [hZ,pi (cd p fuel)]else if aO p.w p.vars s=false then [hZ,pi 1]else zZ s (ofM p fuel s 16384)
theorem Oo (p:bf) (fuel:Int) (s:List Int):dL (zr p fuel s)=true:=by
 unfold zr
 split
 ·simp
 ·split
  ·simp
  ·cases ofM p fuel s 16384<;>simp [zZ]
theorem ZU {p:bf} {fuel:Int} {s:List Int} (eC:fV p) (hs:s.length<2^60) (Ft:∀n∈s,kK n):Fz E O 12 [.agg (au p),pi fuel,iG s] (.gA (zr p fuel s)):=by
 refine Fz.body (F:=a12) rfl rfl rfl (by simp [Oo]) ?_
 have vH:Bn ⟨s,[]⟩:=On hs Ft
 simp (maxSteps:=4000000)-implicitDefEqProofs+contextual [-getElem?_pos,asj,a12]
 refine aN (um eC) ?_ ?_ ?_
 iterate 2· simp (maxDischargeDepth:=8)-implicitDefEqProofs [-getElem?_pos,asj]
 cases h:bq p with
 |false=>
  have e:zr p fuel s=[hZ,pi 30]:=by simp [zr,cd,h]
  rw [e]
  simp (maxSteps:=4000000)-implicitDefEqProofs+contextual [-getElem?_pos,asj,h]
 |true=>
  by_cases h1:fuel<0
  ·have e:zr p fuel s=[hZ,pi 1]:=by simp [zr,cd,h,h1]
   rw [e]
   simp (maxSteps:=4000000)-implicitDefEqProofs [-getElem?_pos,asj,h,h1]
  ·by_cases h2:4096<fuel
   ·have e:zr p fuel s=[hZ,pi 1]:=by simp [zr,cd,h,h1,h2]
    rw [e]
    simp (maxSteps:=4000000)-implicitDefEqProofs [-getElem?_pos,asj,h,h1,h2]
   ·have hf:cd p fuel=0:=by simp [cd,h];omega
    have e3:zr p fuel s=if aO p.w p.vars s=false then [hZ,pi 1]else zZ s (ofM p fuel s 16384):=by simp [zr,hf]
    simp (maxSteps:=4000000)-implicitDefEqProofs [-getElem?_pos,asj,h,h1,h2]
    refine ug [] (JV eC vH) ?_ ?_
    ·simp (maxDischargeDepth:=8)-implicitDefEqProofs [cF]
    have hc:fM p 0 ⟨s,[]⟩=if aO p.w p.vars s=false then 50 else 0:=by simp [fM,h,Om]
    rw [hc,e3]
    cases h3:aO p.w p.vars s with
    |false=>
     simp (maxSteps:=4000000)-implicitDefEqProofs [-getElem?_pos,asj,h3,bO]
    |true=>
     simp (maxSteps:=4000000)-implicitDefEqProofs [-getElem?_pos,asj,h3,bO]
     have ot:=mU h h3
     refine aN (ZS (fuel:=fuel) (most:=16384) eC h (s:=s) (by omega) Ft (asp _)) ?_ ?_ ?_
     iterate 2· simp (maxDischargeDepth:=8)-implicitDefEqProofs [-getElem?_pos,asj]
     cases hm:ofM p fuel s 16384 with
     |none=>
      simp (maxSteps:=4000000)-implicitDefEqProofs [-getElem?_pos,asj,zZ]
     |some l=>
      simp (maxSteps:=4000000)-implicitDefEqProofs [-getElem?_pos,asj,zZ]
theorem J0 {p:bf} {s q:List Int} {fuel:Int} (hp:bq p=true) (hf:cd p fuel=0) (hs:aO p.w p.vars s=true) (hq:∀n∈q,isWord p.w n=true) (hl:q.length≤16):fM p fuel ⟨s,q⟩=0:=by
 have h1:¬ (fuel<0∨4096<fuel):=by
  intro h
  simp [cd,hp,h]at hf
 have h2:iX p ⟨s,q⟩=true:=by
  simp only [iX,hs,Bool.true_and,aso,asx,asB]
  exact ⟨hl,hq⟩
 simp [fM,hp,h1,h2]
end Go.Proofs.YtppcmpmnglaleaaGreatDoor.A.P
namespace Go.Proofs.YtppcmpmnglaleaaGreatDoor.A.P
open Go Go.RowKit
open Go Go.RowKit
def eD (p:bf):Int:=du (p.vars.map (·.cells))
theorem zt:∀(l:List Int) (a:Int),(∀c∈l,1≤c∧c≤8)→0≤a→a+8*l.length≤10000→a+l.length≤l.foldl (fun a c=>IntKind.i64.wrap (a+c)) a∧l.foldl (fun a c=>IntKind.i64.wrap (a+c)) a≤a+8*l.length
 |[],a,_,_,_=>by simp
 |c::l,a,h,h0,h1=>by
  have hc:=h c (by simp)
  simp only [List.length_cons]at*
  have e:IntKind.i64.wrap (a+c)=a+c:=ai ⟨by omega,by omega⟩
  have:=zt l (a+c) (fun x hx=>h x (by simp [hx])) (by omega) (by omega)
  simp only [List.foldl_cons,e]
  omega
theorem ly {p:bf} (h:bq p=true):1≤eD p∧eD p≤48:=by
 simp only [bq,aC,aso,asx,asB]at h
 obtain ⟨⟨_,h1,h2,h3,h4⟩,_⟩:=h
 have:=zt (p.vars.map (·.cells)) 0 (fun c hc=>by
  simp only [List.mem_map]at hc
  obtain ⟨v,hv,rfl⟩:=hc
  obtain ⟨i,hi,e⟩:=List.mem_iff_getElem.1 hv
  have:=h3 i (by simpa using hi)
  rw [asl hi,e]at this
  exact rF this) (Int.le_refl _) (by simp;omega)
 simp only [List.length_map]at this
 exact ⟨by unfold eD du;omega,h4⟩
theorem lz {p:bf} (h:fV p):p.vars.length<2^60:=h.2.1.1
theorem vL {V:List Vr} {i:Nat} {y:Vr} (hy:V[i]?=some y):du ((V.map (·.cells)).take (i+1))=IntKind.i64.wrap (du ((V.map (·.cells)).take i)+y.cells):=by
 rw [List.take_add_one]
 simp [du,hy,List.foldl_append]
theorem xu {p:bf} (eC:fV p) (hv:p.vars.length<2^60):Fz E O 76 [.agg (au p)] (pi (eD p)):=by
 refine Fz.body (F:=a76) rfl rfl rfl rfl ?_
 simp (maxSteps:=4000000)-implicitDefEqProofs+contextual [-getElem?_pos,asj,a76,au]
 refine fu (fun i fr h=>h=[]∧fr.get 3=pi (du ((p.vars.map (·.cells)).take i))∧fr.get 7=lq p.vars∧fr.get 8=pi p.vars.length∧fr.get 9=pi i) p.vars.length (q9 (h2:=[]) [] [] [(3,pi 0),(7,lq p.vars),(8,pi p.vars.length),(9,pi 0)] ?_ ?_ ?_ ?_ ?_) ⟨rfl,by simp [du],by simp,by simp,by simp⟩ ?_
 ·simp
 iterate 2· simp
 iterate 2· simp (maxDischargeDepth:=8)-implicitDefEqProofs [aj,asj]
 rintro i fr h hi ⟨rfl,f3,f7,f8,f9⟩
 by_cases h:i<p.vars.length
 ·obtain ⟨y,hy⟩:∃y,p.vars[i]?=some y:=⟨_,asl h⟩
  have w4:IntKind.i64.wrap ((i:Int)+1)=((i+1:Nat):Int):=ai ⟨by omega,by omega⟩
  simp (maxSteps:=4000000)-implicitDefEqProofs+contextual [-getElem?_pos,asj,f3,f7,f8,f9,h,hy,zh]
  refine .qb h (q9 (h2:=[]) [] [] [(3,pi (du ((p.vars.map (·.cells)).take (i+1)))),(7,lq p.vars),(8,pi p.vars.length),(9,pi (i+1:Nat))] ?_ ?_ ?_ ?_ ?_) ⟨rfl,by simp,by simp,by simp,by simp⟩
  ·simp [f7,f8,w4,vL hy]
  iterate 2· simp
  iterate 2· simp (maxDischargeDepth:=8)-implicitDefEqProofs [aj,asj,f7,f8,w4,vL hy]
 ·obtain rfl:i=p.vars.length:=by omega
  rw [ass (by simp)]at f3
  simp (maxSteps:=4000000)-implicitDefEqProofs+contextual [-getElem?_pos,asj,f3,f7,f8,f9,eD]
theorem ZW {n:Int} (h:0≤n∧n≤60):cx .shl (.int .i64 1) (.int .u64 (IntKind.u64.wrap n))=some (.int .i64 (2^n.toNat)):=by
 obtain ⟨m,rfl⟩:=Int.eq_ofNat_of_zero_le h.1
 have hm:m≤60:=by omega
 have e:IntKind.u64.wrap (m:Int)=m:=by
  simp [IntKind.wrap,IntKind.bits,IntKind.signed]
  omega
 have h1:(2:Int)^m≤2^60:=by
  have:=Nat.pow_le_pow_right (n:=2) (by omega) hm
  exact_mod_cast this
 have h0:(0:Int)<2^m:=Int.pow_pos (by omega)
 have w:IntKind.i64.wrap ((2:Int)^m)=2^m:=ai ⟨by omega,by omega⟩
 rw [e]
 simp [cx,dt,IntKind.bits,show min m 64=m by omega,w]
def dZ (p:bf):Int:=p.w*eD p
theorem uw {p:bf} (h:bq p=true):1≤dZ p∧dZ p≤400:=by
 have hw:=oA h
 have hc:=ly h
 unfold dZ
 have h1:p.w*eD p≤8*48:=Int.mul_le_mul hw.2 hc.2 (by omega) (by omega)
 have h2:1*1≤p.w*eD p:=Int.mul_le_mul hw.1 hc.1 (by omega) (by omega)
 omega
def dy (p:bf):Int:=2^(dZ p).toNat
def pg (p:bf):List PV:=if bq p=false then [pi 0,pi 30]else if 60<dZ p then [pi 0,pi 5]else [pi (dy p),pi 0]
theorem J3 (p:bf):dL (pg p)=true:=by unfold pg;split<;>(try split)<;>simp
theorem Dx {p:bf} (eC:fV p):Fz E O 45 [.agg (au p)] (.gA (pg p)):=by
 refine Fz.body (F:=a45) rfl rfl rfl (by simp [J3]) ?_
 simp (maxSteps:=4000000)-implicitDefEqProofs+contextual [-getElem?_pos,asj,a45,au]
 refine aN (um eC) ?_ ?_ ?_
 iterate 2· simp (maxDischargeDepth:=8)-implicitDefEqProofs [-getElem?_pos,asj,au]
 cases h:bq p with
 |false=>
  have e:pg p=[pi 0,pi 30]:=by simp [pg,h]
  rw [e]
  simp (maxSteps:=4000000)-implicitDefEqProofs+contextual [-getElem?_pos,asj,h]
 |true=>
  have hb:=uw h
  have w1:IntKind.i64.wrap (p.w*eD p)=dZ p:=ai ⟨by unfold dZ at hb;omega,by unfold dZ at hb;omega⟩
  simp (maxSteps:=4000000)-implicitDefEqProofs+contextual [-getElem?_pos,asj,h,au]
  refine aN (xu eC (lz eC)) ?_ ?_ ?_
  iterate 2· simp (maxDischargeDepth:=8)-implicitDefEqProofs [-getElem?_pos,asj,au]
  by_cases h1:60<dZ p
  ·have e:pg p=[pi 0,pi 5]:=by simp [pg,h,h1]
   rw [e]
   simp (maxSteps:=4000000)-implicitDefEqProofs+contextual [-getElem?_pos,asj,w1,h1]
  ·have e:pg p=[pi (dy p),pi 0]:=by simp [pg,h,h1]
   rw [e]
   simp (maxSteps:=4000000)-implicitDefEqProofs+contextual [-getElem?_pos,asj,w1,h1,au]
   refine aN (xu eC (lz eC)) ?_ ?_ ?_
   iterate 2· simp (maxDischargeDepth:=8)-implicitDefEqProofs [-getElem?_pos,asj,au]
   have hs:cx .shl (.int .i64 1) (.int .u64 (IntKind.u64.wrap (dZ p)))=some (.int .i64 (dy p)):=ZW (n:=dZ p) ⟨by omega,by omega⟩
   generalize dy p=S at hs⊢
   generalize dZ p=b at hs w1⊢
   generalize hv:IntKind.u64.wrap b=v at hs
   clear h1 e hb h
   simp (maxSteps:=4000000)-implicitDefEqProofs [-getElem?_pos,asj,w1,hv,hs]
end Go.Proofs.YtppcmpmnglaleaaGreatDoor.A.P
namespace Go.Proofs.YtppcmpmnglaleaaGreatDoor.A.P
open Go Go.RowKit
def jt (B i:Int):Nat→List Int
 |0=>[]
 |n+1=>jt B i n++[i/B^n%B]
@[simp]theorem gY (B i:Int):∀n,(jt B i n).length=n
 |0=>rfl
 |n+1=>by simp [jt,gY B i n]
def dj (p:bf) (i:Int):List Int:=jt (2^p.w.toNat) i (eD p).toNat
theorem nH {w i:Int} (hw:1≤w∧w≤8):∀n,∀x∈jt (2^w.toNat) i n,isWord w x=true
 |0,x,h=>by cases h
 |n+1,x,h=>by
  have hp:=fJ hw
  rcases List.mem_append.1 h with h|h
  ·exact nH hw n x h
  ·simp only [List.mem_singleton]at h
   have h0:0≤x:=by rw [h];exact Int.emod_nonneg _ (by omega)
   have h1:x<2^w.toNat:=by rw [h];exact Int.emod_lt_of_pos _ (by omega)
   have:bC w=true:=by simp [bC];omega
   simp [isWord,this,h0,h1]
theorem zu {p:bf} (h:bq p=true) (i:Int):aO p.w p.vars (dj p i)=true:=by
 have hc:=ly h
 simp only [aO,aso,asx,asB]
 refine ⟨?_,fun x hx=>nH (oA h) _ x hx⟩
 rw [dj,gY]
 show(((eD p).toNat:Nat):Int)=eD p
 omega
theorem rf {p:bf} (h:bq p=true) (i:Int):(dj p i).length≤48:=by
 have hc:=ly h
 rw [dj,gY];omega
theorem zw {w x:Int} (h:isWord w x=true):kK x:=by
 simp only [isWord,bC,aso,asx]at h
 have:=fJ (w:=w) (by omega)
 exact ⟨by omega,by omega⟩
theorem ZY {a b:Int} (ha:0≤a∧a<2^62) (hb:1≤b∧b≤8):cx .shr (.int .i64 a) (.int .u64 (IntKind.u64.wrap b))=some (.int .i64 (a/2^b.toNat)):=by
 obtain ⟨n,rfl⟩:∃n:Nat,b=n:=⟨b.toNat,by omega⟩
 have e:IntKind.u64.wrap (n:Int)=n:=by
  simp [IntKind.wrap,IntKind.bits,IntKind.signed]
  omega
 rw [e]
 have hp:(0:Int)≤2^n:=Int.le_of_lt (Int.pow_pos (by omega))
 simp [cx,dt,IntKind.bits,show min n 64=n by omega,Int.fdiv_eq_ediv_of_nonneg _ hp]
theorem div_pow (i B:Int) (hB:0<B) (n:Nat):i/B^n/B=i/B^(n+1):=by
 rw [Int.pow_succ,Int.ediv_ediv_of_nonneg (Int.le_of_lt (Int.pow_pos hB))]
theorem Dy {i B:Int} (hi:0≤i∧i<2^62) (hB:0<B) (n:Nat):0≤i/B^n∧i/B^n<2^62:=by
 have hp:0<B^n:=Int.pow_pos hB
 have h1:i/B^n≤i:=Int.ediv_le_self _ hi.1
 exact ⟨Int.ediv_nonneg hi.1 (by omega),by omega⟩
theorem J5 {p:bf} (h:dZ p≤60):dy p≤2^60:=by
 unfold dy
 have:=Nat.pow_le_pow_right (n:=2) (by omega) (show(dZ p).toNat≤60 by omega)
 exact_mod_cast this
def SL (B i:Int) (c j:Nat):List (Nat×PV):=[(1,pi (i/B^j)),(2,.ref 0 0 3),(8,.sl 1 1 0 j j),(25,pi c),(26,pi j)]
def vM (p:bf) (i:Int) (j:Nat):PH:=[.cells 3 (au p),.cells 1 ((jt (2^p.w.toNat) i j).map pi)]
def SI7 (p:bf) (B i:Int) (c j:Nat) (fr:PF) (h:PH):Prop:=h=vM p i j∧∀t∈SL B i c j,fr.get t.1=t.2
theorem Dz {p:bf} {B i:Int} {c j:Nat}:SI7 p B i c j (PF.uK (SL B i c j)) (vM p i j):=⟨rfl,fun t ht=>by
 simp only [SL,List.mem_cons,List.not_mem_nil,or_false]at ht
 rcases ht with rfl|rfl|rfl|rfl|rfl<;>simp [SL]⟩
theorem J6 {p:bf} {i:Int} (eC:fV p) (h:bq p=true) (h60:dZ p≤60) (hi:0≤i∧i<dy p):Fz E O 46 [.agg (au p),pi i] (.gA [iG (dj p i),pi 0]):=by
 refine fP.body (F:=a46) rfl rfl rfl ?_
 have hw:=oA h
 have hc:=ly h
 have hB:=fJ hw
 have ji:=J5 h60
 have T7:0≤i∧i<2^62:=⟨hi.1,by omega⟩
 have hS:=Dx eC
 have e:pg p=[pi (dy p),pi 0]:=by simp [pg,h];omega
 rw [e]at hS
 obtain ⟨S,hSS⟩:∃S,dy p=S:=⟨_,rfl⟩
 rw [hSS]at hS hi
 have hi1:¬ i<0:=by omega
 have EF:¬ S≤i:=by omega
 obtain ⟨c,uO⟩:∃c:Nat,eD p=c:=⟨(eD p).toNat,by omega⟩
 have hC:=xu eC (lz eC)
 rw [uO]at hC
 simp (maxSteps:=4000000)-implicitDefEqProofs+contextual [-getElem?_pos,asj,a46,au]
 refine aN (hS) ?_ ?_ ?_
 iterate 2· simp (maxDischargeDepth:=8)-implicitDefEqProofs [-getElem?_pos,asj,au]
 simp (maxSteps:=4000000)-implicitDefEqProofs [-getElem?_pos,asj,hi1,EF,au]
 refine aN (hC) ?_ ?_ ?_
 iterate 2· simp (maxDischargeDepth:=8)-implicitDefEqProofs [-getElem?_pos,asj,au]
 simp (maxSteps:=4000000)-implicitDefEqProofs+contextual [-getElem?_pos,asj]
 refine fu (SI7 p (2^p.w.toNat) i c) c (cz (h2:=vM p i 0) [0,9] (SL (2^p.w.toNat) i c 0) ?_ ?_ ?_ ?_ ?_ ?_) Dz ?_
 ·simp [vM,SL,au,jt]
 iterate 2· simp
 ·intro b hb;omega
 iterate 2· simp (maxDischargeDepth:=8)-implicitDefEqProofs [aj,asj,vM,SL,au,jt]
 rintro j fr h hj ⟨rfl,gj⟩
 simp only [SL,List.mem_cons,List.not_mem_nil,or_false,forall_eq_or_imp,forall_eq]at gj
 obtain ⟨f1,f2,f8,f25,f26⟩:=gj
 have shl:=yE hw
 have shr:=ZY (Dy T7 (show(0:Int)<2^p.w.toNat by omega) j) hw
 have and:=CC (x:=i/(2^p.w.toNat)^j) (w:=p.w.toNat) (by omega)
 have dv:=div_pow i (2^p.w.toNat) (by omega) j
 obtain ⟨B,F4⟩:∃B:Int,2^p.w.toNat=B:=⟨_,rfl⟩
 rw [F4]at shl shr and dv hB f1⊢
 rw [dv]at shr
 obtain ⟨u,hu⟩:∃u,i/B^j=u:=⟨_,rfl⟩
 rw [hu]at shr and f1
 by_cases OX:j<c
 ·have w4:IntKind.i64.wrap ((j:Int)+1)=((j+1:Nat):Int):=ai ⟨by omega,by omega⟩
  have w5:IntKind.i64.wrap (B- 1)=B- 1:=ai ⟨by omega,by omega⟩
  simp (maxSteps:=4000000)-implicitDefEqProofs+contextual [-getElem?_pos,asj,f1,f2,f8,f25,f26,OX,vM,au,shl,w5,and,F4]
  apply cR
  iterate 9· first|rfl|omega|(simp-implicitDefEqProofs [-getElem?_pos,asj];first|done|rfl|omega)
  simp (maxSteps:=4000000)-implicitDefEqProofs+contextual [-getElem?_pos,asj,f1,f2,f25,f26,shr,w4]
  refine .qb OX (cz (h2:=vM p i (j+1)) [0,1] (SL B i c (j+1)) ?_ ?_ ?_ ?_ ?_ ?_) Dz
  ·simp [vM,SL,au,jt,hu,F4,f2,f25]
  iterate 2· simp
  ·intro b hb;omega
  iterate 2· simp (maxDischargeDepth:=8)-implicitDefEqProofs [aj,asj,vM,SL,au,jt,hu,F4,f2,f25]
 ·obtain rfl:j=c:=by omega
  have eT:jt B i j=dj p i:=by rw [dj,F4,uO];rfl
  simp (maxSteps:=4000000)-implicitDefEqProofs+contextual [-getElem?_pos,asj,f1,f2,f8,f25,f26,vM,F4,eT]
  have ot:(dj p i).length=j:=by rw [←eT,gY]
  refine GI ?_
  simp (maxDischargeDepth:=8)-implicitDefEqProofs [ot]
open Go Go.RowKit
def eI (p:bf) (fuel:Int):Nat→Option (List eG)
 |0=>some []
 |n+1=>(eI p fuel n).bind fun l=>(ofM p fuel (dj p n) (16384- l.length)).map fun m=>l++lv (dj p n) m
def eS (p:bf) (fuel:Int):Option (List eG):=if dZ p≤60∧dy p≤4096 then eI p fuel (dy p).toNat else none
theorem sD {p:bf} {fuel:Int} {s:List Int} {most:Nat} {m:List (List Int)} (h:ofM p fuel s most=some m):m.length≤most:=by
 unfold ofM at h
 cases hs:kD p fuel s with
 |none=>simp [hs]at h
 |some l=>simp [hs]at h;rw [←h.2];exact h.1
theorem sE {p:bf} {fuel:Int}:∀{n:Nat} {l:List eG},eI p fuel n=some l→l.length≤16384
 |0,l,h=>by simp [eI]at h;subst h;simp
 |n+1,l,h=>by
  simp only [eI]at h
  cases h1:eI p fuel n with
  |none=>simp [h1]at h
  |some l1=>
   have hl:=sE h1
   simp only [h1,Option.bind_some]at h
   cases h2:ofM p fuel (dj p n) (16384- l1.length)with
   |none=>simp [h2]at h
   |some m=>
    have:=sD h2
    simp [h2]at h
    subst h
    simp
    omega
theorem ux {p:bf} {fuel:Int} {n:Nat} (h:eI p fuel n=none):∀k,eI p fuel (n+k)=none
 |0=>h
 |k+1=>by rw [←Nat.add_assoc,eI,ux h k];rfl
def uy (p:bf) (fuel:Int):List PV:=
 if cd p fuel≠0 then [hZ,pi (cd p fuel)]else match eS p fuel with
  |some l=>[.fs 2 (str l),pi 0]
  |none=>[hZ,pi 5]
def EH (p:bf) (out:List eG):PH:=[.cells 3 (au p),.cells 2 (ur out)]
def J9 (fuel:Int) (out:List eG) (n j:Nat):List (Nat×PV):=[(1,pi fuel),(2,.ref 0 0 3),(8,.sl 2 1 0 out.length out.length),(34,pi n),(35,pi j)]
def EI8 (p:bf) (fuel:Int) (n j:Nat) (fr:PF) (h:PH):Prop:=∃out,eI p fuel j=some out∧h=EH p out∧∀t∈J9 fuel out n j,fr.get t.1=t.2
theorem DB {p:bf} {fuel:Int} {n j:Nat} {out:List eG} (h:eI p fuel j=some out):EI8 p fuel n j (PF.uK (J9 fuel out n j)) (EH p out):=⟨out,h,rfl,fun t ht=>by
 simp only [J9,List.mem_cons,List.not_mem_nil,or_false]at ht
 rcases ht with rfl|rfl|rfl|rfl|rfl<;>simp [J9]⟩
theorem Ka {h:PH} {s:List Int} {m:List (List Int)}:gW h 2 m.length (.fs 2 (str (lv s m)))=some (ur (lv s m)):=by
 simp only [gW]
 rw [if_pos ⟨trivial,by simp⟩,ass (by simp)]
 rfl
theorem xv {p:bf} {fuel:Int} (eC:fV p):Fz E O 17 [.agg (au p),pi fuel] (.gA (uy p fuel)):=by
 refine fP.body (F:=a17) rfl rfl rfl ?_
 simp (maxSteps:=4000000)-implicitDefEqProofs+contextual [-getElem?_pos,asj,a17,au]
 refine aN (um eC) ?_ ?_ ?_
 iterate 2· simp (maxDischargeDepth:=8)-implicitDefEqProofs [-getElem?_pos,asj,au]
 cases h:bq p with
 |false=>
  have e:uy p fuel=[hZ,pi 30]:=by simp [uy,cd,h]
  rw [e]
  simp (maxSteps:=4000000)-implicitDefEqProofs+contextual [-getElem?_pos,asj,h]
  refine GI ?_
  simp
 |true=>
  by_cases h1:fuel<0
  ·have e:uy p fuel=[hZ,pi 1]:=by simp [uy,cd,h,h1]
   rw [e]
   simp (maxSteps:=4000000)-implicitDefEqProofs [-getElem?_pos,asj,h,h1]
   refine GI ?_
   simp
  by_cases h2:4096<fuel
  ·have e:uy p fuel=[hZ,pi 1]:=by simp [uy,cd,h,h1,h2]
   rw [e]
   simp (maxSteps:=4000000)-implicitDefEqProofs [-getElem?_pos,asj,h,h1,h2]
   refine GI ?_
   simp
  have hf:cd p fuel=0:=by simp [cd,h];omega
  have e3:uy p fuel=match eS p fuel with|some l=>[.fs 2 (str l),pi 0]|none=>[hZ,pi 5]:=by simp [uy,hf]
  simp (maxSteps:=4000000)-implicitDefEqProofs [-getElem?_pos,asj,h,h1,h2,au]
  refine aN (Dx eC) ?_ ?_ ?_
  iterate 2· simp (maxDischargeDepth:=8)-implicitDefEqProofs [-getElem?_pos,asj,au]
  by_cases h3:dZ p≤60
  case neg=>
   have e:pg p=[pi 0,pi 5]:=by simp [pg,h];omega
   rw [e3,e,eS,if_neg (fun q=>h3 q.1)]
   simp (maxSteps:=4000000)-implicitDefEqProofs [-getElem?_pos,asj]
   refine GI ?_
   simp
  have e:pg p=[pi (dy p),pi 0]:=by simp [pg,h];omega
  rw [e]
  by_cases h4:dy p≤4096
  case neg=>
   have h5:4096<dy p:=by omega
   rw [e3,eS,if_neg (fun q=>h4 q.2)]
   simp (maxSteps:=4000000)-implicitDefEqProofs [-getElem?_pos,asj,h5]
   refine GI ?_
   simp
  have h5:¬ 4096<dy p:=by omega
  rw [e3,eS,if_pos ⟨h3,h4⟩]
  have MK:0<dy p:=Int.pow_pos (by omega)
  obtain ⟨n,hn⟩:∃n:Nat,dy p=n:=⟨(dy p).toNat,by omega⟩
  rw [hn]at h4 h5⊢
  rw [Int.toNat_natCast]
  simp (maxSteps:=4000000)-implicitDefEqProofs [-getElem?_pos,asj,h5]
  refine fu (EI8 p fuel n) n (cz (h2:=EH p []) [0,9] (J9 fuel [] n 0) ?_ ?_ ?_ ?_ ?_ ?_) (DB rfl) ?_
  ·simp [EH,J9,au]
  iterate 2· simp
  ·intro b hb;omega
  iterate 2· simp (maxDischargeDepth:=8)-implicitDefEqProofs [aj,asj,EH,J9,au]
  rintro j fr h hj ⟨out,F5,rfl,gj⟩
  simp only [J9,List.mem_cons,List.not_mem_nil,or_false,forall_eq_or_imp,forall_eq]at gj
  obtain ⟨f1,f2,f8,f34,f35⟩:=gj
  have hlen:=sE F5
  by_cases py:j<n
  ·have w1:IntKind.i64.wrap (16384- (out.length:Int))=((16384- out.length:Nat):Int):=by rw [ai ⟨by omega,by omega⟩];omega
   have w4:IntKind.i64.wrap ((j:Int)+1)=((j+1:Nat):Int):=ai ⟨by omega,by omega⟩
   have ot:=rf h j
   have hws:=fun x (hx:x∈dj p j)=>zw (nH (oA h) _ x hx)
   have eT:=J6 (i:=j) eC h h3 ⟨by omega,by omega⟩
   have Z1:=ZS (fuel:=fuel) (most:=16384- out.length) eC h (s:=dj p j) (by omega) hws (by omega)
   have nV:eI p fuel (j+1)=(ofM p fuel (dj p j) (16384- out.length)).map fun m=>out++lv (dj p j) m:=by rw [eI,F5];rfl
   obtain ⟨s,hs⟩:∃s,dj p j=s:=⟨_,rfl⟩
   rw [hs]at eT Z1 nV
   simp (maxSteps:=4000000)-implicitDefEqProofs+contextual [-getElem?_pos,asj,f1,f2,f8,f34,f35,py,EH,au]
   refine aN (eT) ?_ ?_ ?_
   iterate 2· simp (maxDischargeDepth:=8)-implicitDefEqProofs [-getElem?_pos,asj,au]
   simp (maxSteps:=4000000)-implicitDefEqProofs+contextual [-getElem?_pos,asj,f1,f2,f8,au,w1]
   refine aN (Z1) ?_ ?_ ?_
   iterate 2· simp (maxDischargeDepth:=8)-implicitDefEqProofs [-getElem?_pos,asj,au]
   cases hm:ofM p fuel s (16384- out.length)with
   |none=>
    have rv:eI p fuel n=none:=by
     have:=ux (show eI p fuel (j+1)=none by rw [nV,hm];rfl) (n- (j+1))
     rwa [show j+1+(n- (j+1))=n by omega]at this
    rw [rv]
    simp (maxSteps:=4000000)-implicitDefEqProofs [-getElem?_pos,asj,zZ]
    refine GI ?_
    simp
   |some m=>
    have xP:=sD hm
    rw [hm]at nV
    simp (maxSteps:=4000000)-implicitDefEqProofs+contextual [-getElem?_pos,asj,zZ,f8]
    apply cR (k:=m.length) (new:=ur (lv s m))
    iterate 9· first|omega|exact Ka|rfl|(simp-implicitDefEqProofs [];done)
    simp (maxSteps:=4000000)-implicitDefEqProofs+contextual [-getElem?_pos,asj,f35,w4]
    refine .qb py (cz (h2:=EH p (out++lv s m)) [0,1] (J9 fuel (out++lv s m) n (j+1)) ?_ ?_ ?_ ?_ ?_ ?_) (DB nV)
    ·simp [EH,J9,au,eg,f1,f2,f34]
    iterate 2· simp
    ·intro b hb;omega
    iterate 2· simp (maxDischargeDepth:=8)-implicitDefEqProofs [aj,asj,EH,J9,au,eg,f1,f2,f34]
  ·obtain rfl:j=n:=by omega
   simp (maxSteps:=4000000)-implicitDefEqProofs+contextual [-getElem?_pos,asj,f1,f2,f8,f34,f35,EH]
   rw [F5]
   refine ⟨_,_,GI ?_,rfl,rfl,by simp⟩
   simp (maxDischargeDepth:=8)-implicitDefEqProofs []
end Go.Proofs.YtppcmpmnglaleaaGreatDoor.A.P
namespace Go.Proofs.YtppcmpmnglaleaaGreatDoor.A
open Go
def T8 (S:Nat→Bool):cN→Bool
 | .call f _=>S f
 | .callv _ _=>false
 | .xt .qn _=>false
 |_=>true
def zy (S:Nat→Bool) (l:List AO):Bool:=l.all fun o=>T8 S o.o
def zz (S:Nat→Bool):AC→Bool
 | .bR l| .bA l _=>zy S l
 | .seq a b| .cond _ a b=>zz S a&&zz S b
 | .block _ a| .loop a=>zz S a
 |_=>true
theorem DD {H H':AH} {a:Addr} {vs:List Value} (h:H.st a vs=some H'):H'.bs=H.bs:=by
 unfold AH.st at h
 split at h
 ·obtain ⟨_,h⟩:=aD h
  cases h
  rfl
 ·cases h
theorem T9 {sz bytes:Nat} {H H':AH} {s x v:Value} (h:bI sz bytes H s x=some (v,H')):H'.bs=H.bs:=by
 unfold bI at h
 split at h
 case h_2=>cases h
 split at h
 ·obtain ⟨_,h⟩:=aD h
  cases h;rfl
 split at h
 ·cases h
 obtain ⟨_,h⟩:=aD h
 split at h
 ·split at h
  ·obtain ⟨_,h⟩:=aD h
   obtain ⟨H1,h1,h2⟩:=asv.1 h
   cases h2
   exact DD h1
  ·cases h
 split at h
 ·obtain ⟨_,h⟩:=aD h
  cases h;rfl
 split at h
 ·obtain ⟨_,h⟩:=aD h
  obtain ⟨_,_,h2⟩:=asv.1 h
  cases h2;rfl
 ·cases h
theorem Ou {sz:Nat} {H H':AH} {d s v:Value} (h:kP sz H d s=some (v,H')):H'.bs=H.bs:=by
 unfold kP at h
 split at h
 case h_2=>cases h
 obtain ⟨c,_,h⟩:=asw.1 h
 split at h
 ·cases hc:c.isEmpty with
  |true=>simp only [hc,cond_true,asm,ast]at h;rw [h.2]
  |false=>
   simp only [hc,cond_false]at h
   obtain ⟨H1,h1,h2⟩:=asv.1 h
   cases h2
   exact DD h1
 ·cases h;rfl
theorem Kc {S:Nat→Bool} {o:AO} {fr:Fr} {H H':AH} {r:jN} (hn:T8 S o.o=true) (h:aA o.o (X.ev fr) H=some (r,H')):H'.bs=H.bs:=by
 cases hk:fw o.o with
 |pure=>rw [(mZ hk h).1]
 |load=>rw [(nc hk h).1]
 |read=>rw [(ng hk h).1]
 |alloc=>
  obtain ⟨aX,e2,_⟩:=jP hk h
  rw [e2];rfl
 |st=>
  obtain ⟨c,aX,h2,_,e2,_⟩:=r9 hk h
  rw [e2];rfl
 |kR=>
  obtain ⟨g,d,o⟩:=o
  dsimp only at*
  cases o with
  |qp kk x k v=>
   simp only [aA]at h
   split at h
   case h_2=>cases h
   split at h
   case h_2=>cases h
   obtain ⟨_,h⟩:=aD h
   obtain ⟨_,_,h2⟩:=asv.1 h
   cases h2;rfl
  |call f xs=>cases h;rfl
  |callv x xs=>cases hn
  |app sz bytes s x=>
   obtain ⟨⟨v,H1⟩,h1,h2⟩:=asv.1 h
   cases h2
   exact T9 h1
  |copy sz d s=>
   obtain ⟨⟨v,H1⟩,h1,h2⟩:=asv.1 h
   cases h2
   exact Ou h1
  |xt k l=>
   cases k with
   |qn=>cases hn
   |bad=>cases h
   |_=>cases hk
  |sl sz x lo hi mx=>cases lo<;>cases hk
  |_=>cases hk
def Kd (S:Nat→Bool) (call:Cl):Prop:=∀f xs H v H',S f=true→call f xs H=some (v,H')→H'.bs=H.bs
section
variable{S:Nat→Bool} {call:Cl} (K:Kd S call)
include K
theorem Ke {o:AO} {fr cq:Fr} {H H':AH} (hn:T8 S o.o=true) (h:kF call o fr H=some (cq,H')):H'.bs=H.bs:=by
 unfold kF at h
 cases hw:o.wanted fr with
 |false=>simp only [hw,cond_false,asm,ast]at h;rw [h.2]
 |true=>
  simp only [hw,cond_true]at h
  split at h
  ·rename_i x H1 e
   cases h
   exact Kc hn e
  ·rename_i f xs H1 e
   have e1:=Kc hn e
   split at h
   ·rename_i x H2 e2
    cases h
    refine (K f xs H1 x H' ?_ e2).trans e1
    obtain ⟨g,d,o⟩:=o
    have hk:=jG e
    dsimp only at*
    cases o with
    |call g a=>cases e;exact hn
    |callv x a=>cases hn
    |qp kk x k v=>
     simp only [aA]at e
     split at e
     case h_2=>cases e
     split at e
     case h_2=>cases e
     obtain ⟨_,e⟩:=aD e
     obtain ⟨_,_,h2⟩:=asv.1 e
     cases h2
    |app sz bytes s x=>
     obtain ⟨⟨v,H1⟩,h1,h2⟩:=asv.1 e
     cases h2
    |copy sz d s=>
     obtain ⟨⟨v,H1⟩,h1,h2⟩:=asv.1 e
     cases h2
    |xt k l=>
     obtain ⟨⟨v,H1⟩,h1,h2⟩:=asv.1 e
     cases h2
    |sl sz x lo hi mx=>cases lo<;>cases hk
    |_=>cases hk
   ·cases h
  ·cases h
theorem Kf:∀{l:List AO} {fr cq:Fr} {H H':AH},zy S l=true→ops call l fr H=some (cq,H')→H'.bs=H.bs
 |[],_,_,_,_,_,h=>by cases h;rfl
 |o::l,fr,cq,H,H',hn,h=>by
  simp only [zy,List.all_cons,aso]at hn
  unfold ops at h
  split at h
  ·rename_i kU H1 e
   exact (Kf (by simpa [zy]using hn.2) h).trans (Ke K hn.1 e)
  ·cases h
theorem DE:∀{l:List AO} {fr:Fr} {H:AH} {ss:List (Fr×AH)},zy S l=true→kG call l fr H=some ss→(gJ (fr,H) ss).2.bs=H.bs
 |[],_,_,_,_,h=>by cases h;rfl
 |o::l,fr,H,ss,hn,h=>by
  simp only [zy,List.all_cons,aso]at hn
  unfold kG at h
  split at h
  ·rename_i kU H1 e
   split at h
   ·rename_i ss1 e1
    cases h
    exact (DE (by simpa [zy]using hn.2) e1).trans (Ke K hn.1 e)
   ·cases h
  ·cases h
theorem Ov {l:List AO} {ck:List (Nat×Nat×Nat)} {fr cq:Fr} {H H':AH} (hn:zy S l=true) (h:xK call l ck fr H=some (cq,H')):H'.bs=H.bs:=by
 unfold xK at h
 split at h
 ·rename_i ss e
  obtain ⟨_,h⟩:=aD h
  have:=DE K hn e
  cases hs:gJ (fr,H) ss with
  |mk a b=>
   rw [hs]at h this
   cases h
   exact this
 ·cases h
theorem gZ:∀(m:Nat) {c:AC} {fr cq:Fr} {H H':AH} {ex:Ex},zz S c=true→aE call m c fr H=some (ex,cq,H')→H'.bs=H.bs
 |0,_,_,_,_,_,_,_,h=>by cases h
 |m+1,c,fr,cq,H,H',ex,hn,h=>by
  cases c with
  |skip=>cases h;rfl
  |exit i=>cases h;rfl
  |ret=>cases h;rfl
  |bR l=>
   simp only [aE]at h
   split at h
   ·rename_i a b e
    cases h
    exact Kf K hn e
   ·cases h
  |bA l ck=>
   simp only [aE]at h
   split at h
   ·rename_i a b e
    cases h
    exact Ov K hn e
   ·cases h
  |seq a b=>
   simp only [zz,aso]at hn
   simp only [aE]at h
   split at h
   ·rename_i f1 H1 e
    exact (gZ m hn.2 h).trans (gZ m hn.1 e)
   ·exact gZ m hn.1 h
  |cond x a b=>
   simp only [zz,aso]at hn
   simp only [aE]at h
   split at h
   ·exact gZ m hn.1 h
   ·exact gZ m hn.2 h
   ·cases h
  |block i a=>
   simp only [aE]at h
   split at h
   ·rename_i j f1 H1 e
    have:=gZ m (c:=a) hn e
    cases hj:Nat.beq j i<;>simp only [hj,cond_true,cond_false,asm,ast]at h<;>rw [←h.2.2]<;>exact this
   ·exact gZ m (c:=a) hn h
  |loop a=>
   simp only [aE]at h
   split at h
   ·rename_i f1 H1 e
    exact (gZ m (c:=.loop a) hn h).trans (gZ m (c:=a) hn e)
   ·exact gZ m (c:=a) hn h
end
theorem Kg {E:Env} {O:kj} {S:Nat→Bool} (hS:∀f F,S f=true→O f=none→E f=some F→zz S F.body=true) (hO:∀f g,S f=true→O f=some g→∀xs H v H',g xs H=some (v,H')→H'.bs=H.bs):∀n,Kd S (fW E O n)
 |0=>fun _ _ _ _ _ _ h=>by cases h
 |n+1=>fun f xs H v H' hf h=>by
  unfold fW at h
  split at h
  · rename_i g hg
    exact hO f g hf hg xs H v H' h
  · rename_i hg
    split at h
    · cases h
    · rename_i F hF
      obtain ⟨_,h⟩:=aD h
      split at h
      · cases h
      · rename_i ex fr H1 _ e
        split at h
        · cases h
          exact gZ (Kg hS hO n) n (hS f F hf hg hF) e
        · cases h
      · cases h
theorem Ca.uM {E:Env} {O:kj} {S:Nat→Bool} (hS:∀f F,S f=true→O f=none→E f=some F→zz S F.body=true) (hO:∀f g,S f=true→O f=some g→∀xs H v H',g xs H=some (v,H')→H'.bs=H.bs)
 {f:Nat} {xs:List Value} {H:AH} {Q:Value→AH→Prop} (hf:S f=true) (h:Ca E O f xs H Q):Ca E O f xs H (fun x H'=>Q x H'∧H'.bs=H.bs):=by
 obtain ⟨n,x,H',e,q⟩:=h
 exact ⟨n,x,H',e,q,Kg hS hO n f xs H x H' hf e⟩
end Go.Proofs.YtppcmpmnglaleaaGreatDoor.A
namespace Go.Proofs.YtppcmpmnglaleaaGreatDoor.A
open Go
theorem jh {H:AH} {b:Nat} {s t:ByteArray} (h:H.bs=some (b,s)) (hs:s.size+t.size≤140737488355328):
 Ca E O 83 [.pointer (some ⟨b,0,none⟩),.string t] H (fun _ H'=>Ext H H'∧H'.bs=some (b,s++t)):=
 Ca.qF (g:=th) (x:=.tuple #[.int .i64 t.size,.nilIface]) (H':={H with bs:=some (b,s++t)}) rfl (by simp [th,h,hs]) ⟨⟨rfl,asp _,fun _ _=>rfl⟩,rfl⟩
theorem Ow {H:AH} {b:Nat} {s:ByteArray} (h:H.bs=some (b,s)):
 Ca E O 86 [.pointer (some ⟨b,0,none⟩)] H (fun x H'=>x= .string s∧H'=H):=
 Ca.qF (g:=Hi) (x:=.string s) (H':=H) rfl (by simp [Hi,h]) ⟨rfl,rfl⟩
def ph (n:Int):ByteArray:=⟨(Hl n.toNat).toArray⟩
def uY (n:Int):Prop:=0≤n∧n<100
theorem xy {H:AH} {n:Int} (h:uY n):Ca E O 84 [.int .i64 n] H (fun x H'=>x= .string (ph n)∧H'=H):=
 Ca.qF (g:=yf) (x:=.string (ph n)) (H':=H) rfl (by simp [yf,h.1,h.2,ph]) ⟨rfl,rfl⟩
theorem lA (n:Int):(ph n).size≤2:=by
 unfold ph Hl
 split<;>simp [ByteArray.size]
def Kh (i:Nat):ByteArray:=if i=0 then⟨#[32]⟩else⟨#[58]⟩
theorem rh (i:Nat):(Kh i).size=1:=by unfold Kh;split<;>rfl
def oB (s:ByteArray) (ns:List Int):Nat→ByteArray
 |0=>s
 |j+1=>oB s ns j++Kh j++ph (ns.getD j 0)
theorem pj (s:ByteArray) (ns:List Int):∀j,(oB s ns j).size≤s.size+3*j
 |0=>by simp [oB]
 |j+1=>by
  have h1:=pj s ns j
  have h2:=lA (ns.getD j 0)
  have h3:=rh j
  simp only [oB,ByteArray.size_append]
  omega
theorem DF {ns:List Int} {v:Value} {b:Nat} {s:ByteArray} {H:AH} (hw:H.n0≤H.nx) (hv:eM H v ns) (hl:ns.length≤3) (hn:∀n∈ns,uY n) (hb:H.bs=some (b,s)) (hs:s.size≤2^40):
 Ca E O 82 [v,.pointer (some ⟨b,0,none⟩)] H (fun _ H'=>Ext H H'∧H'.bs=some (b,oB s ns ns.length)):=by
 refine Ca.aS (F:=a82) rfl rfl rfl ?_
 obtain ⟨p1,c1,lC⟩:=hv.len
 simp (maxSteps:=4000000)-implicitDefEqProofs+contextual [-X.ev,a82,lC]
 refine ch (fun k fr H'=>(Ext H H'∧∃i:Nat,i+k=ns.length∧H'.bs=some (b,oB s ns i)∧fr.get 1= .pointer (some ⟨b,0,none⟩)∧fr.get 5=v∧fr.get 6= .int .i64 ns.length∧fr.get 7= .int .i64 i)) ?_ ns.length ⟨Ext.refl _,0,by simp,by simpa [oB]using hb,by simp,by simp [lC],by simp,by simp⟩
 rintro k fr H1 ⟨X1,i,hi,mj,f1,f5,f6,f7⟩
 have lI:=X1.wf hw
 have iu:=pj s ns i
 by_cases h:i<ns.length
 ·obtain ⟨n,hx⟩:∃n,ns[i]?=some n:=⟨_,asl h⟩
  obtain ⟨b1,o1,c',cA,eh⟩:=(hv.ext X1).at hx
  rw [cA]at f5
  have hnn:=hn n (asq hx)
  have kN:nL 3 1 [.string ⟨#[]⟩,.string ⟨#[]⟩,.string ⟨#[]⟩] H1 [(0,1,.string ⟨#[32]⟩),(1,1,.string ⟨#[58]⟩),(2,1,.string ⟨#[58]⟩)]=some (.slice (some ⟨H1.nx,0,none⟩) 3 3,H1.alloc (.cells 1 [.string ⟨#[32]⟩,.string ⟨#[58]⟩,.string ⟨#[58]⟩])):=rfl
  have X2:=Ext.alloc H1 (.cells 1 [.string ⟨#[32]⟩,.string ⟨#[58]⟩,.string ⟨#[58]⟩])
  have tn:(H1.alloc (.cells 1 [.string ⟨#[32]⟩,.string ⟨#[58]⟩,.string ⟨#[58]⟩])).ld ⟨H1.nx,i,none⟩=some (.string (Kh i)):=by
   refine ak lI ?_
   have:i=0∨i=1∨i=2:=by omega
   rcases this with rfl|rfl|rfl<;>rfl
  have iL:(H1.alloc (.cells 1 [.string ⟨#[32]⟩,.string ⟨#[58]⟩,.string ⟨#[58]⟩])).bs=some (b,oB s ns i):=mj
  generalize kl:H1.alloc (.cells 1 [.string ⟨#[32]⟩,.string ⟨#[58]⟩,.string ⟨#[58]⟩])=H2 at kN X2 tn iL
  have hi3:(i:Int)<3:=by omega
  simp (maxSteps:=4000000)-implicitDefEqProofs+contextual [-X.ev,f1,f5,f6,f7,h,eh,kN,tn,hi3]
  apply ah
  ·(simp-implicitDefEqProofs [-X.ev,f1];rfl)
  refine (jh (t:=Kh i) iL (by rw [rh];omega)).mono ?_
  rintro x H3 ⟨X3,uF⟩
  simp (maxSteps:=4000000)-implicitDefEqProofs+contextual [-X.ev,f1,f5,f6,f7]
  apply ah
  ·(simp-implicitDefEqProofs [-X.ev,f1];rfl)
  refine (xy hnn).mono ?_
  rintro x H4 ⟨rfl,rfl⟩
  simp (maxSteps:=4000000)-implicitDefEqProofs+contextual [-X.ev,f1,f5,f6,f7]
  apply ah
  ·(simp-implicitDefEqProofs [-X.ev,f1];rfl)
  refine (jh (t:=ph n) uF (by have:=lA n;have:=rh i;simp only [ByteArray.size_append];omega)).mono ?_
  rintro x H5 ⟨X5,xH⟩
  simp (maxSteps:=4000000)-implicitDefEqProofs+contextual [-X.ev,f1,f5,f6,f7]
  refine ⟨k- 1,by omega,((X1.trans X2).trans X3).trans X5,i+1,by omega,?_,cA.symm,ai ⟨by omega,by omega⟩⟩
  rw [xH,oB,List.getD_eq_getElem?_getD,hx]
  rfl
 ·obtain rfl:i=ns.length:=by omega
  simp (maxSteps:=4000000)-implicitDefEqProofs+contextual [-X.ev,f1,f5,f6,f7]
  exact ⟨X1,mj⟩
end Go.Proofs.YtppcmpmnglaleaaGreatDoor.A
namespace Go.Proofs.YtppcmpmnglaleaaGreatDoor.A.P
open Go Go.RowKit
def DG (a b:Int):Int:=IntKind.i64.wrap (BitVec.ofInt 64 a&&&~~~BitVec.ofInt 64 b).toNat
theorem Ki (a b:Int):cx .andNot (.int .i64 a) (.int .i64 b)=some (.int .i64 (DG a b)):=rfl
def uz (level other:Int):Bool:=decide (0≤other)&&(decide (other≤15)&&decide (DG other level=0))
theorem Ua {level other:Int}:Fz E O 118 [pi level,pi other] (pb (uz level other)):=by
 refine Fz.body (F:=Eh) rfl rfl rfl rfl ?_
 have ha:=Ki other level
 by_cases h1:0≤other
 ·by_cases h2:other≤15
  ·simp (maxSteps:=4000000)-implicitDefEqProofs [-getElem?_pos,asj,Eh,uz,h1,h2,ha]
  ·simp (maxSteps:=4000000)-implicitDefEqProofs [-getElem?_pos,asj,Eh,uz,h1,h2,ha]
 ·simp (maxSteps:=4000000)-implicitDefEqProofs [-getElem?_pos,asj,Eh,uz,h1]
def gE (level:Int) (l:List (Int×Int)):List (Int×Int):=l.filter fun o=>uz level o.1
theorem Fw {level:Int} {l:List (Int×Int)} {i:Nat} {o:Int×Int} (h:l[i]?=some o):gE level (l.take (i+1))=if uz level o.1=true then gE level (l.take i)++[o]else gE level (l.take i):=by
 rw [List.take_add_one,h]
 simp only [gE,List.filter_append,Option.toList_some,List.filter_cons,List.filter_nil]
 split<;>simp
theorem uA {level:Int} {l:List (Int×Int)}:(gE level l).length≤l.length:=List.length_filter_le ..
def TL (level:Int) (l:List (Int×Int)) (i:Nat):List (Nat×PV):=[(0,pi level),(5,.sl 2 0 0 (gE level (l.take i)).length (gE level (l.take i)).length),(8,.fs 2 (vG l)),(9,pi l.length),(10,pi i)]
def TH (level:Int) (l:List (Int×Int)) (i:Nat):PH:=[.cells 2 (qF (gE level (l.take i)))]
def TI (level:Int) (l:List (Int×Int)) (i:Nat) (fr:PF) (h:PH):Prop:=h=TH level l i∧∀t∈TL level l i,fr.get t.1=t.2
theorem BE {level:Int} {l:List (Int×Int)} {i:Nat}:TI level l i (PF.uK (TL level l i)) (TH level l i):=⟨rfl,fun t ht=>by
 simp only [TL,List.mem_cons,List.not_mem_nil,or_false]at ht
 rcases ht with rfl|rfl|rfl|rfl|rfl<;>simp [TL]⟩
theorem Ox (l:List (Int×Int)) (i:Nat):(vG l)[i]?=(l[i]?).map fun e=>[pi e.1,pi e.2]:=by simp [vG]
theorem Ub {level:Int} {l:List (Int×Int)} (hl:l.length≤2^40):Fz E O 85 [pi level,.fs 2 (vG l)] (.fs 2 (vG (gE level l))):=by
 refine fP.body (F:=a85) rfl rfl rfl ?_
 simp (maxSteps:=4000000)-implicitDefEqProofs+contextual [-getElem?_pos,asj,a85]
 refine fu (TI level l) l.length (cz (h2:=TH level l 0) [9] (TL level l 0) ?_ ?_ ?_ ?_ ?_ ?_) BE ?_
 ·simp [TH,TL,gE]
 iterate 2· simp
 ·intro b hb;omega
 iterate 2· simp (maxDischargeDepth:=8)-implicitDefEqProofs [aj,asj,TH,TL,gE]
 rintro i fr h hi ⟨rfl,gj⟩
 simp only [TL,List.mem_cons,List.not_mem_nil,or_false,forall_eq_or_imp,forall_eq]at gj
 obtain ⟨f0,f5,f8,f9,f10⟩:=gj
 have ht:(gE level (l.take i)).length≤i:=Nat.le_trans uA (by simp;omega)
 by_cases h:i<l.length
 ·obtain ⟨e,he⟩:∃e,l[i]?=some e:=⟨_,asl h⟩
  have hn:=Fw (level:=level) he
  have w4:IntKind.i64.wrap ((i:Int)+1)=((i+1:Nat):Int):=ai ⟨by omega,by omega⟩
  obtain ⟨T,hT⟩:∃T,gE level (l.take i)=T:=⟨_,rfl⟩
  rw [hT]at hn f5 ht
  simp (maxSteps:=4000000)-implicitDefEqProofs+contextual [-getElem?_pos,asj,f0,f5,f8,f9,f10,h,Ox,he,TH,hT]
  refine aN (Ua (level:=level) (other:=e.1)) ?_ ?_ ?_
  iterate 2· simp (maxDischargeDepth:=8)-implicitDefEqProofs [-getElem?_pos,asj]
  cases hs:uz level e.1 with
  |true=>
   rw [hs,if_pos rfl]at hn
   simp (maxSteps:=4000000)-implicitDefEqProofs+contextual [-getElem?_pos,asj,f5]
   apply cR
   iterate 9· first|rfl|omega|(simp-implicitDefEqProofs [-getElem?_pos,asj];first|done|rfl|omega)
   simp (maxSteps:=4000000)-implicitDefEqProofs+contextual [-getElem?_pos,asj,f10,w4]
   refine .qb h (cz (h2:=TH level l (i+1)) [0] (TL level l (i+1)) ?_ ?_ ?_ ?_ ?_ ?_) BE
   ·simp [TH,TL,hn,aL,f0,f8,f9]
   iterate 2· simp
   ·intro b hb;omega
   iterate 2· simp (maxDischargeDepth:=8)-implicitDefEqProofs [aj,asj,TH,TL,hn,aL,f0,f8,f9]
  |false=>
   rw [hs,if_neg (by simp)]at hn
   simp (maxSteps:=4000000)-implicitDefEqProofs+contextual [-getElem?_pos,asj,f5,f10,w4]
   refine .qb h (cz (h2:=TH level l (i+1)) [0] (TL level l (i+1)) ?_ ?_ ?_ ?_ ?_ ?_) BE
   ·simp [TH,TL,hn,f0,f5,f8,f9]
   iterate 2· simp
   ·intro b hb;omega
   iterate 2· simp (maxDischargeDepth:=8)-implicitDefEqProofs [aj,asj,TH,TL,hn,f0,f5,f8,f9]
 ·obtain rfl:i=l.length:=by omega
  rw [ass (asp _)]at f5
  simp (maxSteps:=4000000)-implicitDefEqProofs+contextual [-getElem?_pos,asj,f5,f8,f9,f10,TH]
  refine GI ?_
  simp (maxDischargeDepth:=8)-implicitDefEqProofs []
end Go.Proofs.YtppcmpmnglaleaaGreatDoor.A.P
namespace Go.Proofs.YtppcmpmnglaleaaGreatDoor.A
open Go
def BF (H:AH):AH:={H with tr:=T.put none (some none) (H.nx+1) H.tr H.nx,nx:=H.nx+1,bs:=some (H.nx,.empty)}
theorem Uc {m:Md} {d:Nat} {l:List AO} {ks:List Ko} {fr:Fr} {H:AH} {Q:Ex→Fr→AH→Prop}:Vx E O m (⟨none,some d,.xt .qn []⟩::l) ks fr H Q↔
 Vx E O (m.up (fr.put d (.pointer (some ⟨H.nx,0,none⟩))) (BF H)) l ks (fr.put d (.pointer (some ⟨H.nx,0,none⟩))) (BF H) Q:=by
 rw [HQ _ (r:=some (.pointer (some ⟨H.nx,0,none⟩),BF H)) rfl rfl]
 simp [Er,v1,h2]
theorem Ext.qn (H:AH):Ext H (BF H):=⟨rfl,Nat.le_succ _,fun b hb=>by
 have e:(BF H).raw b=H.raw b:=by
  show(match(T.put none (some none) (H.nx+1) H.tr H.nx).get none b with|some x=>x|none=>H.base b)=_
  rw [T.bV _ _ _ _ _ _ (by omega),if_neg (by omega)]
  rfl
 rw [AH.fv (show b<(BF H).nx by show b<H.nx+1;omega),AH.fv hb,e]⟩
def xz (a b:Int):Int:=IntKind.i64.wrap (BitVec.ofInt 64 a&&&BitVec.ofInt 64 b).toNat
theorem DH (a b:Int):cx .and (.int .i64 a) (.int .i64 b)=some (.int .i64 (xz a b)):=rfl
theorem DI {a b:ByteArray} (h:a.size+b.size≤2^50):cx .add (.string a) (.string b)=some (.string (a++b)):=by
 have:¬ (((a.size+b.size:Nat):Int)>IntKind.i64.max):=by
  have:IntKind.i64.max=9223372036854775807:=by decide
  rw [this];omega
 simp only [cx,vR,if_neg this]
theorem Ql {H:AH} {l:List Int} (hw:H.n0≤H.nx):eM (H.alloc (.cells 1 (l.map fun n=>.int .i64 n))) (.slice (some ⟨H.nx,0,none⟩) l.length l.length) l:=by
 refine ⟨some ⟨H.nx,0,none⟩,l.length,by simp [a7],fun i r hi=>?_⟩
 refine ⟨H.nx,0,rfl,?_⟩
 simp only [a7,List.getElem?_map]at hi
 cases hx:l[i]? with
 |none=>rw [hx]at hi;cases hi
 |some n=>
  rw [hx]at hi
  cases hi
  have qG:=(asr.1 hx).1
  have hg:(H.alloc (.cells 1 (l.map fun n=>.int .i64 n))).get H.nx=some (.cells 1 (l.map fun n=>.int .i64 n)):=by rw [AH.dS,if_pos rfl]
  rw [bW hg hw (by simp;omega)]
  congr 1
  rw [List.drop_eq_getElem_cons (by simpa using qG)]
  simp
  rw [asl qG]at hx
  cases hx
  rfl
def kf (s:ByteArray) (rs:List (List Int)):Nat→ByteArray
 |0=>s
 |j+1=>oB (kf s rs j) (rs.getD j []) (rs.getD j []).length
theorem kg (s:ByteArray) (rs:List (List Int)) (h:∀r∈rs,r.length≤3):∀j,(kf s rs j).size≤s.size+9*j
 |0=>by simp [kf]
 |j+1=>by
  have h1:=kg s rs h j
  have h2:=pj (kf s rs j) (rs.getD j []) (rs.getD j []).length
  have h3:(rs.getD j []).length≤3:=by
   rw [List.getD_eq_getElem?_getD]
   cases hr:rs[j]? with
   |none=>simp
   |some r=>exact h r (asq hr)
  rw [kf]
  omega
def zA (l:List (Int×Int)):List (List Int):=l.map fun o=>[o.1,o.2]
def Qm (l:List Ev):List (List Int):=l.map fun e=>[e.kind,e.at_,e.val]
def BG (bits:Int) (r:jo) (s:ByteArray):ByteArray:=if xz bits 8=0 then s else s++(⟨#[101]⟩++ph r.en++⟨#[59]⟩)
def BH (level bits:Int) (r:jo) (s:ByteArray):ByteArray:=if xz bits 1=0 then s else kf (s++⟨#[111]⟩) (zA (P.gE level r.outs)) (P.gE level r.outs).length++⟨#[59]⟩
def BI (bits:Int) (r:jo) (s:ByteArray):ByteArray:=if xz bits 2=0 then s else kf (s++⟨#[116]⟩) (Qm r.trace) r.trace.length++⟨#[59]⟩
def Oy (bits:Int) (r:jo) (s:ByteArray):ByteArray:=if xz bits 4=0 then s else s++(⟨#[99]⟩++ph r.cost++⟨#[59]⟩)
def vN (level bits:Int) (r:jo):ByteArray:=Oy bits r (BI bits r (BH level bits r (BG bits r .empty)))
open Go
open P (gE)
theorem Oz {level:Int} {l:List (Int×Int)} {F:Nat→Prop} {H:AH} {φ:Nat→Nat} {uo:Value} (S:P.eo ⟨F,H,φ,[]⟩) (hu:P.RF F H (.fs 2 (P.vG l)) uo) (hl:l.length≤2^40):
 Ca E O 85 [.int .i64 level,uo] H (fun x H'=>(Ext H H'∧Rows H' 2 x (dD (gE level l)))∧H'.bs=H.bs):=by
 refine Ca.uM (S:=fun f=>f==85||f==118) (fun f G hf _ hE=>?_) (fun f g hf hg=>?_) rfl ?_
 ·simp only [Bool.or_eq_true,beq_iff_eq]at hf
  rcases hf with rfl|rfl<;>(cases hE;rfl)
 ·simp only [Bool.or_eq_true,beq_iff_eq]at hf
  rcases hf with rfl|rfl<;>cases hg
 ·refine (P.Ub (level:=level) hl F H φ _ S (.cons (.v _) (.cons (.fs hu) .nil))).mono ?_
  rintro x H' ⟨r,h',F',dT,⟨rfl,rfl,_⟩,hr,S',T⟩
  have no:∀x,¬ P.im ⟨F,H,φ,[]⟩ P.qw x:=fun x q=>by
   obtain ⟨b,_,s,_⟩:=q
   exact absurd (P.aW s) (Nat.not_lt_zero _)
  exact ⟨⟨T.n0,T.nx,fun b hb=>T.out b hb (no b)⟩,P.Dr (by simp [P.vG,dD,A0,P.pi]) (P.Bo hr)⟩
theorem Fx (bits:Int) (r:jo) (s:ByteArray):(BG bits r s).size≤s.size+10:=by
 have:=lA r.en
 unfold BG
 split
 ·omega
 ·simp only [ByteArray.size_append]
  show _+(1+_+1)≤_
  omega
theorem Kj (l:List (Int×Int)):∀r∈zA l,r.length≤3:=by
 intro r hr
 simp only [zA,List.mem_map]at hr
 obtain ⟨x,_,rfl⟩:=hr
 simp
theorem Qn (l:List Ev):∀r∈Qm l,r.length≤3:=by
 intro r hr
 simp only [Qm,List.mem_map]at hr
 obtain ⟨x,_,rfl⟩:=hr
 simp
theorem Fy (level bits:Int) (r:jo) (s:ByteArray):(BH level bits r s).size≤s.size+9*r.outs.length+10:=by
 have h1:=kg (s++⟨#[111]⟩) (zA (gE level r.outs)) (Kj _) (gE level r.outs).length
 have h2:=P.uA (level:=level) (l:=r.outs)
 unfold BH
 split
 ·omega
 ·simp only [ByteArray.size_append]at*
  have e1:(⟨#[111]⟩:ByteArray).size=1:=rfl
  have e2:(⟨#[59]⟩:ByteArray).size=1:=rfl
  omega
theorem FA (bits:Int) (r:jo) (s:ByteArray):(BI bits r s).size≤s.size+9*r.trace.length+10:=by
 have h1:=kg (s++⟨#[116]⟩) (Qm r.trace) (Qn _) r.trace.length
 unfold BI
 split
 ·omega
 ·simp only [ByteArray.size_append]at*
  have e1:(⟨#[116]⟩:ByteArray).size=1:=rfl
  have e2:(⟨#[59]⟩:ByteArray).size=1:=rfl
  omega
theorem Kk {F:Nat→Prop} {H H':AH} {φ:Nat→Nat} (S:P.eo ⟨F,H,φ,[]⟩) (X:Ext H H'):P.eo ⟨F,H',φ,[]⟩:=⟨X.wf S.wf,fun x hx=>Nat.lt_of_lt_of_le (S.fz x hx) X.nx,fun b b' s=>absurd (P.aW s) (Nat.not_lt_zero _),fun b z cs e=>by simp at e,fun b es e=>by simp at e⟩
theorem Ud {F:Nat→Prop} {H H':AH} {φ:Nat→Nat} (S:P.eo ⟨F,H,φ,[]⟩) (X:Ext H H') {p:P.PV} {x:Value} (h:P.RF F H p x):P.RF F H' p x:=P.RF.mono X.n0 (fun x hx=>⟨hx,X.old x (S.fz x hx)⟩) h
def VI (H0:AH) (b bx:Nat) (level bits:Int) (s:ByteArray) (fr:Fr) (H:AH):Prop:=Ext H0 H∧H.bs=some (b,s)∧fr.get 0= .int .i64 level∧fr.get 1= .int .i64 bits∧fr.get 5= .pointer (some ⟨bx,0,none⟩)∧fr.get 7= .pointer (some ⟨b,0,none⟩)∧fr.get 8= .func (.func 82) #[] #[.pointer (some ⟨b,0,none⟩)]
structure OA (r:jo):Prop where
 en:uY r.en
 cost:uY r.cost
 outs:∀o∈r.outs,uY o.1∧uY o.2
 trace:∀e∈r.trace,uY e.kind∧uY e.at_∧uY e.val
 lo:r.outs.length≤2^20
 lt:r.trace.length≤2^20
theorem OB {level bits:Int} {r:jo} {F:Nat→Prop} {H:AH} {φ:Nat→Nat} {us uo ut:Value} (S:P.eo ⟨F,H,φ,[]⟩) (ho:P.RF F H (.fs 2 (P.vG r.outs)) uo) (ht:P.RF F H (.fs 3 (P.Dn r.trace)) ut) (k:OA r):
 Ca E O 51 [.int .i64 level,.int .i64 bits,.agg #[.int .i64 r.en,us,uo,ut,.int .i64 r.cost,.int .i64 r.used,.int .i64 r.wh]] H (fun x H'=>x= .string (vN level bits r)∧Ext H H'):=by
 have hw:H.n0≤H.nx:=S.wf
 have SQ:Rows H 3 ut (c9 r.trace):=P.Dr (by simp [P.Dn,c9,Ev.row,P.pi]) ht
 refine Ca.aS (F:=a51) rfl rfl rfl ?_
 have X1:=Ext.alloc H (.cells 7 [.int .i64 r.en,us,uo,ut,.int .i64 r.cost,.int .i64 r.used,.int .i64 r.wh])
 have d0:(H.alloc (.cells 7 [.int .i64 r.en,us,uo,ut,.int .i64 r.cost,.int .i64 r.used,.int .i64 r.wh])).ld ⟨H.nx,0,none⟩=some (.int .i64 r.en):=ak hw rfl
 have d1:(H.alloc (.cells 7 [.int .i64 r.en,us,uo,ut,.int .i64 r.cost,.int .i64 r.used,.int .i64 r.wh])).ld ⟨H.nx,1,none⟩=some us:=ak hw rfl
 have d2:(H.alloc (.cells 7 [.int .i64 r.en,us,uo,ut,.int .i64 r.cost,.int .i64 r.used,.int .i64 r.wh])).ld ⟨H.nx,2,none⟩=some uo:=ak hw rfl
 have d3:(H.alloc (.cells 7 [.int .i64 r.en,us,uo,ut,.int .i64 r.cost,.int .i64 r.used,.int .i64 r.wh])).ld ⟨H.nx,3,none⟩=some ut:=ak hw rfl
 have d4:(H.alloc (.cells 7 [.int .i64 r.en,us,uo,ut,.int .i64 r.cost,.int .i64 r.used,.int .i64 r.wh])).ld ⟨H.nx,4,none⟩=some (.int .i64 r.cost):=ak hw rfl
 have d5:(H.alloc (.cells 7 [.int .i64 r.en,us,uo,ut,.int .i64 r.cost,.int .i64 r.used,.int .i64 r.wh])).ld ⟨H.nx,5,none⟩=some (.int .i64 r.used):=ak hw rfl
 have d6:(H.alloc (.cells 7 [.int .i64 r.en,us,uo,ut,.int .i64 r.cost,.int .i64 r.used,.int .i64 r.wh])).ld ⟨H.nx,6,none⟩=some (.int .i64 r.wh):=ak hw rfl
 have d:(H.alloc (.cells 7 [.int .i64 r.en,us,uo,ut,.int .i64 r.cost,.int .i64 r.used,.int .i64 r.wh])).ldn ⟨H.nx,0,none⟩ 7=some [.int .i64 r.en,us,uo,ut,.int .i64 r.cost,.int .i64 r.used,.int .i64 r.wh]:=bl hw 7 rfl
 generalize cJ:H.alloc (.cells 7 [.int .i64 r.en,us,uo,ut,.int .i64 r.cost,.int .i64 r.used,.int .i64 r.wh])=H1 at X1 d0 d1 d2 d3 d4 d5 d6 d
 have bP:=X1.wf hw
 have XB:=Ext.qn H1
 have hbB:(BF H1).bs=some (H1.nx,.empty):=rfl
 have hlo:=k.lo
 have ez:ByteArray.empty.size=0:=rfl
 have c8:=k.lt
 refine tw [.r,.r,.r] (VI H1 H1.nx H.nx level bits .empty) rfl ?_ ?_
 case refine_2=>
  intro rest dm
  simp (maxSteps:=4000000)-implicitDefEqProofs+contextual [-X.ev,a51,cJ,Uc]
  refine dm _ _ ⟨XB,hbB,by simp,by simp,by simp,by simp,by simp⟩
 generalize H1.nx=b
 rintro fr H2 ⟨X2,hb,f0,f1,f5,f7,f8⟩
 refine tw [.r] (VI H1 b H.nx level bits (BG bits r .empty)) rfl ?_ ?_
 case refine_2=>
  intro rest dm
  have ha:=DH bits 8
  have l0:=X2.ld d0
  have hd:=lA r.en
  by_cases h:xz bits 8=0
  ·simp (maxSteps:=4000000)-implicitDefEqProofs+contextual [-X.ev,a51,f0,f1,f5,f7,f8,ha,h]
   exact dm _ _ ⟨X2,by rw [BG,if_pos h];exact hb,by simp [f0],by simp [f1],by simp [f5],by simp [f7],by simp [f8]⟩
  ·simp (maxSteps:=4000000)-implicitDefEqProofs+contextual [-X.ev,a51,f0,f1,f5,f7,f8,ha,h,l0]
   apply ah
   ·(simp-implicitDefEqProofs [-X.ev,f5,f7];rfl)
   refine (xy k.en).mono ?_
   rintro x H3 ⟨rfl,rfl⟩
   have c1:=DI (a:=⟨#[101]⟩) (b:=ph r.en) (by show 1+_≤_;omega)
   have c2:=DI (a:=⟨#[101]⟩++ph r.en) (b:=⟨#[59]⟩) (by rw [ByteArray.size_append];show 1+_+1≤_;omega)
   simp (maxSteps:=4000000)-implicitDefEqProofs+contextual [-X.ev,f5,f7,c1,c2]
   apply ah
   ·(simp-implicitDefEqProofs [-X.ev,f5,f7];rfl)
   refine (jh (t:=⟨#[101]⟩++ph r.en++⟨#[59]⟩) hb (by simp only [ByteArray.size_append];show 0+(1+_+1)≤_;omega)).mono ?_
   rintro x H4 ⟨X4,lY⟩
   simp (maxSteps:=4000000)-implicitDefEqProofs+contextual [-X.ev]
   exact dm _ _ ⟨X2.trans X4,by rw [BG,if_neg h];exact lY,by simp [f0],by simp [f1],by simp [f5],by simp [f7],by simp [f8]⟩
 clear X2 hb f0 f1 f5 f7 f8 fr H2
 have z1:=Fx bits r .empty
 generalize hE1:BG bits r .empty=s1 at z1⊢
 rintro fr H2 ⟨X2,hb,f0,f1,f5,f7,f8⟩
 refine tw [.r] (VI H1 b H.nx level bits (BH level bits r s1)) rfl ?_ ?_
 case refine_2=>
  intro rest dm
  have ha:=DH bits 1
  have jr:=X2.wf bP
  by_cases h:xz bits 1=0
  ·simp (maxSteps:=4000000)-implicitDefEqProofs+contextual [-X.ev,a51,f0,f1,f5,f7,f8,ha,h]
   exact dm _ _ ⟨X2,by rw [BH,if_pos h];exact hb,by simp [f0],by simp [f1],by simp [f5],by simp [f7],by simp [f8]⟩
  ·simp (maxSteps:=4000000)-implicitDefEqProofs+contextual [-X.ev,a51,f0,f1,f5,f7,f8,ha,h]
   apply ah
   ·(simp-implicitDefEqProofs [-X.ev,f5,f7];rfl)
   refine (jh (t:=⟨#[111]⟩) hb (by show _+1≤_;omega)).mono ?_
   rintro x H3 ⟨X3,uF⟩
   have l2:=(X2.trans X3).ld d2
   have AE:=X1.trans (X2.trans X3)
   simp (maxSteps:=4000000)-implicitDefEqProofs+contextual [-X.ev,f0,f5,l2]
   apply ah
   ·(simp-implicitDefEqProofs [-X.ev,f0,f5];rfl)
   refine (Oz (level:=level) (Kk S AE) (Ud S AE ho) (by omega)).mono ?_
   rintro x H4 ⟨⟨X4,ig⟩,lY⟩
   rw [uF]at lY
   obtain ⟨T,hT⟩:∃T,gE level r.outs=T:=⟨_,rfl⟩
   have htl:T.length≤r.outs.length:=hT▸P.uA
   rw [hT]at ig
   have hX:Ext H1 H4:=(X2.trans X3).trans X4
   obtain ⟨xa,xc,Px⟩:=ig.len
   have hlen:(dD T).length=(T).length:=by simp [dD]
   rw [hlen]at Px
   simp (maxSteps:=4000000)-implicitDefEqProofs+contextual [-X.ev,f5,f7,Px]
   generalize zN:s1++⟨#[111]⟩=s2 at lY
   have aqW:s2.size≤s1.size+1:=by rw [←zN,ByteArray.size_append];exact asp _
   have hwG:H4.n0≤H4.nx:=hX.wf bP
   refine ch (fun k fr H'=>Ext H4 H'∧∃i:Nat,i+k=(T).length∧H'.bs=some (b,kf s2 (zA T) i)∧fr.get 0= .int .i64 level∧fr.get 1= .int .i64 bits∧fr.get 5= .pointer (some ⟨H.nx,0,none⟩)∧fr.get 7= .pointer (some ⟨b,0,none⟩)∧fr.get 8= .func (.func 82) #[] #[.pointer (some ⟨b,0,none⟩)]∧fr.get 30=x∧fr.get 31= .int .i64 (T).length∧fr.get 32= .int .i64 i) ?_ (T).length ⟨Ext.refl _,0,by simp,by simpa [kf]using lY,by simp [f0],by simp [f1],by simp [f5],by simp [f7],by simp [f8],by simp [Px],by simp,by simp⟩
   rintro kk fK H5 ⟨X5,i,hi,xH,g0,g1,g5,g7,g8,gx,gn,gi⟩
   have rI:=X5.wf hwG
   have iu:=kg s2 (zA T) (Kj _) i
   by_cases Kl:i<(T).length
   ·obtain ⟨e,he⟩:∃e,(T)[i]?=some e:=⟨_,asl Kl⟩
    have hem:e∈r.outs:=by rw [←hT]at he;exact (List.mem_filter.1 (asq he)).1
    obtain ⟨b1,o1,c1,tm,bJ⟩:=(ig.ext X5).at (r:=[.int .i64 e.1,.int .i64 e.2]) (by rw [dD,List.getElem?_map,he];rfl)
    rw [hlen]at tm
    rw [tm]at gx
    obtain ⟨H6,MI,X6,RW,RX,q,uR⟩:=eN (H:=H5) rI (z:=2) (c:=[.int .i64 0,.int .i64 0]) (vs:=[.int .i64 e.1,.int .i64 e.2]) rfl
    have q0:H6.ld ⟨H5.nx,0,none⟩=some (.int .i64 e.1):=uR 0 _ rfl
    have q1:H6.ld ⟨H5.nx,1,none⟩=some (.int .i64 e.2):=uR 1 _ rfl
    clear uR
    replace q:H6.ldn ⟨H5.nx,0,none⟩ 2=some [.int .i64 e.1,.int .i64 e.2]:=q
    have HX:=X6.wf rI
    have HY:=(DD MI).trans xH
    have ED:=X6.wf rI
    have kN:nL 2 1 [.int .i64 0,.int .i64 0] H6 [(0,1,.int .i64 e.1),(1,1,.int .i64 e.2)]=some (.slice (some ⟨H6.nx,0,none⟩) 2 2,H6.alloc (.cells 1 [.int .i64 e.1,.int .i64 e.2])):=rfl
    have X7:=Ext.alloc H6 (.cells 1 [.int .i64 e.1,.int .i64 e.2])
    have uT:=Ql (l:=[e.1,e.2]) ED
    have Ig:(H6.alloc (.cells 1 [.int .i64 e.1,.int .i64 e.2])).bs=some (b,kf s2 (zA T) i):=HY
    simp only [List.map_cons,List.map_nil,List.length_cons,List.length_nil,Nat.zero_add]at uT
    generalize H6.alloc (.cells 1 [.int .i64 e.1,.int .i64 e.2])=H7 at kN X7 uT Ig
    simp (maxSteps:=4000000)-implicitDefEqProofs+contextual [-X.ev,g5,g7,g8,gx,gn,gi,Kl,bJ,MI,q0,q1,kN]
    apply kX
    ·(simp-implicitDefEqProofs [-X.ev,-Value.func.injEq,g8,gx];rfl)
    ·(simp-implicitDefEqProofs [-X.ev,g8,gx];rfl)
    refine (DF (X7.wf ED) uT (by simp) (by intro n hn;simp only [List.mem_cons,List.not_mem_nil,or_false]at hn;have:=k.outs e hem;rcases hn with rfl|rfl<;>simp [this]) Ig (by omega)).mono ?_
    rintro y H8 ⟨X8,XE⟩
    simp (maxSteps:=4000000)-implicitDefEqProofs+contextual [-X.ev,gn,gi]
    refine ⟨kk- 1,by omega,((X5.trans X6).trans X7).trans X8,i+1,by omega,?_,g0,g1,g5,g7,g8,gx.trans tm.symm,ai ⟨by omega,by omega⟩⟩
    rw [XE,kf,List.getD_eq_getElem?_getD,zA,List.getElem?_map,he]
    rfl
   ·obtain rfl:i=(T).length:=by omega
    simp (maxSteps:=4000000)-implicitDefEqProofs+contextual [-X.ev,g5,g7,gx,gn,gi]
    apply ah
    ·(simp-implicitDefEqProofs [-X.ev,g5,g7];rfl)
    refine (jh (t:=⟨#[59]⟩) xH (by show _+1≤_;omega)).mono ?_
    rintro y H6 ⟨X6,HY⟩
    simp (maxSteps:=4000000)-implicitDefEqProofs+contextual [-X.ev]
    exact dm _ _ ⟨(hX.trans X5).trans X6,by rw [BH,if_neg h,hT,zN];exact HY,by simp [g0],by simp [g1],by simp [g5],by simp [g7],by simp [g8]⟩
 clear X2 hb f0 f1 f5 f7 f8 fr H2
 have z2:=Fy level bits r s1
 generalize hE2:BH level bits r s1=s2 at z2⊢
 rintro fr H2 ⟨X2,hb,f0,f1,f5,f7,f8⟩
 refine tw [.r] (VI H1 b H.nx level bits (BI bits r s2)) rfl ?_ ?_
 case refine_2=>
  intro rest dm
  have ha:=DH bits 2
  have jr:=X2.wf bP
  by_cases h:xz bits 2=0
  ·simp (maxSteps:=4000000)-implicitDefEqProofs+contextual [-X.ev,a51,f0,f1,f5,f7,f8,ha,h]
   exact dm _ _ ⟨X2,by rw [BI,if_pos h];exact hb,by simp [f0],by simp [f1],by simp [f5],by simp [f7],by simp [f8]⟩
  ·simp (maxSteps:=4000000)-implicitDefEqProofs+contextual [-X.ev,a51,f0,f1,f5,f7,f8,ha,h]
   apply ah
   ·(simp-implicitDefEqProofs [-X.ev,f5,f7];rfl)
   refine (jh (t:=⟨#[116]⟩) hb (by show _+1≤_;omega)).mono ?_
   rintro x H3 ⟨X3,uF⟩
   have l2:=(X2.trans X3).ld d3
   have AE:=X1.trans (X2.trans X3)
   have ig:=SQ.ext AE
   obtain ⟨x,hx0⟩:∃x,ut=x:=⟨_,rfl⟩
   rw [hx0]at l2 ig
   obtain ⟨H4,hH4⟩:∃H4,H3=H4:=⟨_,rfl⟩
   subst hH4
   have lY:=uF
   have hX:Ext H1 H3:=X2.trans X3
   obtain ⟨xa,xc,Px⟩:=ig.len
   have hlen:(c9 r.trace).length=(r.trace).length:=by simp [c9]
   rw [hlen]at Px
   simp (maxSteps:=4000000)-implicitDefEqProofs+contextual [-X.ev,l2,f5,f7,Px]
   generalize hs9:s2++⟨#[116]⟩=s9 at lY
   have aqY:s9.size≤s2.size+1:=by rw [←hs9,ByteArray.size_append];exact asp _
   have hwG:H3.n0≤H3.nx:=hX.wf bP
   refine ch (fun k fr H'=>Ext H3 H'∧∃i:Nat,i+k=(r.trace).length∧H'.bs=some (b,kf s9 (Qm r.trace) i)∧fr.get 0= .int .i64 level∧fr.get 1= .int .i64 bits∧fr.get 5= .pointer (some ⟨H.nx,0,none⟩)∧fr.get 7= .pointer (some ⟨b,0,none⟩)∧fr.get 8= .func (.func 82) #[] #[.pointer (some ⟨b,0,none⟩)]∧fr.get 50=x∧fr.get 51= .int .i64 (r.trace).length∧fr.get 52= .int .i64 i) ?_ (r.trace).length ⟨Ext.refl _,0,by simp,by simpa [kf]using lY,by simp [f0],by simp [f1],by simp [f5],by simp [f7],by simp [f8],by simp [Px],by simp,by simp⟩
   rintro kk fK H5 ⟨X5,i,hi,xH,g0,g1,g5,g7,g8,gx,gn,gi⟩
   have rI:=X5.wf hwG
   have iu:=kg s9 (Qm r.trace) (Qn _) i
   by_cases Kl:i<(r.trace).length
   ·obtain ⟨e,he⟩:∃e,(r.trace)[i]?=some e:=⟨_,asl Kl⟩
    have hem:e∈r.trace:=asq he
    obtain ⟨b1,o1,c1,tm,bJ⟩:=(ig.ext X5).at (r:=[.int .i64 e.kind,.int .i64 e.at_,.int .i64 e.val]) (by rw [c9,List.getElem?_map,he];rfl)
    rw [hlen]at tm
    rw [tm]at gx
    obtain ⟨H6,MI,X6,RW,RX,q,uR⟩:=eN (H:=H5) rI (z:=3) (c:=[.int .i64 0,.int .i64 0,.int .i64 0]) (vs:=[.int .i64 e.kind,.int .i64 e.at_,.int .i64 e.val]) rfl
    have q0:H6.ld ⟨H5.nx,0,none⟩=some (.int .i64 e.kind):=uR 0 _ rfl
    have q1:H6.ld ⟨H5.nx,1,none⟩=some (.int .i64 e.at_):=uR 1 _ rfl
    have q2:H6.ld ⟨H5.nx,2,none⟩=some (.int .i64 e.val):=uR 2 _ rfl
    clear uR
    replace q:H6.ldn ⟨H5.nx,0,none⟩ 3=some [.int .i64 e.kind,.int .i64 e.at_,.int .i64 e.val]:=q
    have HX:=X6.wf rI
    have HY:=(DD MI).trans xH
    have ED:=X6.wf rI
    have kN:nL 3 1 [.int .i64 0,.int .i64 0,.int .i64 0] H6 [(0,1,.int .i64 e.kind),(1,1,.int .i64 e.at_),(2,1,.int .i64 e.val)]=some (.slice (some ⟨H6.nx,0,none⟩) 3 3,H6.alloc (.cells 1 [.int .i64 e.kind,.int .i64 e.at_,.int .i64 e.val])):=rfl
    have X7:=Ext.alloc H6 (.cells 1 [.int .i64 e.kind,.int .i64 e.at_,.int .i64 e.val])
    have uT:=Ql (l:=[e.kind,e.at_,e.val]) ED
    have Ig:(H6.alloc (.cells 1 [.int .i64 e.kind,.int .i64 e.at_,.int .i64 e.val])).bs=some (b,kf s9 (Qm r.trace) i):=HY
    simp only [List.map_cons,List.map_nil,List.length_cons,List.length_nil,Nat.zero_add]at uT
    generalize H6.alloc (.cells 1 [.int .i64 e.kind,.int .i64 e.at_,.int .i64 e.val])=H7 at kN X7 uT Ig
    simp (maxSteps:=4000000)-implicitDefEqProofs+contextual [-X.ev,g5,g7,g8,gx,gn,gi,Kl,bJ,MI,q0,q1,q2,kN]
    apply kX
    ·(simp-implicitDefEqProofs [-X.ev,-Value.func.injEq,g8,gx];rfl)
    ·(simp-implicitDefEqProofs [-X.ev,g8,gx];rfl)
    refine (DF (X7.wf ED) uT (by simp) (by intro n hn;simp only [List.mem_cons,List.not_mem_nil,or_false]at hn;have:=k.trace e hem;rcases hn with rfl|rfl|rfl<;>simp [this]) Ig (by omega)).mono ?_
    rintro y H8 ⟨X8,XE⟩
    simp (maxSteps:=4000000)-implicitDefEqProofs+contextual [-X.ev,gn,gi]
    refine ⟨kk- 1,by omega,((X5.trans X6).trans X7).trans X8,i+1,by omega,?_,g0,g1,g5,g7,g8,gx.trans tm.symm,ai ⟨by omega,by omega⟩⟩
    rw [XE,kf,List.getD_eq_getElem?_getD,Qm,List.getElem?_map,he]
    rfl
   ·obtain rfl:i=(r.trace).length:=by omega
    simp (maxSteps:=4000000)-implicitDefEqProofs+contextual [-X.ev,g5,g7,gx,gn,gi]
    apply ah
    ·(simp-implicitDefEqProofs [-X.ev,g5,g7];rfl)
    refine (jh (t:=⟨#[59]⟩) xH (by show _+1≤_;omega)).mono ?_
    rintro y H6 ⟨X6,HY⟩
    simp (maxSteps:=4000000)-implicitDefEqProofs+contextual [-X.ev]
    exact dm _ _ ⟨(hX.trans X5).trans X6,by rw [BI,if_neg h,hs9];exact HY,by simp [g0],by simp [g1],by simp [g5],by simp [g7],by simp [g8]⟩
 clear X2 hb f0 f1 f5 f7 f8 fr H2
 have z3:=FA bits r s2
 generalize hE3:BI bits r s2=s3 at z3⊢
 rintro fr H2 ⟨X2,hb,f0,f1,f5,f7,f8⟩
 refine tw [.r] (VI H1 b H.nx level bits (Oy bits r s3)) rfl ?_ ?_
 case refine_2=>
  intro rest dm
  have ha:=DH bits 4
  have l0:=X2.ld d4
  have hd:=lA r.cost
  by_cases h:xz bits 4=0
  ·simp (maxSteps:=4000000)-implicitDefEqProofs+contextual [-X.ev,a51,f0,f1,f5,f7,f8,ha,h]
   exact dm _ _ ⟨X2,by rw [Oy,if_pos h];exact hb,by simp [f0],by simp [f1],by simp [f5],by simp [f7],by simp [f8]⟩
  ·simp (maxSteps:=4000000)-implicitDefEqProofs+contextual [-X.ev,a51,f0,f1,f5,f7,f8,ha,h,l0]
   apply ah
   ·(simp-implicitDefEqProofs [-X.ev,f5,f7];rfl)
   refine (xy k.cost).mono ?_
   rintro x H3 ⟨rfl,rfl⟩
   have c1:=DI (a:=⟨#[99]⟩) (b:=ph r.cost) (by show 1+_≤_;omega)
   have c2:=DI (a:=⟨#[99]⟩++ph r.cost) (b:=⟨#[59]⟩) (by rw [ByteArray.size_append];show 1+_+1≤_;omega)
   simp (maxSteps:=4000000)-implicitDefEqProofs+contextual [-X.ev,f5,f7,c1,c2]
   apply ah
   ·(simp-implicitDefEqProofs [-X.ev,f5,f7];rfl)
   refine (jh (t:=⟨#[99]⟩++ph r.cost++⟨#[59]⟩) hb (by simp only [ByteArray.size_append];show _+(1+_+1)≤_;omega)).mono ?_
   rintro x H4 ⟨X4,lY⟩
   simp (maxSteps:=4000000)-implicitDefEqProofs+contextual [-X.ev]
   exact dm _ _ ⟨X2.trans X4,by rw [Oy,if_neg h];exact lY,by simp [f0],by simp [f1],by simp [f5],by simp [f7],by simp [f8]⟩
 clear X2 hb f0 f1 f5 f7 f8 fr H2
 rintro fr H2 ⟨X2,hb,f0,f1,f5,f7,f8⟩
 simp (maxSteps:=4000000)-implicitDefEqProofs+contextual [-X.ev,a51,f7]
 apply ah
 ·(simp-implicitDefEqProofs [-X.ev,f7];rfl)
 refine (Ow hb).mono ?_
 rintro x H3 ⟨rfl,rfl⟩
 simp (maxSteps:=4000000)-implicitDefEqProofs+contextual [-X.ev]
 exact ⟨by rw [vN,hE1,hE2,hE3],X1.trans X2⟩
end Go.Proofs.YtppcmpmnglaleaaGreatDoor.A
namespace Go.Proofs.YtppcmpmnglaleaaGreatDoor.A.P
open Go Go.RowKit
theorem Fz.Z2 {f:Nat} {args:List PV} {y:Value} (k:∀F H φ vs,eo ⟨F,H,φ,[]⟩→dq ⟨F,H,φ,[]⟩ args vs→Ca E O f vs H (fun x H'=>x=y∧Ext H H')):Fz E O f args (.v y):=by
 intro F H φ vs S Rv
 refine (k F H φ vs S Rv).mono ?_
 rintro x H' ⟨rfl,X⟩
 have T:dU 0 qw ⟨F,H,φ,[]⟩ ⟨F,H',φ,[]⟩:=⟨X.n0,X.nx,fun x hx=>⟨hx,X.old x (S.fz x hx)⟩,fun _ _ _ h=>h,fun x hx _=>X.old x hx,fun b hb=>absurd (aW hb) (Nat.not_lt_zero _),fun _=>asp _,fun b hb=>absurd hb (Nat.not_lt_zero _),fun b hb=>absurd hb (Nat.not_lt_zero _),fun b hb=>absurd hb (Nat.not_lt_zero _)⟩
 exact ⟨_,[],F,φ,⟨rfl,rfl,rfl⟩,.v _,Kk S X,T⟩
theorem Ue {level bits:Int} {r:jo} (k:OA r):Fz E O 51 [pi level,pi bits,.agg (fR r)] (.v (.string (vN level bits r))):=
 Fz.Z2 fun F H φ vs S Rv=>by
  cases Rv with|cons a Rv=>
  cases Rv with|cons b Rv=>
  cases Rv with|cons c Rv=>
  cases Rv
  cases a;cases b
  obtain ⟨cs,rfl,h⟩:=oy (by simp [fR,uf]) c
  cases h with|cons a h=>
  cases h with|cons vs h=>
  cases h with|cons vo h=>
  cases h with|cons vt h=>
  cases h with|cons b h=>
  cases h with|cons d h=>
  cases h with|cons e h=>
  cases h
  cases a;cases b;cases d;cases e
  exact OB S vo vt k
theorem Uf {level bits:Int} {r:jo} (k:OA r) (hl:0≤level∧level≤15) (hb:0≤bits∧bits≤15):Fz E O 21 [pi level,pi bits,.agg (fR r)] (.gA [.v (.string (vN level bits r)),pi 0]):=by
 refine Fz.body (F:=a21) rfl rfl rfl (by simp) ?_
 have h1:¬ level<0:=by omega
 have h2:¬ 15<level:=by omega
 have h3:¬ bits<0:=by omega
 have h4:¬ 15<bits:=by omega
 simp (maxSteps:=4000000)-implicitDefEqProofs [-getElem?_pos,asj,a21,fR,h1,h2,h3,h4]
 refine aN (Ue (level:=level) (bits:=bits) k) ?_ ?_ ?_
 iterate 2· simp (maxDischargeDepth:=8)-implicitDefEqProofs [-getElem?_pos,asj,fR]
 simp (maxSteps:=4000000)-implicitDefEqProofs [-getElem?_pos,asj]
theorem Ug {v c:Int}:Fz E O 65 [pi v,pi c] (.agg (ic (.mk 1 v c []))):=by
 refine fP.body (F:=a65) rfl rfl rfl ?_
 simp (maxSteps:=4000000)-implicitDefEqProofs+contextual [-getElem?_pos,asj,a65,ic,ik]
 refine GI ?_
 simp
theorem OC {n:Int}:Fz E O 67 [pi n] (.agg (ic (.mk 0 n 0 []))):=by
 refine fP.body (F:=a67) rfl rfl rfl ?_
 simp (maxSteps:=4000000)-implicitDefEqProofs+contextual [-getElem?_pos,asj,a67,ic,ik]
 refine GI ?_
 simp
theorem Z3 {op:Int} {l:List b9}:Fz E O 66 [pi op,.fs 4 (ik l)] (.agg (ic (.mk op 0 0 l))):=by
 refine fP.body (F:=a66) rfl rfl rfl ?_
 simp (maxSteps:=4000000)-implicitDefEqProofs+contextual [-getElem?_pos,asj,a66,ic,ik]
 refine GI ?_
 simp
def BJ:Option PB→List PV
 |some (.cells _ cs)=>cs
 |_=>[]
def Qo (sz:Nat):Option PB→Bool
 |some (.cells z cs)=>decide (z=sz)
 |_=>false
theorem DJ {A:Nat→Prop} {h:PH}:∀{ps qs:List PV},Fa A h ps qs→ps.length=qs.length
 |[],[],_=>rfl
 |p::ps,q::qs,k=>by simp [DJ k.2]
 |[],q::qs,k=>k.elim
 |p::ps,[],k=>k.elim
theorem uB {A:Nat→Prop} {h:PH} {sz b n:Nat} {rows:List (List PV)} (hA:A b) (hb:Qo sz h[b]?=true) (hz:0<sz) (hl:rows.length=n) (hr:∀r∈rows,r.length=sz) (hv:Fa A h (BJ h[b]?) rows.flatten):Vz A h (.sl sz b 0 n n) (.fs sz rows)↔True:=⟨fun _=>trivial,fun _=>by
 unfold Qo at hb
 split at hb
 case h_2=>cases hb
 rename_i z cs e
 simp only [asx]at hb
 subst hb
 rw [e]at hv
 have e2:rows.flatten.length=n*z:=by
  rw [←hl]
  clear hv hl
  induction rows with
  |nil=>simp
  |cons r l ih=>simp [hr r (by simp),ih fun x hx=>hr x (by simp [hx]),Nat.succ_mul];omega
 have hlen:cs.length=n*z:=by
  exact (DJ hv).trans e2
 refine Dc hA e (by simp [hlen]) hz (asp _) (asp _) hl hr ?_
 simp only [Nat.zero_mul,List.drop_zero]
 rw [ass (by omega)]
 exact hv⟩
theorem mW {A:Nat→Prop} {σ:Nat→Nat} {h bs:PH} {sz b n:Nat} {rows:List (List PV)} (hA:A b) (hb:Qo sz h[b]?=true) (hz:0<sz) (hl:rows.length=n) (hr:∀r∈rows,r.length=sz) (hv:Fa A h (BJ h[b]?) rows.flatten):Vg A σ h bs (.sl sz b 0 n n) (.fs sz rows)↔True:=⟨fun _=>trivial,fun _=>qV ((uB hA hb hz hl hr hv).2 trivial)⟩
def DK:bD:=.mk 4 0 [] [] []
def Uh:b9:=.mk 13 0 0 [.mk 1 0 0 [],.mk 0 1 0 []]
def pk:bf:=⟨1,[⟨⟨#[104]⟩,1,1⟩],[DK,.mk 1 0 [Uh] [DK] []]⟩
theorem Z4:Fz E O 36 [] (.agg (au pk)):=by
 refine fP.body (F:=a36) rfl rfl rfl ?_
 simp (maxSteps:=4000000)-implicitDefEqProofs+contextual [-getElem?_pos,asj,a36]
 refine aN (Ug (v:=0) (c:=0)) ?_ ?_ ?_
 iterate 2· simp (maxDischargeDepth:=8)-implicitDefEqProofs [-getElem?_pos,asj]
 simp (maxSteps:=4000000)-implicitDefEqProofs+contextual [-getElem?_pos,asj,ic,ik]
 refine aN (OC (n:=1)) ?_ ?_ ?_
 iterate 2· simp (maxDischargeDepth:=8)-implicitDefEqProofs [-getElem?_pos,asj]
 simp (maxSteps:=4000000)-implicitDefEqProofs+contextual [-getElem?_pos,asj,ic,ik]
 refine ug [5] (Z3 (op:=13) (l:=[.mk 1 0 0 [],.mk 0 1 0 []])) ?_ ?_
 ·simp (maxDischargeDepth:=8)-implicitDefEqProofs [-getElem?_pos,asj,ic,ik,mW,Qo,BJ]
 simp (maxSteps:=4000000)-implicitDefEqProofs+contextual [-getElem?_pos,asj,ic,ik,bO]
 refine GI ?_
 simp (maxDischargeDepth:=12)-implicitDefEqProofs [au,pk,Uh,DK,bM,il,ic,ik,lq,zh,mW,uB,Qo,BJ,qw]
open Go Go.RowKit
def OD (c:ek):Prop:=0≤c.en∧c.en≤4
theorem OE {p:bf} {ps:List Int} {c:ek} (h:OD c):OD (bN p ps c):=by
 unfold bN
 split
 ·exact h
 split
 ·exact h
 split
 ·exact ⟨by simp [dY],by simp [dY]⟩
 ·rename_i k s next _ _
  obtain ⟨op,n,args,thn,els⟩:=s
  unfold cL
  repeat' split
  all_goals first
   |exact h
   |exact ⟨by simp [dY],by simp [dY]⟩
theorem DL {p:bf} {ps:List Int}:∀(n:Nat) {c:ek},OD c→OD (iterM p ps n c)
 |0,_,h=>h
 |n+1,_,h=>DL n (OE h)
theorem Km (p:bf) (fuel:Int) (t:eG):0≤(iD p fuel t).en∧(iD p fuel t).en≤4:=by
 unfold iD
 split
 ·exact DL _ (c:=fB p fuel t) ⟨by simp [fB],by simp [fB]⟩
 ·exact ⟨by decide,by decide⟩
def bump (a:List Int) (e:Nat):List Int:=a.set e (a.getD e 0+1)
def cG (p:bf) (fuel:Int) (l:List eG):Nat→List Int
 |0=>[0,0,0,0,0]
 |j+1=>bump (cG p fuel l j) (iD p fuel (l.getD j ⟨[],[]⟩)).en.toNat
theorem ql (p:bf) (fuel:Int) (l:List eG):∀j,(cG p fuel l j).length=5
 |0=>rfl
 |j+1=>by simp [cG,bump,ql p fuel l j]
theorem xA (p:bf) (fuel:Int) (l:List eG):∀j,∀x∈cG p fuel l j,0≤x∧x≤j
 |0,x,h=>by simp [cG]at h;subst h;simp
 |j+1,x,h=>by
  have ih:=xA p fuel l j
  rcases List.mem_or_eq_of_mem_set h with h|h
  ·have:=ih x h;omega
  ·rw [h,List.getD_eq_getElem?_getD]
   cases hx:(cG p fuel l j)[(iD p fuel (l.getD j ⟨[],[]⟩)).en.toNat]? with
   |none=>simp;omega
   |some y=>have:=ih y (asq hx);simp;omega
def DM (p:bf) (fuel:Int):List PV:=
 if cd p fuel≠0 then [.agg [pi 0,pi 0,pi 0,pi 0,pi 0],pi (cd p fuel)]else match eS p fuel with
  |some l=>[.agg ((cG p fuel l l.length).map pi),pi 0]
  |none=>[.agg [pi 0,pi 0,pi 0,pi 0,pi 0],pi 5]
def NH (p:bf) (c:List Int):PH:=[.cells 3 (au p),.cells 5 [pi 0,pi 0,pi 0,pi 0,pi 0],.cells 5 (c.map pi)]
def NL (fuel:Int) (e:Int) (l:List eG) (j:Nat):List (Nat×PV):=[(1,pi fuel),(2,.ref 0 0 3),(4,.ref 1 0 5),(7,pi e),(8,.ref 2 0 5),(19,.fs 2 (str l)),(20,pi l.length),(21,pi j)]
def NI (p:bf) (fuel e:Int) (l:List eG) (j:Nat) (fr:PF) (h:PH):Prop:=h=NH p (cG p fuel l j)∧∀t∈NL fuel e l j,fr.get t.1=t.2
theorem Kn {p:bf} {fuel e:Int} {l:List eG} {j:Nat}:NI p fuel e l j (PF.uK (NL fuel e l j)) (NH p (cG p fuel l j)):=⟨rfl,fun t ht=>by
 simp only [NL,List.mem_cons,List.not_mem_nil,or_false]at ht
 rcases ht with rfl|rfl|rfl|rfl|rfl|rfl|rfl|rfl<;>simp [NL]⟩
theorem qm (l:List Int):dL (l.map pi)=true:=by
 induction l with
 |nil=>rfl
 |cons a l ih=>simp [ih]
theorem uC {α:Type} {q:α}:∀{xs:List (Option (List α))} {l:List α},gH xs=some l→q∈l→∃m,some m∈xs∧q∈m
 |[],l,e,h=>by simp [gH]at e;subst e;simp at h
 |x::xs,l,e,h=>by
  simp only [gH]at e
  cases x with
  |none=>simp at e
  |some m=>
   cases hc:gH xs with
   |none=>simp [hc]at e
   |some b=>
    simp only [hc,Option.bind_some,Option.map_some,asm]at e
    subst e
    rcases List.mem_append.1 h with h|h
    ·exact ⟨m,by simp,h⟩
    ·obtain ⟨m',h1,h2⟩:=uC hc h
     exact ⟨m',by simp [h1],h2⟩
def okQ (q:List Int):Prop:=∀n∈q,0≤n∧n<256
theorem vO {p:bf} {fuel:Int} {s:List Int} (hN:bL p≤256):∀(d:Nat) {ps:List Int} {l:List (List Int)},leaves p fuel s d ps=some l→okQ ps→∀q∈l,q.length≤ps.length+d∧okQ q
 |0,ps,l,e,h,q,hq=>by
  rw [leaves]at e
  split at e
  ·cases e
  ·cases e;simp at hq;subst hq;exact ⟨by simp,h⟩
 |d+1,ps,l,e,h,q,hq=>by
  rw [leaves]at e
  split at e
  ·obtain ⟨m,h1,h2⟩:=uC e hq
   simp only [List.mem_map]at h1
   obtain ⟨u,hu,e2⟩:=h1
   have hl:=mS hu
   have ZV:okQ u:=by
    simp only [kids,List.mem_map,List.mem_range]at hu
    obtain ⟨a,ha,rfl⟩:=hu
    intro n hn
    rcases List.mem_append.1 hn with h3|h3
    ·exact h n h3
    ·simp at h3;omega
   have:=vO hN d e2 ZV q h2
   exact ⟨by omega,this.2⟩
  ·cases e;simp at hq;subst hq;exact ⟨by simp,h⟩
theorem Kq {p:bf} {fuel:Int} {s:List Int} {most:Nat} {m:List (List Int)} (hp:bq p=true) (hs:s.length<2^60) (Ft:∀n∈s,kK n) (h:ofM p fuel s most=some m):∀t∈lv s m,Bn t:=by
 unfold ofM at h
 cases hl:kD p fuel s with
 |none=>simp [hl]at h
 |some l=>
  simp [hl]at h
  obtain ⟨_,rfl⟩:=h
  intro t ht
  simp only [lv,List.mem_map]at ht
  obtain ⟨q,hq,rfl⟩:=ht
  have:=vO (q8 hp) _ hl (by intro n hn;simp at hn) q hq
  refine ⟨hs,by have:=this.1;simp at this;show q.length<_;omega,Ft,fun n hn=>?_⟩
  have:=this.2 n hn
  exact ⟨by omega,by omega⟩
theorem Kr {p:bf} {fuel:Int} (h:bq p=true):∀{n:Nat} {l:List eG},eI p fuel n=some l→∀t∈l,Bn t
 |0,l,e=>by simp [eI]at e;subst e;simp
 |n+1,l,e=>by
  simp only [eI]at e
  cases h1:eI p fuel n with
  |none=>simp [h1]at e
  |some l1=>
   have hl:=Kr h h1
   simp only [h1,Option.bind_some]at e
   cases h2:ofM p fuel (dj p n) (16384- l1.length)with
   |none=>simp [h2]at e
   |some m=>
    simp [h2]at e
    subst e
    intro t ht
    rcases List.mem_append.1 ht with ht|ht
    ·exact hl t ht
    ·have:=rf h n
     exact Kq h (show(dj p n).length<2^60 by omega) (fun x hx=>zw (nH (oA h) _ x hx)) h2 t ht
theorem uD {p:bf} {fuel:Int} (h:bq p=true) {l:List eG} (e:eS p fuel=some l):(∀t∈l,Bn t)∧l.length≤16384:=by
 unfold eS at e
 split at e
 ·exact ⟨Kr h e,sE e⟩
 ·cases e
theorem zB {p:bf} {fuel:Int}:∃x e l,uy p fuel=[x,pi e]∧(x= .fs 2 (str l)∨(x=hZ∧l=[]))∧DM p fuel=[.agg ((cG p fuel l l.length).map pi),pi e]∧(∀t∈l,Bn t)∧l.length≤16384:=by
 by_cases hf:cd p fuel=0
 case neg=>exact ⟨hZ,cd p fuel,[],by simp [uy,hf],.inr ⟨rfl,rfl⟩,by simp [DM,hf,cG],by simp,by simp⟩
 have hp:bq p=true:=by
  cases h:bq p with
  |true=>rfl
  |false=>simp [cd,h]at hf
 cases he:eS p fuel with
 |none=>exact ⟨hZ,5,[],by simp [uy,hf,he],.inr ⟨rfl,rfl⟩,by simp [DM,hf,he,cG],by simp,by simp⟩
 |some l=>exact ⟨.fs 2 (str l),0,l,by simp [uy,hf,he],.inl rfl,by simp [DM,hf,he],(uD hp he).1,(uD hp he).2⟩
theorem zC {c:List Int} {k:Nat} (hk:k<c.length):uW (c.map pi) k [pi (c.getD k 0+1)]=(bump c k).map pi:=by
 rw [sy (by simpa using hk)]
 simp [bump]
theorem Fz.nil {f sz:Nat} {args:List PV} {y:PV} (k:Fz E O f args (.gA [hZ,y])):Fz E O f args (.gA [.fs sz [],y]):=by
 intro F H φ vs S Rv
 refine (k F H φ vs S Rv).mono ?_
 rintro x H' ⟨r,h',F',dT,⟨rfl,rfl,hf⟩,hr,S',T⟩
 refine ⟨_,[],F',dT,⟨rfl,rfl,by simpa using hf⟩,?_,S',T⟩
 cases hr with|gA a=>
 cases a with|cons a b=>
 cases a
 exact .gA (.cons (.fs (.fs (rows:=[]) (rs:=[]) ⟨_,_,rfl,fun i r hi=>by simp at hi⟩ (asp _) (fun d hd=>by cases hd) .nil)) b)
theorem OF {p:bf} {fuel:Int} (eC:fV p):∃e l,Fz E O 17 [.agg (au p),pi fuel] (.gA [.fs 2 (str l),pi e])∧(uy p fuel=[.fs 2 (str l),pi e]∨(uy p fuel=[hZ,pi e]∧l=[]))∧DM p fuel=[.agg ((cG p fuel l l.length).map pi),pi e]∧(∀t∈l,Bn t)∧l.length≤16384:=by
 obtain ⟨x,e,l,h1,hx,h2,okl,hl⟩:=zB (p:=p) (fuel:=fuel)
 have hE:=xv (fuel:=fuel) eC
 rw [h1]at hE
 rcases hx with rfl|⟨rfl,rfl⟩
 ·exact ⟨e,l,hE,.inl h1,h2,okl,hl⟩
 ·exact ⟨e,[],hE.nil,.inr ⟨h1,rfl⟩,h2,okl,hl⟩
theorem Ks {p:bf} {fuel:Int} (eC:fV p):Fz E O 18 [.agg (au p),pi fuel] (.gA (DM p fuel)):=by
 refine fP.body (F:=a18) rfl rfl rfl ?_
 obtain ⟨e,l,hE,_,h2,okl,hl⟩:=OF (p:=p) (fuel:=fuel) eC
 rw [h2]
 simp (maxSteps:=4000000)-implicitDefEqProofs+contextual [-getElem?_pos,asj,a18,au]
 refine aN (hE) ?_ ?_ ?_
 iterate 2· simp (maxDischargeDepth:=8)-implicitDefEqProofs [-getElem?_pos,asj,au]
 simp (maxSteps:=4000000)-implicitDefEqProofs+contextual [-getElem?_pos,asj]
 refine fu (NI p fuel e l) l.length (cz (h2:=NH p (cG p fuel l 0)) [0,1,2] (NL fuel e l 0) ?_ ?_ ?_ ?_ ?_ ?_) Kn ?_
 ·simp [NH,NL,au,cG]
 iterate 2· simp
 ·intro b hb;omega
 iterate 2· simp (maxDischargeDepth:=8)-implicitDefEqProofs [aj,asj,NH,NL,au,cG]
 rintro j fr h hj ⟨rfl,gj⟩
 simp only [NL,List.mem_cons,List.not_mem_nil,or_false,forall_eq_or_imp,forall_eq]at gj
 obtain ⟨f1,f2,f4,f7,f8,f19,f20,f21⟩:=gj
 have oG:=ql p fuel l j
 by_cases py:j<l.length
 ·obtain ⟨t,ht⟩:∃t,l[j]?=some t:=⟨_,asl py⟩
  have hr:=Km p fuel t
  have nV:cG p fuel l (j+1)=bump (cG p fuel l j) (iD p fuel t).en.toNat:=by rw [cG,List.getD_eq_getElem?_getD,ht];rfl
  have hb:=xA p fuel l j
  have hM:=JT (fuel:=fuel) eC (okl t (asq ht))
  have w4:IntKind.i64.wrap ((j:Int)+1)=((j+1:Nat):Int):=ai ⟨by omega,by omega⟩
  obtain ⟨k,hk⟩:∃k:Nat,(iD p fuel t).en=k:=⟨(iD p fuel t).en.toNat,by omega⟩
  rw [hk,Int.toNat_natCast]at nV
  obtain ⟨c,hc⟩:∃c,cG p fuel l j=c:=⟨_,rfl⟩
  rw [hc]at oG hb nV
  have Ui:k<c.length:=by omega
  have hg:(c.map pi)[k]?=some (pi (c.getD k 0)):=by simp [asl Ui]
  have hm:c.getD k 0∈c:=by rw [List.getD_eq_getElem?_getD,asl Ui];exact List.getElem_mem _
  have hbx:=hb _ hm
  have w5:IntKind.i64.wrap (c.getD k 0+1)=c.getD k 0+1:=ai ⟨by omega,by omega⟩
  have Z5:=zC Ui
  have Vm:k<5:=by omega
  have hk6:(k:Int)<5:=by omega
  have hk7:k≤4:=by omega
  obtain ⟨g,hgg⟩:∃g,c.getD k 0=g:=⟨_,rfl⟩
  rw [hgg]at hg w5 Z5
  simp (maxSteps:=4000000)-implicitDefEqProofs+contextual [-getElem?_pos,asj,f1,f2,f4,f7,f8,f19,f20,f21,py,xp,ht,NH,au,cF,hc]
  refine aN (hM) ?_ ?_ ?_
  iterate 2· simp (maxDischargeDepth:=8)-implicitDefEqProofs [-getElem?_pos,asj,au,cF]
  simp (maxSteps:=4000000)-implicitDefEqProofs+contextual [-getElem?_pos,asj,fR,hk,f8,Vm,hk6,hk7,hg,Z5,w5,f21,w4,oG]
  refine .qb py (cz (h2:=NH p (cG p fuel l (j+1))) [0,1,2] (NL fuel e l (j+1)) ?_ ?_ ?_ ?_ ?_ ?_) Kn
  ·simp [NH,NL,au,nV,f1,f2,f4,f7,f8,f19,f20,qm]
  iterate 2· simp
  ·intro b hb;omega
  iterate 2· simp (maxDischargeDepth:=8)-implicitDefEqProofs [aj,asj,NH,NL,au,nV,f1,f2,f4,f7,f8,f19,f20,qm]
 ·obtain rfl:j=l.length:=by omega
  have h5:List.take 5 ((cG p fuel l l.length).map pi)=(cG p fuel l l.length).map pi:=ass (by simp [oG])
  simp (maxSteps:=4000000)-implicitDefEqProofs+contextual [-getElem?_pos,asj,f1,f2,f4,f7,f8,f19,f20,f21,NH,au,oG,h5]
  refine GI ?_
  simp [qm]
end Go.Proofs.YtppcmpmnglaleaaGreatDoor.A.P
namespace Go.Proofs.YtppcmpmnglaleaaGreatDoor.A.P
open Go Go.RowKit
theorem OG:bq pk=true:=by decide+kernel
theorem Uj:ofM pk 9 [0] 16384=some [[0],[1,0],[1,1]]:=by decide+kernel
theorem Kt:vN 1 5 ⟨0,[],[(1,1),(2,1),(0,0)],[],4,0,0⟩=⟨#[111,32,49,58,49,32,48,58,48,59,99,52,59]⟩:=by decide+kernel
def Ku:List eG:=[⟨[0],[0]⟩,⟨[0],[1,0]⟩,⟨[0],[1,1]⟩,⟨[1],[0]⟩,⟨[1],[1,0]⟩,⟨[1],[1,1]⟩]
instance:DecidableEq eG:=fun a b=>decidable_of_iff (a.store=b.store∧a.bS=b.bS) (by cases a;cases b;simp)
theorem vP:eS pk 9=some Ku:=by decide+kernel
theorem Kv:cG pk 9 Ku 6=[6,0,0,0,0]:=by decide+kernel
theorem BK:fV pk:=by
 have i0:kK 0:=⟨by decide,by decide⟩
 have i1:kK 1:=⟨by decide,by decide⟩
 have i4:kK 4:=⟨by decide,by decide⟩
 have i13:kK 13:=⟨by decide,by decide⟩
 refine ⟨i1,⟨by decide,?_⟩,?_,by decide⟩
 ·intro v hv
  simp only [pk,List.mem_singleton]at hv
  subst hv
  decide
 ·simp [pk,w8,Dk,F3,Bm,Uh,DK,i0,i1,i4,i13]
theorem uE:cd pk 9=0:=by simp [cd,OG]
theorem OJ:zr pk 9 [0]=[.fs 2 (str (lv [0] [[0],[1,0],[1,1]])),pi 0]:=by
 have h:aO pk.w pk.vars [0]=true:=by decide+kernel
 simp [zr,uE,h,Uj,zZ]
theorem OK:uy pk 9=[.fs 2 (str Ku),pi 0]:=by simp [uy,uE,vP]
theorem OM:DM pk 9=[.agg [pi 6,pi 0,pi 0,pi 0,pi 0],pi 0]:=by
 simp only [DM,uE,vP]
 rw [show Ku.length=6 from rfl,Kv]
 rfl
def zD:jo:=⟨0,[],[(1,1),(2,1),(0,0)],[],4,0,0⟩
theorem Kw:OA zD:=⟨⟨by decide,by decide⟩,⟨by decide,by decide⟩,by simp [zD,uY],by simp [zD],by decide,by decide⟩
theorem DN:Fz E O 11 [] (pb true):=by
 refine fP.body (F:=a11) rfl rfl rfl ?_
 have hO:=ZU (fuel:=9) (s:=[0]) BK (by decide) (by intro n hn;simp at hn;subst hn;exact ⟨by decide,by decide⟩)
 have hE:=xv (fuel:=9) BK
 have hN:=Ks (fuel:=9) BK
 rw [OJ]at hO
 rw [OK]at hE
 rw [OM]at hN
 have hV:=Uf (level:=1) (bits:=5) Kw (by decide) (by decide)
 rw [show vN 1 5 zD=_ from Kt]at hV
 have hS:=BC (l:=lv [0] [[0],[1,0],[1,1]]) (by
  intro t ht
  simp [lv]at ht
  rcases ht with rfl|rfl|rfl<;>exact ⟨by decide,by decide,by simp [kK],by simp [kK]⟩) (by decide)
 simp (maxSteps:=4000000)-implicitDefEqProofs+contextual [-getElem?_pos,asj,a11]
 refine aN (Z4) ?_ ?_ ?_
 iterate 2· simp (maxDischargeDepth:=8)-implicitDefEqProofs [-getElem?_pos,asj]
 simp (maxSteps:=4000000)-implicitDefEqProofs+contextual [-getElem?_pos,asj,au]
 refine ug [1] (hO) ?_ ?_
 ·simp (maxDischargeDepth:=8)-implicitDefEqProofs [-getElem?_pos,asj,au,mW,Qo,BJ]
 simp (maxSteps:=4000000)-implicitDefEqProofs+contextual [-getElem?_pos,asj,au,bO]
 refine aN (hE) ?_ ?_ ?_
 iterate 2· simp (maxDischargeDepth:=8)-implicitDefEqProofs [-getElem?_pos,asj,au]
 simp (maxSteps:=4000000)-implicitDefEqProofs+contextual [-getElem?_pos,asj,au]
 refine aN (hN) ?_ ?_ ?_
 iterate 2· simp (maxDischargeDepth:=8)-implicitDefEqProofs [-getElem?_pos,asj,au]
 simp (maxSteps:=4000000)-implicitDefEqProofs+contextual [-getElem?_pos,asj,au]
 refine ug [3] (hV) ?_ ?_
 ·simp (maxDischargeDepth:=8)-implicitDefEqProofs [-getElem?_pos,asj,fR,zD,mW,Qo,BJ,vG,Dn,ir]
 simp (maxSteps:=4000000)-implicitDefEqProofs+contextual [-getElem?_pos,asj,bO]
 refine ug [4,5,6,7,8,9,10] (hS) ?_ ?_
 ·simp (maxDischargeDepth:=8)-implicitDefEqProofs [-getElem?_pos,asj,mW,uB,Qo,BJ,str,lv,cF,ir]
 have h6:Ku.length=6:=rfl
 simp (maxSteps:=4000000)-implicitDefEqProofs [-getElem?_pos,asj,bO,h6,cH,iq]
 rw [show bY ⟨#[111,32,49,58,49,32,48,58,48,59,99,52,59]⟩ ⟨#[111,32,49,58,49,32,48,58,48,59,99,52,59]⟩=true by decide]
 refine GI ?_
 simp
open Go Go.RowKit
theorem mX {p:bf} {fuel:Int} (h:cd p fuel=0):bq p=true:=by
 cases h1:bq p with
 |true=>rfl
 |false=>simp [cd,h1]at h
end Go.Proofs.YtppcmpmnglaleaaGreatDoor.A.P
namespace Go.Proofs.YtppcmpmnglaleaaGreatDoor.A.P
open Go Go.RowKit
theorem rQ {p:bf} {fuel:Int} {s:List Int} (hp:bq p=true):∀(d:Nat) {ps:List Int} {l:List (List Int)},leaves p fuel s d ps=some l→(∀n∈ps,isWord p.w n=true)→∀q∈l,q.length≤ps.length+d∧∀n∈q,isWord p.w n=true
 |0,ps,l,e,h,q,hq=>by
  rw [leaves]at e
  split at e
  ·cases e
  ·cases e;simp at hq;subst hq;exact ⟨by simp,h⟩
 |d+1,ps,l,e,h,q,hq=>by
  rw [leaves]at e
  split at e
  ·obtain ⟨m,h1,h2⟩:=uC e hq
   simp only [List.mem_map]at h1
   obtain ⟨u,hu,e2⟩:=h1
   have hl:=mS hu
   have ZV:∀n∈u,isWord p.w n=true:=by
    simp only [kids,List.mem_map,List.mem_range]at hu
    obtain ⟨a,ha,rfl⟩:=hu
    intro n hn
    rcases List.mem_append.1 hn with h3|h3
    ·exact h n h3
    ·simp only [List.mem_singleton]at h3
     subst h3
     have hw:=oA hp
     have h1:bC p.w=true:=by simp [bC];omega
     have h2:(a:Int)<2^p.w.toNat:=by
      have h3:(bL p:Int)=2^p.w.toNat:=by simp [bL]
      omega
     simp [isWord,h1,h2]
   have:=rQ hp d e2 ZV q h2
   exact ⟨by omega,this.2⟩
  ·cases e;simp at hq;subst hq;exact ⟨by simp,h⟩
theorem ON {p:bf} {fuel:Int} {s:List Int} {most:Nat} {m:List (List Int)} (hp:bq p=true) (hs:aO p.w p.vars s=true) (h:ofM p fuel s most=some m):∀t∈lv s m,iX p t=true:=by
 unfold ofM at h
 cases hl:kD p fuel s with
 |none=>simp [hl]at h
 |some l=>
  simp [hl]at h
  obtain ⟨_,rfl⟩:=h
  intro t ht
  simp only [lv,List.mem_map]at ht
  obtain ⟨q,hq,rfl⟩:=ht
  have:=rQ hp _ hl (by intro n hn;simp at hn) q hq
  simp only [iX,hs,Bool.true_and,aso,asx,asB]
  exact ⟨by have:=this.1;simp at this;exact this,this.2⟩
theorem DO {p:bf} {fuel:Int} (h:bq p=true):∀{n:Nat} {l:List eG},eI p fuel n=some l→∀t∈l,iX p t=true
 |0,l,e=>by simp [eI]at e;subst e;simp
 |n+1,l,e=>by
  simp only [eI]at e
  cases h1:eI p fuel n with
  |none=>simp [h1]at e
  |some l1=>
   have hl:=DO h h1
   simp only [h1,Option.bind_some]at e
   cases h2:ofM p fuel (dj p n) (16384- l1.length)with
   |none=>simp [h2]at e
   |some m=>
    simp [h2]at e
    subst e
    intro t ht
    rcases List.mem_append.1 ht with ht|ht
    ·exact hl t ht
    ·exact ON h (zu h n) h2 t ht
theorem FB {p:bf} {fuel:Int} (hf:cd p fuel=0) {l:List eG} (e:eS p fuel=some l):∀t∈l,fM p fuel t=0:=by
 have hp:=mX hf
 have h1:¬ (fuel<0∨4096<fuel):=by
  intro h
  simp [cd,hp,h]at hf
 unfold eS at e
 split at e
 ·intro t ht
  have:=DO hp e t ht
  simp [fM,hp,h1,this]
 ·cases e
theorem OQ {p:bf} {fuel:Int} (eC:fV p):∃e l,Fz E O 17 [.agg (au p),pi fuel] (.gA [.fs 2 (str l),pi e])∧Fz E O 18 [.agg (au p),pi fuel] (.gA [.agg ((cG p fuel l l.length).map pi),pi e])∧
 ((cd p fuel≠0∧e=cd p fuel∧l=[])∨(cd p fuel=0∧eS p fuel=none∧e=5∧l=[])∨(cd p fuel=0∧eS p fuel=some l∧e=0)):=by
 have hE:=xv (fuel:=fuel) eC
 have hN:=Ks (fuel:=fuel) eC
 by_cases hf:cd p fuel=0
 case neg=>
  have e1:uy p fuel=[hZ,pi (cd p fuel)]:=by simp [uy,hf]
  have e2:DM p fuel=[.agg ((cG p fuel [] 0).map pi),pi (cd p fuel)]:=by simp [DM,hf,cG]
  rw [e1]at hE
  rw [e2]at hN
  exact ⟨_,[],hE.nil,hN,.inl ⟨hf,rfl,rfl⟩⟩
 cases he:eS p fuel with
 |none=>
  have e1:uy p fuel=[hZ,pi 5]:=by simp [uy,hf,he]
  have e2:DM p fuel=[.agg ((cG p fuel [] 0).map pi),pi 5]:=by simp [DM,hf,he,cG]
  rw [e1]at hE
  rw [e2]at hN
  exact ⟨_,[],hE.nil,hN,.inr (.inl ⟨hf,rfl,rfl,rfl⟩)⟩
 |some l=>
  have e1:uy p fuel=[.fs 2 (str l),pi 0]:=by simp [uy,hf,he]
  have e2:DM p fuel=[.agg ((cG p fuel l l.length).map pi),pi 0]:=by simp [DM,hf,he]
  rw [e1]at hE
  rw [e2]at hN
  exact ⟨_,_,hE,hN,.inr (.inr ⟨hf,rfl,rfl⟩)⟩
end Go.Proofs.YtppcmpmnglaleaaGreatDoor.A.P
namespace Go.Proofs.YtppcmpmnglaleaaGreatDoor.A
open Go
def UL (ps ps':List Int) (U:Nat):Prop:=U≤ps.length∧U≤ps'.length∧∀i,i<U→ei ps' i=ei ps i
theorem aaQ {p:bf} {ps ps':List Int} {U:Nat} {c:ek} {k:Int} {s:bD} {vals:List Int} {next:List kv} (h:UL ps ps' U) (he:(cL p ps c k s vals next).over=true→(cL p ps c k s vals next).en≠4) (ho:c.over=false) (hU:(cL p ps c k s vals next).used≤U):cL p ps' c k s vals next=cL p ps c k s vals next:=by
 obtain ⟨op,n,args,thn,els⟩:=s
 unfold cL at he hU⊢
 by_cases o0:op=0
 ·simp only [if_pos o0]
 simp only [if_neg o0]at he hU⊢
 by_cases o1:op=1
 ·simp only [if_pos o1]
 simp only [if_neg o1]at he hU⊢
 by_cases o2:op=2
 ·simp only [if_pos o2]
 simp only [if_neg o2]at he hU⊢
 by_cases o3:op=3
 ·simp only [if_pos o3]
 simp only [if_neg o3]at he hU⊢
 by_cases o4:op=4
 ·simp only [if_pos o4]at he hU⊢
  by_cases u:ps.length≤c.used
  ·simp only [if_pos u]at he
   exact absurd rfl (he rfl)
  ·simp only [if_neg u]at he hU⊢
   have hu:c.used+1≤U:=hU
   have u':¬ ps'.length≤c.used:=by have:=h.2.1;omega
   simp only [if_neg u']
   rw [h.2.2 c.used (by omega)]
 simp only [if_neg o4]at he hU⊢
theorem aaF {p:bf} {ps ps':List Int} {U:Nat} {c:ek} (h:UL ps ps' U) (he:(bN p ps c).over=true→(bN p ps c).en≠4) (ho:c.over=false) (hU:(bN p ps c).used≤U):bN p ps' c=bN p ps c:=by
 have gF:¬ c.over=true:=by rw [ho];decide
 have e1:∀qs,bN p qs c=match c.todo with
  |[]=>c
  |(k,s)::next=>if c.fuel=0 then dY c 3 k else cL p qs (jn p c s next) k s (bU p.w p.vars [c.store] s.args) next:=fun qs=>by
  have:bN p qs c=if c.over=true then c else match c.todo with
   |[]=>c
   |(k,s)::next=>if c.fuel=0 then dY c 3 k else cL p qs (jn p c s next) k s (bU p.w p.vars [c.store] s.args) next:=rfl
  rw [this,if_neg gF]
 rw [e1]at he hU
 rw [e1,e1]
 cases ht:c.todo with
 |nil=>rfl
 |cons it next=>
  obtain ⟨k,s⟩:=it
  rw [ht]at he hU
  simp only at he hU⊢
  by_cases hf:c.fuel=0
  ·rw [if_pos hf,if_pos hf]
  ·rw [if_neg hf]at he hU
   rw [if_neg hf,if_neg hf]
   exact aaQ h he ho hU
theorem aaX {p:bf} {ps:List Int} {c:ek} {k:Int} {s:bD} {vals:List Int} {next:List kv}:c.used≤(cL p ps c k s vals next).used:=by
 obtain ⟨op,n,args,thn,els⟩:=s
 unfold cL
 repeat' split
 all_goals first
  |exact asp _
  |exact Nat.le_succ _
theorem aaR {p:bf} {ps:List Int} {c:ek}:c.used≤(bN p ps c).used:=by
 unfold bN
 split
 ·exact asp _
 split
 ·exact asp _
 split
 ·exact asp _
 ·exact aaX (c:=jn p c _ _)
theorem aag {p:bf} {ps:List Int}:∀(n:Nat) (c:ek),c.used≤(iterM p ps n c).used
 |0,_=>asp _
 |n+1,c=>Nat.le_trans aaR (aag n _)
theorem WL {p:bf} {ps ps':List Int} {U:Nat} (h:UL ps ps' U):∀(n:Nat) (c:ek),(iterM p ps n c).en≠4→(iterM p ps n c).used≤U→iterM p ps' n c=iterM p ps n c
 |0,_,_,_=>rfl
 |n+1,c,he,hU=>by
  cases ho:c.over with
  |true=>
   have e:cM c=true:=by simp [cM,ho]
   rw [j0 e,j0 e]
  |false=>
   have hs:bN p ps' c=bN p ps c:=by
    refine aaF h (fun q=>?_) ho (Nat.le_trans (aag n _) hU)
    rw [iterM,j0 (by simp [cM,q])]at he
    exact he
   rw [iterM,iterM,hs]
   exact WL h n _ he hU
theorem aah {p:bf} {fuel:Int} {s ps ps':List Int} {U:Nat} (h:UL ps ps' U) (h1:fM p fuel ⟨s,ps⟩=0) (h2:fM p fuel ⟨s,ps'⟩=0) (he:(iD p fuel ⟨s,ps⟩).en≠4) (hU:(iD p fuel ⟨s,ps⟩).used≤U):iD p fuel ⟨s,ps'⟩=iD p fuel ⟨s,ps⟩:=by
 unfold iD at he hU⊢
 rw [if_pos h1]at he hU⊢
 rw [if_pos h2]
 have:=WL h (fuel.toNat+1) (fB p fuel ⟨s,ps⟩) he (Int.ofNat_le.1 hU)
 exact congrArg ek.run this
theorem aax {p:bf} {ps:List Int}:∀(n:Nat) {c:ek},Inv p ps c→Inv p ps (iterM p ps n c)
 |0,_,h=>h
 |n+1,_,h=>aax n (yU h)
end Go.Proofs.YtppcmpmnglaleaaGreatDoor.A
namespace Go.Proofs.YtppcmpmnglaleaaGreatDoor.A.P
open Go Go.RowKit
theorem UH {p:bf} {fuel:Int} {s:List Int}:∀(d:Nat) {ps:List Int} {l:List (List Int)},leaves p fuel s d ps=some l→∀q∈l,∃r,q=ps++r
 |0,ps,l,e,q,hq=>by
  rw [leaves]at e
  split at e
  ·cases e
  ·cases e;simp at hq;exact ⟨[],by simp [hq]⟩
 |d+1,ps,l,e,q,hq=>by
  rw [leaves]at e
  split at e
  ·obtain ⟨m,h1,h2⟩:=uC e hq
   simp only [List.mem_map]at h1
   obtain ⟨u,hu,e2⟩:=h1
   obtain ⟨r,rfl⟩:=UH d e2 q h2
   simp only [kids,List.mem_map]at hu
   obtain ⟨a,_,rfl⟩:=hu
   exact ⟨[(a:Int)]++r,by simp⟩
  ·cases e;simp at hq;exact ⟨[],by simp [hq]⟩
theorem aaa {β α:Type} {f:β→Option (List α)}:∀{us:List β} {l:List α},gH (us.map f)=some l→(∀u∈us,∀m,f u=some m→m.Nodup)→us.Pairwise (fun u v=>∀m n,f u=some m→f v=some n→∀x∈m,x∉n)→l.Nodup
 |[],l,e,_,_=>by simp [gH]at e;subst e;simp
 |u::us,l,e,h1,h2=>by
  rw [List.pairwise_cons]at h2
  simp only [List.map_cons,gH]at e
  cases hu:f u with
  |none=>simp [hu]at e
  |some m=>
   cases hc:gH (us.map f)with
   |none=>simp [hu,hc]at e
   |some b=>
    simp only [hu,hc,Option.bind_some,Option.map_some,asm]at e
    subst e
    rw [List.nodup_append]
    refine ⟨h1 u (by simp) m hu,aaa hc (fun v hv=>h1 v (by simp [hv])) h2.2,fun x hx y hy=>?_⟩
    rintro rfl
    obtain ⟨n,hn,VM⟩:=uC hc hy
    simp only [List.mem_map]at hn
    obtain ⟨v,hv,e2⟩:=hn
    exact h2.1 v hv m n hu e2 x hx VM
theorem aai {α:Type}:∀{xs:List (Option (List α))} {l:List α},gH xs=some l→∀{x},x∈xs→∃m,x=some m∧∀q∈m,q∈l
 |[],l,_,x,h=>by simp at h
 |y::xs,l,e,x,h=>by
  simp only [gH]at e
  cases y with
  |none=>simp at e
  |some m=>
   cases hc:gH xs with
   |none=>simp [hc]at e
   |some b=>
    simp only [hc,Option.bind_some,Option.map_some,asm]at e
    subst e
    rcases List.mem_cons.1 h with rfl|h
    ·exact ⟨m,rfl,fun q hq=>by simp [hq]⟩
    ·obtain ⟨n,h1,h2⟩:=aai hc h
     exact ⟨n,h1,fun q hq=>by simp [h2 q hq]⟩
theorem aaS {p:bf} {ps u:List Int} (hp:bq p=true) (h:∀n∈ps,isWord p.w n=true) (hu:u∈kids p ps):∀n∈u,isWord p.w n=true:=by
 simp only [kids,List.mem_map,List.mem_range]at hu
 obtain ⟨a,ha,rfl⟩:=hu
 intro n hn
 rcases List.mem_append.1 hn with h3|h3
 ·exact h n h3
 ·simp only [List.mem_singleton]at h3
  subst h3
  have hw:=oA hp
  have h1:bC p.w=true:=by simp [bC];omega
  have h2:(a:Int)<2^p.w.toNat:=by
   have h3:(bL p:Int)=2^p.w.toNat:=by simp [bL]
   omega
  simp [isWord,h1,h2]
theorem UI {p:bf} {fuel:Int} {s:List Int}:∀(d:Nat) {ps:List Int} {l:List (List Int)},leaves p fuel s d ps=some l→l.Nodup
 |0,ps,l,e=>by
  rw [leaves]at e
  split at e
  ·cases e
  ·cases e;simp
 |d+1,ps,l,e=>by
  rw [leaves]at e
  split at e
  ·refine aaa e (fun u _ m hm=>UI d hm) ?_
   simp only [kids]
   rw [List.pairwise_map]
   refine List.Pairwise.imp ?_ List.nodup_range
   intro a b V7 m n hm hn x hx VM
   obtain ⟨r1,rfl⟩:=UH d hm x hx
   obtain ⟨r2,e2⟩:=UH d hn _ VM
   simp at e2
   omega
  ·cases e;simp
theorem aab {p:bf} {fuel:Int} {s ps:List Int} (h1:fM p fuel ⟨s,ps⟩=0):0≤(iD p fuel ⟨s,ps⟩).used∧(iD p fuel ⟨s,ps⟩).used≤ps.length:=by
 have hi:Inv p ps (mM p ps (fB p fuel ⟨s,ps⟩)):=aax _ (qQ h1).1
 unfold iD
 rw [if_pos h1]
 have:=hi.used.1
 exact ⟨Int.natCast_nonneg _,Int.ofNat_le.2 this⟩
theorem aaT {a b:List Int}:UL a (a++b) a.length:=⟨asp _,by simp,fun i hi=>by
 simp only [ei,List.getD_eq_getElem?_getD]
 rw [asy hi]⟩
theorem aaG {a b:List Int}:UL (a++b) a a.length:=⟨by simp,asp _,fun i hi=>by
 simp only [ei,List.getD_eq_getElem?_getD]
 rw [asy hi]⟩
theorem aa5 {p:bf} {fuel:Int} {s a b:List Int} (h1:fM p fuel ⟨s,a⟩=0) (h2:fM p fuel ⟨s,a++b⟩=0) (he:Bw p fuel s a≠4):iD p fuel ⟨s,a++b⟩=iD p fuel ⟨s,a⟩:=
 aah aaT h1 h2 he (aab h1).2
theorem aay {p:bf} {fuel:Int} {s a b:List Int} (h1:fM p fuel ⟨s,a⟩=0) (h2:fM p fuel ⟨s,a++b⟩=0) (he:Bw p fuel s (a++b)≠4) (hu:(iD p fuel ⟨s,a++b⟩).used≤a.length):iD p fuel ⟨s,a⟩=iD p fuel ⟨s,a++b⟩:=
 aah aaG h2 h1 he hu
def okW (p:bf) (q:List Int):Prop:=∀n∈q,isWord p.w n=true
theorem aaH {p:bf} {fuel:Int} {s:List Int} (hp:bq p=true) (hf:cd p fuel=0) (hs:aO p.w p.vars s=true):∀(d:Nat) {ps:List Int} {l:List (List Int)},ps.length+d=16→okW p ps→(ps=[]∨∃a b,ps=a++[b]∧Bw p fuel s a=4)→leaves p fuel s d ps=some l→∀q∈l,Bw p fuel s q≠4∧(iD p fuel ⟨s,q⟩).used=q.length:=by
 have leaf:∀{ps:List Int},ps.length≤16→okW p ps→(ps=[]∨∃a b,ps=a++[b]∧Bw p fuel s a=4)→Bw p fuel s ps≠4→(iD p fuel ⟨s,ps⟩).used=ps.length:=by
  intro ps hl hw hc he
  have hk:=J0 (q:=ps) hp hf hs hw hl
  have hb:=aab hk
  rcases hc with rfl|⟨a,b,rfl,ha⟩
  ·simp at hb⊢;omega
  ·have hka:fM p fuel ⟨s,a⟩=0:=J0 hp hf hs (fun n hn=>hw n (by simp [hn])) (by simp at hl;omega)
   by_cases hu:(iD p fuel ⟨s,a++[b]⟩).used≤a.length
   ·have:=aay hka hk he hu
    unfold Bw at ha he
    rw [this]at ha
    exact absurd ha he
   ·simp at hb⊢;omega
 intro d
 induction d with
 |zero=>
  intro ps l hl hw hc e q hq
  rw [leaves]at e
  split at e
  ·cases e
  ·rename_i hn
   cases e;simp at hq;subst hq
   exact ⟨hn,leaf (by omega) hw hc hn⟩
 |succ d ih=>
  intro ps l hl hw hc e q hq
  rw [leaves]at e
  split at e
  ·rename_i hn
   obtain ⟨m,h1,h2⟩:=uC e hq
   simp only [List.mem_map]at h1
   obtain ⟨u,hu,e2⟩:=h1
   have hlu:=mS hu
   have hwu:okW p u:=aaS hp hw hu
   simp only [kids,List.mem_map]at hu
   obtain ⟨a,_,rfl⟩:=hu
   exact ih (by omega) hwu (.inr ⟨ps,_,rfl,hn⟩) e2 q h2
  ·rename_i hn
   cases e;simp at hq;subst hq
   exact ⟨hn,leaf (by omega) hw hc hn⟩
theorem aaI {p:bf} {fuel:Int} {s:List Int} (hp:bq p=true) (hf:cd p fuel=0) (hs:aO p.w p.vars s=true):∀(d:Nat) {ps r:List Int} {l:List (List Int)},ps.length+d=16→okW p (ps++r)→(ps++r).length≤16→Bw p fuel s (ps++r)≠4→(iD p fuel ⟨s,ps++r⟩).used=(ps++r).length→leaves p fuel s d ps=some l→ps++r∈l:=by
 intro d
 induction d with
 |zero=>
  intro ps r l hl hw hlen he hu e
  rw [leaves]at e
  have:r=[]:=List.eq_nil_of_length_eq_zero (by simp at hlen;omega)
  subst this
  split at e
  ·cases e
  ·cases e;simp
 |succ d ih=>
  intro ps r l hl hw hlen he hu e
  have hk:=J0 (q:=ps++r) hp hf hs hw hlen
  have hkp:fM p fuel ⟨s,ps⟩=0:=J0 hp hf hs (fun n hn=>hw n (by simp [hn])) (by simp at hlen;omega)
  rw [leaves]at e
  cases r with
  |nil=>
   split at e
   ·rename_i hn
    simp at he
    exact absurd hn he
   ·cases e;simp
  |cons a r=>
   have hn:Bw p fuel s ps=4:=by
    by_cases h:Bw p fuel s ps=4
    ·exact h
    ·have:=aa5 (b:=a::r) hkp hk h
     rw [this]at hu
     have:=(aab hkp).2
     simp at hu
     omega
   rw [if_pos hn]at e
   have hwa:=hw a (by simp)
   have ha:0≤a∧a<bL p:=by
    simp only [isWord,aso,asx]at hwa
    have h3:(bL p:Int)=2^p.w.toNat:=by simp [bL]
    omega
   have pN:ps++[a]∈kids p ps:=by
    simp only [kids,List.mem_map,List.mem_range]
    exact ⟨a.toNat,by omega,by simp;omega⟩
   obtain ⟨m,hm,akz⟩:=aai e (List.mem_map.2 ⟨_,pN,rfl⟩)
   have:=ih (ps:=ps++[a]) (r:=r) (l:=m) (by simp;omega) (by simpa using hw) (by simpa using hlen) (by simpa using he) (by simpa using hu) hm
   simp at this
   exact akz _ this
open Go Go.RowKit
def L2 (B:Int):List Int→Int
 |[]=>0
 |x::l=>x+B*L2 B l
theorem WH (B:Int) (x:Int):∀l,L2 B (l++[x])=L2 B l+B^l.length*x
 |[]=>by simp [L2]
 |y::l=>by
  simp only [List.cons_append,L2,WH B x l,List.length_cons,Int.pow_succ]
  rw [Int.mul_add,←Int.mul_assoc,Int.mul_comm B (B^l.length)]
  omega
theorem aac {B:Int} (hB:0<B):∀{l:List Int},(∀x∈l,0≤x∧x<B)→0≤L2 B l∧L2 B l<B^l.length
 |[],_=>by simp [L2]
 |x::l,h=>by
  have ih:=aac hB (l:=l) (fun y hy=>h y (by simp [hy]))
  have hx:=h x (by simp)
  simp only [L2,List.length_cons,Int.pow_succ]
  have h1:0≤B*L2 B l:=Int.mul_nonneg (by omega) ih.1
  have h2:B*(L2 B l+1)≤B*B^l.length:=Int.mul_le_mul_of_nonneg_left (by omega) (by omega)
  rw [Int.mul_add,Int.mul_one,Int.mul_comm B (B^l.length)]at h2
  omega
theorem aaz {B:Int} (hB:0<B) (i k:Int):∀(n m:Nat),n≤m→jt B (i+B^m*k) n=jt B i n
 |0,_,_=>rfl
 |n+1,m,h=>by
  have hp:(0:Int)<B^n:=Int.pow_pos hB
  rw [jt,jt,aaz hB i k n m (by omega)]
  obtain ⟨j,rfl⟩:∃j,m=n+1+j:=⟨m- (n+1),by omega⟩
  have e:B^(n+1+j)*k=B^n*(B*(B^j*k)):=by
   rw [Int.pow_add,Int.pow_succ]
   simp only [Int.mul_assoc]
  rw [e,Int.add_mul_ediv_left _ _ (by omega),Int.add_mul_emod_self_left]
theorem aaA {B:Int} (hB:0<B):∀(n:Nat) {l:List Int},l.length=n→(∀x∈l,0≤x∧x<B)→jt B (L2 B l) n=l
 |0,l,hl,_=>by
  have:=List.eq_nil_of_length_eq_zero hl
  subst this;rfl
 |n+1,l,hl,h=>by
  rcases List.eq_nil_or_concat l with rfl|⟨m,x,rfl⟩
  ·simp at hl
  ·rw [List.concat_eq_append]at*
   have hm:m.length=n:=by simpa using hl
   have hx:=h x (by simp)
   have hr:=aac hB (l:=m) (fun y hy=>h y (by simp [hy]))
   have hp:(0:Int)<B^n:=Int.pow_pos hB
   rw [WH,hm,jt,aaz hB _ _ n n (asp _),aaA hB n hm (fun y hy=>h y (by simp [hy]))]
   rw [hm]at hr
   rw [Int.add_mul_ediv_left _ _ (by omega),Int.ediv_eq_zero_of_lt hr.1 hr.2,Int.zero_add,Int.emod_eq_of_lt hx.1 hx.2]
theorem aad {B:Int} (hB:0<B) {i:Int} (hi:0≤i):∀n:Nat,L2 B (jt B i n)=i%B^n
 |0=>by simp [jt,L2]
 |n+1=>by
  have hp:(0:Int)<B^n:=Int.pow_pos hB
  rw [jt,WH,gY,aad hB hi n]
  have h1:=Int.emod_add_mul_ediv i (B^n)
  have h2:=Int.emod_add_mul_ediv (i/B^n) B
  have h3:=Int.emod_add_mul_ediv i (B^(n+1))
  have h4:i/B^n/B=i/B^(n+1):=div_pow i B hB n
  rw [h4]at h2
  have h5:B^(n+1)*(i/B^(n+1))=B^n*(B*(i/B^(n+1))):=by rw [Int.pow_succ,Int.mul_assoc]
  have h6:B^n*(i/B^n)=B^n*(i/B^n%B)+B^n*(B*(i/B^(n+1))):=by
   rw [←Int.mul_add,h2]
  omega
theorem aat {p:bf} (h:bq p=true):dy p=(2^p.w.toNat)^(eD p).toNat:=by
 have hw:=oA h
 have hc:=ly h
 unfold dy dZ
 rw [←Int.pow_mul]
 congr 1
 obtain ⟨a,ha⟩:=Int.eq_ofNat_of_zero_le (show 0≤p.w by omega)
 obtain ⟨b,hb⟩:=Int.eq_ofNat_of_zero_le (show 0≤eD p by omega)
 rw [ha,hb]
 rfl
theorem aaJ {p:bf} (h:bq p=true) {i j:Int} (hi:0≤i∧i<dy p) (hj:0≤j∧j<dy p) (e:dj p i=dj p j):i=j:=by
 have hB:=fJ (oA h)
 have e2:=congrArg (L2 (2^p.w.toNat)) e
 unfold dj at e2
 rw [aad (by omega) hi.1,aad (by omega) hj.1,←aat h,Int.emod_eq_of_lt hi.1 hi.2,Int.emod_eq_of_lt hj.1 hj.2]at e2
 exact e2
theorem aaB {p:bf} (h:bq p=true) {s:List Int} (hs:aO p.w p.vars s=true):∃i:Nat,(i:Int)<dy p∧dj p i=s:=by
 have hB:=fJ (oA h)
 have hc:=ly h
 simp only [aO,aso,asx,asB]at hs
 have hl:s.length=(eD p).toNat:=by
  have:(s.length:Int)=eD p:=hs.1
  omega
 have hx:∀x∈s,0≤x∧x<2^p.w.toNat:=fun x hx=>by
  have:=hs.2 x hx
  simp only [isWord,aso,asx]at this
  exact this.2
 have hr:=aac (B:=2^p.w.toNat) (by omega) hx
 refine ⟨(L2 (2^p.w.toNat) s).toNat,?_,?_⟩
 ·rw [Int.toNat_of_nonneg hr.1,aat h,←hl]
  exact hr.2
 ·rw [Int.toNat_of_nonneg hr.1,dj]
  exact aaA (by omega) _ hl hx
end Go.Proofs.YtppcmpmnglaleaaGreatDoor.A.P
namespace Go.Proofs.YtppcmpmnglaleaaGreatDoor.A.P
open Go Go.RowKit
theorem aaK {p:bf} {fuel:Int} {s:List Int} {most:Nat} {m:List (List Int)} (h:ofM p fuel s most=some m):kD p fuel s=some m:=by
 unfold ofM at h
 cases hs:kD p fuel s with
 |none=>simp [hs]at h
 |some l=>simp [hs]at h;rw [h.2]
theorem aae {p:bf} {fuel:Int} {n:Nat} {l:List eG} (e:eI p fuel (n+1)=some l):∃l1 m,eI p fuel n=some l1∧kD p fuel (dj p n)=some m∧l=l1++lv (dj p n) m:=by
 simp only [eI]at e
 cases h1:eI p fuel n with
 |none=>simp [h1]at e
 |some l1=>
  simp only [h1,Option.bind_some]at e
  cases h2:ofM p fuel (dj p n) (16384- l1.length)with
  |none=>simp [h2]at e
  |some m=>
   simp [h2]at e
   exact ⟨l1,m,rfl,aaK h2,e.symm⟩
theorem aaf {p:bf} {fuel:Int}:∀{n:Nat} {l:List eG},eI p fuel n=some l→∀t∈l,∃i:Nat,i<n∧∃m,kD p fuel (dj p i)=some m∧t.store=dj p i∧t.bS∈m
 |0,l,e,t,ht=>by simp [eI]at e;subst e;simp at ht
 |n+1,l,e,t,ht=>by
  obtain ⟨l1,m,h1,h2,rfl⟩:=aae e
  rcases List.mem_append.1 ht with ht|ht
  ·obtain ⟨i,hi,q⟩:=aaf h1 t ht
   exact ⟨i,by omega,q⟩
  ·simp only [lv,List.mem_map]at ht
   obtain ⟨q,hq,rfl⟩:=ht
   exact ⟨n,by omega,m,h2,rfl,hq⟩
theorem aaY {p:bf} {fuel:Int}:∀{n:Nat} {l:List eG},eI p fuel n=some l→∀i:Nat,i<n→∃m,kD p fuel (dj p i)=some m∧∀q∈m,(⟨dj p i,q⟩:eG)∈l
 |0,l,e,i,hi=>by omega
 |n+1,l,e,i,hi=>by
  obtain ⟨l1,m,h1,h2,rfl⟩:=aae e
  by_cases h:i=n
  ·subst h
   exact ⟨m,h2,fun q hq=>List.mem_append.2 (.inr (by simp [lv,hq]))⟩
  ·obtain ⟨m',h3,h4⟩:=aaY h1 i (by omega)
   exact ⟨m',h3,fun q hq=>List.mem_append.2 (.inl (h4 q hq))⟩
theorem aau {p:bf} {fuel:Int} (hp:bq p=true):∀{n:Nat} {l:List eG},(n:Int)≤dy p→eI p fuel n=some l→l.Nodup
 |0,l,_,e=>by simp [eI]at e;subst e;simp
 |n+1,l,hn,e=>by
  obtain ⟨l1,m,h1,h2,rfl⟩:=aae e
  rw [List.nodup_append]
  refine ⟨aau hp (by omega) h1,?_,fun a ha b hb=>?_⟩
  ·have hm:m.Nodup:=UI _ h2
   unfold lv
   rw [List.Nodup,List.pairwise_map]
   exact List.Pairwise.imp (fun V7 e=>V7 (by injection e)) hm
  ·rintro rfl
   obtain ⟨i,hi,_,_,he,_⟩:=aaf h1 a ha
   simp only [lv,List.mem_map]at hb
   obtain ⟨q,_,rfl⟩:=hb
   have:=aaJ hp (i:=n) (j:=i) ⟨by omega,by omega⟩ ⟨by omega,by omega⟩ he
   omega
theorem aaL {p:bf} {fuel:Int} (hf:cd p fuel=0) {l:List eG} (e:eS p fuel=some l):l.Nodup∧(∀t∈l,(iD p fuel t).en≠4∧(iD p fuel t).used=t.bS.length)∧
 ∀t:eG,fM p fuel t=0→(iD p fuel t).en≠4→(⟨t.store,t.bS.take (iD p fuel t).used.toNat⟩:eG)∈l:=by
 have hp:=mX hf
 unfold eS at e
 split at e
 case isFalse=>cases e
 have MK:0<dy p:=Int.pow_pos (by omega)
 refine ⟨aau hp (by omega) e,fun t ht=>?_,fun t hk he=>?_⟩
 ·obtain ⟨i,hi,m,hm,hs,hq⟩:=aaf e t ht
  have:=aaH hp hf (zu hp i) 16 (ps:=[]) rfl (by intro n hn;simp at hn) (.inl rfl) hm _ hq
  obtain ⟨s,q⟩:=t
  simp only at hs hq
  subst hs
  exact this
 ·obtain ⟨s,ps⟩:=t
  have abL:iX p ⟨s,ps⟩=true:=by
   cases h:iX p ⟨s,ps⟩with
   |true=>rfl
   |false=>
    have:=hk
    unfold fM at this
    rw [h,if_neg (by simp [hp])]at this
    split at this
    ·cases this
    ·simp at this
  simp only [iX,aso,asx,asB]at abL
  obtain ⟨eT,hl,hw⟩:=abL
  obtain ⟨i,hi,rfl⟩:=aaB hp eT
  obtain ⟨m,hm,uT⟩:=aaY e i (by omega)
  have hb:=aab hk
  obtain ⟨u,hu⟩:∃u:Nat,(iD p fuel ⟨dj p i,ps⟩).used=u:=⟨(iD p fuel ⟨dj p i,ps⟩).used.toNat,by omega⟩
  rw [hu]at hb⊢
  rw [Int.toNat_natCast]
  have hul:u≤ps.length:=by omega
  have hlen:(ps.take u).length=u:=by simp;omega
  have EV:fM p fuel ⟨dj p i,ps.take u⟩=0:=J0 hp hf eT (fun n hn=>hw n (List.mem_of_mem_take hn)) (by omega)
  have hr:iD p fuel ⟨dj p i,ps.take u⟩=iD p fuel ⟨dj p i,ps⟩:=by
   have T4:ps.take u++ps.drop u=ps:=List.take_append_drop u ps
   have:=aay (a:=ps.take u) (b:=ps.drop u) EV (by rw [T4];exact hk) (by rw [T4];exact he) (by rw [T4,hu,hlen];exact Int.le_refl _)
   rw [T4]at this
   exact this
  refine uT _ ?_
  have:=aaI hp hf eT 16 (ps:=[]) (r:=ps.take u) (l:=m) rfl (fun n hn=>hw n (List.mem_of_mem_take hn)) (by simp;omega) (by show(iD p fuel ⟨dj p i,ps.take u⟩).en≠4;rw [hr];exact he) (by rw [List.nil_append,hr,hu,hlen]) hm
  exact this
open Go Go.RowKit
theorem aav {a b:eG} (ha:Bn a) (hb:Bn b):Fz E O 44 [.agg (cF a),.agg (cF b)] (pb (decide (a=b))):=by
 refine Fz.body (F:=a44) rfl rfl rfl rfl ?_
 have V7:decide (a=b)=(decide (a.store=b.store)&&decide (a.bS=b.bS)):=by
  rw [Bool.eq_iff_iff]
  simp only [asx,aso]
  cases a;cases b;simp
 rw [V7]
 have h1:=Du (l:=a.store) (m:=b.store) (by have:=ha.1;omega)
 have h2:=Du (l:=a.bS) (m:=b.bS) (by have:=ha.2.1;omega)
 simp (maxSteps:=4000000)-implicitDefEqProofs+contextual [-getElem?_pos,asj,a44,cF]
 refine aN (h1) ?_ ?_ ?_
 iterate 2· simp (maxDischargeDepth:=8)-implicitDefEqProofs [-getElem?_pos,asj]
 by_cases h:a.store=b.store
 ·simp (maxSteps:=4000000)-implicitDefEqProofs [-getElem?_pos,asj,h]
  refine aN (h2) ?_ ?_ ?_
  iterate 2· simp (maxDischargeDepth:=8)-implicitDefEqProofs [-getElem?_pos,asj]
  simp (maxSteps:=4000000)-implicitDefEqProofs [-getElem?_pos,asj]
 ·simp (maxSteps:=4000000)-implicitDefEqProofs [-getElem?_pos,asj,h]
def GL (l:List eG) (t:eG):Int:=if t∈l then(l.idxOf t:Int)else-1
def KL (l:List eG) (j:Nat):List (Nat×PV):=[(0,.fs 2 (str l)),(3,.ref 0 0 2),(5,pi j)]
def KI (l:List eG) (t:eG) (j:Nat) (fr:PF) (h:PH):Prop:=t∉l.take j∧h=[.cells 2 (cF t)]∧∀u∈KL l j,fr.get u.1=u.2
theorem aaZ {l:List eG} {t:eG} {j:Nat} (h:t∉l.take j):KI l t j (PF.uK (KL l j)) [.cells 2 (cF t)]:=⟨h,rfl,fun u hu=>by
 simp only [KL,List.mem_cons,List.not_mem_nil,or_false]at hu
 rcases hu with rfl|rfl|rfl<;>simp [KL]⟩
theorem aaC {l:List eG} {t:eG} {j:Nat} (h:t∉l.take j) (e:l[j]?=some t):GL l t=j:=by
 have hj:=(asr.1 e).1
 have hm:=asq e
 rw [GL,if_pos hm]
 have e1:l=l.take j++t::l.drop (j+1):=by
  have h2:l[j]=t:=(asr.1 e).2
  rw [←h2,List.getElem_cons_drop,List.take_append_drop]
 rw [e1,List.idxOf_append,if_neg h]
 simp
 omega
theorem aaN {l:List eG} {t:eG} (okl:∀u∈l,Bn u) (vH:Bn t) (hl:l.length≤16384):Fz E O 24 [.fs 2 (str l),.agg (cF t)] (pi (GL l t)):=by
 refine Fz.body (F:=a24) rfl rfl rfl rfl ?_
 simp (maxSteps:=4000000)-implicitDefEqProofs+contextual [-getElem?_pos,asj,a24,cF]
 refine fu (KI l t) l.length (cz (h2:=[.cells 2 (cF t)]) [0] (KL l 0) ?_ ?_ ?_ ?_ ?_ ?_) (aaZ (by simp)) ?_
 ·simp [KL,cF]
 iterate 2· simp
 ·intro b hb;omega
 iterate 2· simp (maxDischargeDepth:=8)-implicitDefEqProofs [aj,asj,KL,cF]
 rintro j fr h hj ⟨rv,rfl,gj⟩
 simp only [KL,List.mem_cons,List.not_mem_nil,or_false,forall_eq_or_imp,forall_eq]at gj
 obtain ⟨f0,f3,f5⟩:=gj
 by_cases py:j<l.length
 ·obtain ⟨u,hu⟩:∃u,l[j]?=some u:=⟨_,asl py⟩
  have w4:IntKind.i64.wrap ((j:Int)+1)=((j+1:Nat):Int):=ai ⟨by omega,by omega⟩
  simp (maxSteps:=4000000)-implicitDefEqProofs+contextual [-getElem?_pos,asj,f0,f3,f5,py,xp,hu,cF]
  refine aN (aav (okl u (asq hu)) vH) ?_ ?_ ?_
  iterate 2· simp (maxDischargeDepth:=8)-implicitDefEqProofs [-getElem?_pos,asj,cF]
  by_cases e:u=t
  ·subst e
   rw [aaC rv hu]
   simp (maxSteps:=4000000)-implicitDefEqProofs+contextual [-getElem?_pos,asj,f5]
  ·have akB:t∉l.take (j+1):=by
    rw [List.take_add_one,hu]
    simp [rv,Ne.symm e]
   simp (maxSteps:=4000000)-implicitDefEqProofs+contextual [-getElem?_pos,asj,e,f5,w4]
   refine .qb py (cz (h2:=[.cells 2 (cF t)]) [0] (KL l (j+1)) ?_ ?_ ?_ ?_ ?_ ?_) (aaZ akB)
   ·simp [KL,cF,f0,f3]
   iterate 2· simp
   ·intro b hb;omega
   iterate 2· simp (maxDischargeDepth:=8)-implicitDefEqProofs [aj,asj,KL,cF,f0,f3]
 ·obtain rfl:j=l.length:=by omega
  rw [ass (asp _)]at rv
  simp (maxSteps:=4000000)-implicitDefEqProofs+contextual [-getElem?_pos,asj,f0,f3,f5,GL,rv]
theorem aaD {l:List eG} {j:Nat} {t:eG} (hn:l.Nodup) (e:l[j]?=some t):GL l t=j:=by
 refine aaC (fun h=>?_) e
 obtain ⟨i,hi,e2⟩:=List.mem_iff_getElem.1 h
 have hj:=(asr.1 e)
 obtain ⟨hj1,hj2⟩:=hj
 simp at hi
 have e3:l[i]=l[j]:=by rw [hj2,←e2];simp
 exact List.pairwise_iff_getElem.1 hn i j (by omega) hj1 (by omega) e3
theorem aaU {l:List eG} {t:eG} (h:t∈l):0≤GL l t:=by
 rw [GL,if_pos h]
 omega
def OnL (fuel:Int) (l:List eG) (j:Nat):List (Nat×PV):=[(1,pi fuel),(3,.ref 0 0 3),(5,.ref 1 0 2),(7,.fs 2 (str l)),(9,pi j)]
def OnH (p:bf) (t:eG):PH:=[.cells 3 (au p),.cells 2 (cF t)]
def OnI (p:bf) (t:eG) (fuel:Int) (l:List eG) (j:Nat) (fr:PF) (h:PH):Prop:=h=OnH p t∧∀u∈OnL fuel l j,fr.get u.1=u.2
theorem aaO {p:bf} {t:eG} {fuel:Int} {l:List eG} {j:Nat}:OnI p t fuel l j (PF.uK (OnL fuel l j)) (OnH p t):=⟨rfl,fun u hu=>by
 simp only [OnL,List.mem_cons,List.not_mem_nil,or_false]at hu
 rcases hu with rfl|rfl|rfl|rfl|rfl<;>simp [OnL]⟩
theorem aa1 {p:bf} {fuel:Int} {t:eG} (h:fM p fuel t=0):cd p fuel=0:=by
 unfold fM at h
 split at h
 ·cases h
 ·rename_i hp
  split at h
  ·cases h
  ·rename_i hf
   simp at hp
   simp only [cd,hp]
   rw [if_neg (by simp),if_neg hf]
theorem aaM {p:bf} {fuel:Int} {t:eG} (eC:fV p) (vH:Bn t):
 Fz E O 6 [.agg (au p),pi fuel,.agg (cF t)] (pb true):=by
 refine Fz.body (F:=a6) rfl rfl rfl rfl ?_
 obtain ⟨e,l,hE,hN,hc⟩:=OQ (fuel:=fuel) eC
 have hA:=DN
 have hK:=aaw (fuel:=fuel) eC vH
 simp (maxSteps:=4000000)-implicitDefEqProofs+contextual [-getElem?_pos,asj,a6,au,cF]
 refine aN (Dt (l:=p.body) (m:=600) eC.2.2.1 eC.2.2.2 (by omega)) ?_ ?_ ?_
 iterate 2· simp (maxDischargeDepth:=8)-implicitDefEqProofs [-getElem?_pos,asj]
 by_cases hn:av p.body≤600
 case neg=>
  simp (maxSteps:=4000000)-implicitDefEqProofs [-getElem?_pos,asj,hn]
  refine aN (hA) ?_ ?_ ?_
  iterate 2· simp (maxDischargeDepth:=8)-implicitDefEqProofs [-getElem?_pos,asj]
  simp (maxSteps:=4000000)-implicitDefEqProofs [-getElem?_pos,asj]
 simp (maxSteps:=4000000)-implicitDefEqProofs [-getElem?_pos,asj,hn,au,cF]
 refine aN (hK) ?_ ?_ ?_
 iterate 2· simp (maxDischargeDepth:=8)-implicitDefEqProofs [-getElem?_pos,asj,au,cF]
 by_cases hk:fM p fuel t=0
 case neg=>
  simp (maxSteps:=4000000)-implicitDefEqProofs [-getElem?_pos,asj,hk]
  refine aN (hA) ?_ ?_ ?_
  iterate 2· simp (maxDischargeDepth:=8)-implicitDefEqProofs [-getElem?_pos,asj]
  simp (maxSteps:=4000000)-implicitDefEqProofs [-getElem?_pos,asj]
 have hf:=aa1 hk
 have hp:=mX hf
 rw [hk]
 simp (maxSteps:=4000000)-implicitDefEqProofs [-getElem?_pos,asj,au]
 refine aN (hE) ?_ ?_ ?_
 iterate 2· simp (maxDischargeDepth:=8)-implicitDefEqProofs [-getElem?_pos,asj,au]
 rcases hc with⟨hf2,_,_⟩|⟨_,hm,rfl,rfl⟩|⟨_,hm,rfl⟩
 ·exact absurd hf hf2
 ·simp (maxSteps:=4000000)-implicitDefEqProofs [-getElem?_pos,asj]
  refine aN (hA) ?_ ?_ ?_
  iterate 2· simp (maxDischargeDepth:=8)-implicitDefEqProofs [-getElem?_pos,asj]
  simp (maxSteps:=4000000)-implicitDefEqProofs [-getElem?_pos,asj]
 by_cases hl6:l.length≤600
 case neg=>
  have h6:600<l.length:=by omega
  have h7:(600:Int)<(l.length:Int):=by omega
  simp (maxSteps:=4000000)-implicitDefEqProofs [-getElem?_pos,asj,h7,h6]
  refine aN (hA) ?_ ?_ ?_
  iterate 2· simp (maxDischargeDepth:=8)-implicitDefEqProofs [-getElem?_pos,asj]
  simp (maxSteps:=4000000)-implicitDefEqProofs [-getElem?_pos,asj]
 have h6:¬ 600<l.length:=by omega
 have h7:¬ (600:Int)<(l.length:Int):=by omega
 obtain ⟨nz,E5,aG⟩:=aaL hf hm
 have F5:=uD hp hm
 have abM:=FB hf hm
 simp (maxSteps:=4000000)-implicitDefEqProofs [-getElem?_pos,asj,h6,h7]
 refine fu (OnI p t fuel l) l.length (cz (h2:=OnH p t) [0,1] (OnL fuel l 0) ?_ ?_ ?_ ?_ ?_ ?_) aaO ?_
 ·simp [OnH,OnL,au,cF]
 iterate 2· simp
 ·intro b hb;omega
 iterate 2· simp (maxDischargeDepth:=8)-implicitDefEqProofs [aj,asj,OnH,OnL,au,cF]
 rintro j fr h hj ⟨rfl,gj⟩
 simp only [OnL,List.mem_cons,List.not_mem_nil,or_false,forall_eq_or_imp,forall_eq]at gj
 obtain ⟨f1,f3,f5,f7,f9⟩:=gj
 by_cases py:j<l.length
 ·obtain ⟨u,hu⟩:∃u,l[j]?=some u:=⟨_,asl py⟩
  have hmu:=asq hu
  have w4:IntKind.i64.wrap ((j:Int)+1)=((j+1:Nat):Int):=ai ⟨by omega,by omega⟩
  have hKu:=aaw (fuel:=fuel) eC (F5.1 u hmu)
  have hPu:=aaN F5.1 (F5.1 u hmu) F5.2
  have hRu:=JU (fuel:=fuel) eC (by omega) (abM u hmu)
  rw [abM u hmu]at hKu
  rw [aaD nz hu]at hPu
  obtain ⟨he1,he2⟩:=E5 u hmu
  simp (maxSteps:=4000000)-implicitDefEqProofs+contextual [-getElem?_pos,asj,f1,f3,f7,f9,py,xp,hu,OnH,au,cF]
  refine aN (hKu) ?_ ?_ ?_
  iterate 2· simp (maxDischargeDepth:=8)-implicitDefEqProofs [-getElem?_pos,asj,au,cF]
  have abE:(j:Int)<(l.length:Int):=by omega
  simp (maxSteps:=4000000)-implicitDefEqProofs [-getElem?_pos,asj,f1,f3,f7,f9,py,abE,xp,hu,au,cF]
  refine aN (hPu) ?_ ?_ ?_
  iterate 2· simp (maxDischargeDepth:=8)-implicitDefEqProofs [-getElem?_pos,asj,au,cF]
  simp (maxSteps:=4000000)-implicitDefEqProofs [-getElem?_pos,asj,f1,f3,f7,f9,py,abE,xp,hu,au,cF]
  refine aN (hRu) ?_ ?_ ?_
  iterate 2· simp (maxDischargeDepth:=8)-implicitDefEqProofs [-getElem?_pos,asj,au,cF]
  simp (maxSteps:=4000000)-implicitDefEqProofs [-getElem?_pos,asj,f1,f3,f7,f9,py,abE,xp,hu,au,cF,fR,he1,he2,w4]
  refine .qb py (cz (h2:=OnH p t) [0,1] (OnL fuel l (j+1)) ?_ ?_ ?_ ?_ ?_ ?_) aaO
  ·simp [OnH,OnL,au,cF,f1,f3,f5,f7]
  iterate 2· simp
  ·intro b hb;omega
  iterate 2· simp (maxDischargeDepth:=8)-implicitDefEqProofs [aj,asj,OnH,OnL,au,cF,f1,f3,f5,f7]
 ·obtain rfl:j=l.length:=by omega
  have hRt:=JU (fuel:=fuel) eC (by omega) hk
  simp (maxSteps:=4000000)-implicitDefEqProofs+contextual [-getElem?_pos,asj,f1,f3,f5,f7,f9,OnH,au,cF]
  refine aN (hRt) ?_ ?_ ?_
  iterate 2· simp (maxDischargeDepth:=8)-implicitDefEqProofs [-getElem?_pos,asj,au,cF]
  by_cases he:(iD p fuel t).en=4
  ·simp (maxSteps:=4000000)-implicitDefEqProofs [-getElem?_pos,asj,fR,he]
   refine aN (hA) ?_ ?_ ?_
   iterate 2· simp (maxDischargeDepth:=8)-implicitDefEqProofs [-getElem?_pos,asj]
   simp (maxSteps:=4000000)-implicitDefEqProofs [-getElem?_pos,asj]
  ·have hb:0≤(iD p fuel t).used∧(iD p fuel t).used≤t.bS.length:=aab (s:=t.store) (ps:=t.bS) hk
   have uT:=aaU (aG t hk he)
   obtain ⟨u,hu⟩:∃u:Nat,(iD p fuel t).used=u:=⟨(iD p fuel t).used.toNat,by omega⟩
   rw [hu]at hb uT
   rw [Int.toNat_natCast]at uT
   have hul:u≤t.bS.length:=by omega
   have yP:bH t.bS.length t.bS.length none (some (.int .i64 (u:Int))) none=some (0,u,t.bS.length):=zq hul
   have akC:Bn ⟨t.store,t.bS.take u⟩:=⟨vH.1,by have:=vH.2.1;show(t.bS.take u).length<_;simp;omega,vH.2.2.1,fun n hn=>vH.2.2.2 n (List.mem_of_mem_take hn)⟩
   have hPt:=aaN F5.1 akC F5.2
   have hir:List.take u (ir t.bS)=ir (t.bS.take u):=by simp [ir]
   have hnn:¬ GL l ⟨t.store,t.bS.take u⟩<0:=by omega
   simp (maxSteps:=4000000)-implicitDefEqProofs [-getElem?_pos,asj,fR,he,f5,f7,cF,hu,yP,hul,hir]
   refine aN (hPt) ?_ ?_ ?_
   iterate 2· simp (maxDischargeDepth:=8)-implicitDefEqProofs [-getElem?_pos,asj,cF]
   simp (maxSteps:=4000000)-implicitDefEqProofs [-getElem?_pos,asj,uT,hnn]
   refine aN (hA) ?_ ?_ ?_
   iterate 2· simp (maxDischargeDepth:=8)-implicitDefEqProofs [-getElem?_pos,asj]
   simp (maxSteps:=4000000)-implicitDefEqProofs [-getElem?_pos,asj]
end Go.Proofs.YtppcmpmnglaleaaGreatDoor.A.P
