/- Texts that stand one behind the other: O6, O7, O8. -/
import Derived.Test.YtppcmpmnglaleaaGreatDoorG21
set_option linter.unusedVariables false
set_option linter.unusedSimpArgs false
set_option maxRecDepth 10000
set_option maxHeartbeats 1000000
namespace Go.Proofs.YtppcmpmnglaleaaGreatDoor.A
namespace P
open Go Go.RowKit
def rk (s:List Int) (out:List (List Int)):L2:=out.map fun q=>(s,q)
def Oo (p:bC) (s:List Int) (fuel:Int) (most:Nat) (k:Nat) (fr:PF) (h:PH):Prop:=∃pos out lH junk,k=jY lH∧tB lH∧out.length≤most∧jK p fuel s=(rest p fuel s lH).map (fun x=>out++x)∧
 h[0]?=some (.cells 3 (aI p))∧LP h 1 pos (rk s out)∧h[2]?=some (.cells 1 (jA lH++jA junk))∧0∉my pos∧2∉my pos∧∀t∈OL p s fuel most out lH junk,fr.get t.1=t.2
def Wo (p:bC) (s:List Int) (fuel:Int) (most:Nat) (out st:List (List Int)) (q:List Int) (junk:List (List Int)) (pos:List (Nat×Nat)) (j:Nat) (fr:PF) (g:PH):Prop:=g[0]?=some (.cells 3 (aI p))∧LP g 1 pos (rk s out)∧g[2]?=some (.cells 1 (jA (st++(kids p q).reverse.take j)++jA ((q::junk).drop j)))∧
 ∀t∈(12,lG q)::(15,pi ((aY p:Int)- 1- j))::OL p s fuel most out (st++(kids p q).reverse.take j) ((q::junk).drop j),fr.get t.1=t.2
theorem Ni {p:bC} {s:List Int} {fuel:Int} {most:Nat} (iF:jz p) (hp:bw p=true) (hs:s.length≤2^40) (AK:∀n∈s,jR n) (hm:most≤16384):
 mf E O 39 [.agg (aI p),pi fuel,lG s,pi most] [] (y3 p fuel s most):=by
 refine mf.body (F:=Td) rfl rfl rfl ?_;have hw:=qZ hp;simp (maxSteps:=9^7)-implicitDefEqProofs+contextual [-getElem?_pos,aqF,Td,aI];refine tm (Oo p s fuel most) (jY [[]]) (dt (h2:=OH p s [] [[]] []) [0,9,1] (OL p s fuel most [] [[]] []) ?_ ?_ ?_ ?_ ?_ ?_) ⟨[],[],[[]],[],rfl,?_,aq8 _,?_,rfl,LP.nil rfl,rfl,by simp [my],by simp [my],?_⟩ ?_
 ·simp [OH,OL,aI,jA]
 iterate 2· simp
 ·intro b hb;omega
 iterate 2· simp (maxDischargeDepth:=8)-implicitDefEqProofs [aF,aqF,OH,OL,aI,jA]
 ·intro i q h
  cases i with
  |zero=>simp at h;subst h;simp
  |succ i=>simp at h
 ·cases h:under p fuel s []<;>simp [rest,jX,jK,h]
 ·exact wF
 rintro k fr h ⟨pos,out,lH,junk,rfl,pU,IG,Q,h0,L,h2,n0,P,S⟩;simp only [OL,aqY,arh,or_false,forall_eq_or_imp,forall_eq]at S;obtain ⟨A,f,d,m,f10,f11⟩:=S;have R:=uL pU;rcases List.eq_nil_or_concat lH with rfl|⟨st,q,rfl⟩
 ·have e:ofM p fuel s most=some out:=by
   unfold ofM;rw [Q];simp [rest,jX,IG]
  simp (maxSteps:=9^7)-implicitDefEqProofs+contextual [-getElem?_pos,aqF,A,f,d,m,f10,f11];refine ⟨_,_,uG.refl _ _ _,?_⟩;unfold y3;rw [e];exact ⟨rfl,pos,L⟩
 rw [List.concat_eq_append]at*;have hq:=pU st.length q (by simp);have Yn:=hq.2.1;simp only [aqP,List.length_singleton]at R;have w1:IntKind.i64.wrap (st.length:Int)=st.length:=ai ⟨by omega,by omega⟩
 obtain ⟨T,hT⟩:∃T:gA,T=⟨s,q⟩:=⟨_,rfl⟩
 have wu:wu T:=by subst hT;exact ⟨by show s.length<_;omega,by show q.length<_;omega,AK,fun n hn=>by have:=hq.2.2 n hn;exact ⟨by omega,by omega⟩⟩
 have hg:(jA (st++[q])++jA junk)[st.length]?=some (lG q):=by rw [aqT (by simp),Cv];simp
 have ab:bz (st.length+1) (st.length+1+junk.length) none (some (.int .i64 (st.length:Int))) none=some (0,st.length,st.length+1+junk.length):=q6 (by omega);have c1:0<st.length+1+junk.length∧(st.length:Int)<st.length+1:=by omega
 have c2:st.length≤st.length+1+junk.length:=by omega
 have c3:st.length+(junk.length+1)=st.length+1+junk.length:=by omega
 have Bb:=(aqM.1 h0).1;have Bv:=(aqM.1 h2).1;have cl:(jA (st++[q])++jA junk).length=st.length+1+junk.length:=by simp
 simp (maxSteps:=9^7)-implicitDefEqProofs+contextual [-getElem?_pos,aqF,A,f,d,m,f10,f11,w1,hg,ab,c1,c2,h0,h2,cl,aI];have I:∀Y:PH,(h++Y)[0]?=some (.cells 3 (aI p)):=fun Y=>by rw [aqT Bb];exact h0
 have EF:=(aqM.1 L.top).1;have B:∀Y:PH,(h++Y)[1]?=some (.cells 2 (oy pos (rk s out))):=fun Y=>by rw [aqT EF];exact L.top
 have H:∀Y:PH,(h++Y)[2]?=some (.cells 1 (jA (st++[q])++jA junk)):=fun Y=>by rw [aqT Bv];exact h2
 have Yx:∀Y:PH,(h++Y)[h.length]?=Y[0]?:=fun Y=>by rw [aqX (aqK _),Nat.sub_self]
 have o:∀(Y:PH) (k:Nat),(h++Y)[h.length+k]?=Y[k]?:=fun Y k=>by rw [aqX (by omega)];congr 1;omega
 subst hT;refine bP (AB (fuel:=fuel) iF wu) ?_ ?_ ?_
 iterate 2· simp (maxDischargeDepth:=8)-implicitDefEqProofs [-getElem?_pos,aqF,iA,aI]
 have hE:AD p fuel s q=(lz p fuel ⟨s,q⟩).en:=rfl;by_cases u:(lz p fuel ⟨s,q⟩).en=4
 ·by_cases hl:q.length=16
  ·have e:ofM p fuel s most=none:=by
    unfold ofM;rw [Q,fB,tz (by rw [hE];exact u) (by omega)];rfl
   simp (maxSteps:=9^7)-implicitDefEqProofs+contextual [-getElem?_pos,aqF,kY,u,hl,I,B,H,Yx,o];refine ⟨_,_,uG.refl _ _ _,?_⟩;unfold y3;rw [e]
  ·have ahz:¬ (q.length:Int)=16:=by omega
   have hN:=qp hp;have nv:=jH hw;have hNi:(2:Int)^p.w.toNat=(aY p:Int):=by simp [aY]
   have w4:IntKind.i64.wrap ((aY p:Int)- 1)=(aY p:Int)- 1:=ai ⟨by omega,by omega⟩;have Yo:=uy hw;rw [hNi]at Yo;have g0:(aI p)[0]?=some (pi p.w):=rfl;simp (maxSteps:=9^7)-implicitDefEqProofs+contextual [-getElem?_pos,aqF,kY,u,ahz,m,Yo,w4,g0,aI,I,B,H,Yx,o];refine jr (Wo p s fuel most out st q junk pos) (aY p) ?_ ?_
   ·refine ⟨?_,?_,?_,?_⟩
    ·exact I _
    ·exact L.nc (by rw [B,L.top]) fun x c=>by rw [aqT (L.lt x c)]
    ·rw [H];simp [eh,jA]
    ·intro t r
     simp only [OL,aqY,arh,or_false]at r;rcases r with rfl|rfl|rfl|rfl|rfl|rfl|rfl|rfl<;>simp [A,f,d,m,f10,c3]
   clear A f d m f10 f11 I B H Yx o;rintro j fr g hj ⟨g0,M,Z,S⟩;simp only [OL,aqY,arh,or_false,forall_eq_or_imp,forall_eq]at S;obtain ⟨f12,f15,A,f,d,m,f10,f11⟩:=S
   obtain ⟨a,ha⟩:∃a:Int,(aY p:Int)- 1- j=a:=⟨_,rfl⟩
   rw [ha]at f15
   have zi:(st++(kids p q).reverse.take j).length≤5000:=by
    have:(kids p q).length=aY p:=by simp [kids]
    simp;omega
   have gl0:=(aqM.1 g0).1;have gl1:=(aqM.1 M.top).1;have gl2:=(aqM.1 Z).1;by_cases Yp:j<aY p
   ·have FD:0≤a:=by omega
    have w5:IntKind.i64.wrap (a- 1)=a- 1:=ai ⟨by omega,by omega⟩;have Yq:=uM (q:=q) Yp;have ha2:(((aY p- 1- j:Nat):Int))=a:=by omega
    rw [ha2]at Yq
    obtain ⟨K,hK⟩:∃K,st++(kids p q).reverse.take j=K:=⟨_,rfl⟩
    obtain ⟨J,hJ⟩:∃J,(q::junk).drop j=J:=⟨_,rfl⟩
    have U:st++(kids p q).reverse.take (j+1)=K++[q++[a]]:=by rw [Yq,←aq5,hK]
    have V:(q::junk).drop (j+1)=J.drop 1:=by rw [←hJ,List.drop_drop]
    rw [hK]at zi;rw [hK,hJ]at f11 Z;have bp0:∀Y:PH,(g++Y)[0]?=some (.cells 3 (aI p)):=fun Y=>by rw [aqT gl0];exact g0
    have bp1:∀Y:PH,(g++Y)[1]?=some (.cells 2 (oy pos (rk s out))):=fun Y=>by rw [aqT gl1];exact M.top
    have bp2:∀Y:PH,(g++Y)[2]?=some (.cells 1 (jA K++jA J)):=fun Y=>by rw [aqT gl2];exact Z
    have OZ:∀Y:PH,(g++Y)[g.length]?=Y[0]?:=fun Y=>by rw [aqX (aqK _),Nat.sub_self]
    have Yy:∀(Y:PH) (k:Nat),(g++Y)[g.length+k]?=Y[k]?:=fun Y k=>by rw [aqX (by omega)];congr 1;omega
    simp (maxSteps:=9^7)-implicitDefEqProofs+contextual [-getElem?_pos,aqF,f12,f15,f11,FD];refine nY (mV (l:=q) (by omega)) ?_ ?_ ?_
    iterate 2· simp (maxDischargeDepth:=8)-implicitDefEqProofs [-getElem?_pos,aqF]
    simp (maxSteps:=9^7)-implicitDefEqProofs+contextual [-getElem?_pos,aqF,f15,OZ,Yy];apply fi
    iterate 9· first|rfl|omega|(simp-implicitDefEqProofs [-getElem?_pos,aqF,OZ,Yy];first|done|rfl|omega)
    simp (maxSteps:=9^7)-implicitDefEqProofs+contextual [-getElem?_pos,aqF,OZ,Yy];refine Cw (xs:=jA K) (ys:=jA J) (v:=.sl 1 g.length 0 (q.length+1) (q.length+1)) (bp2 _) (by simp) (by simp) rfl (by simp [gJ,Yy]) (by simp [gI,Yy]) (by simp;omega) ?_;simp (maxSteps:=9^7)-implicitDefEqProofs+contextual [-getElem?_pos,aqF,f15,w5];have e1:(aY p:Int)- 1- ((j+1:Nat):Int)=a- 1:=by omega
    have W:=(AJ (p:=p) (s:=s) (fuel:=fuel) (most:=most) (out:=out) (st:=st) (q:=q) (junk:=junk) (j:=j+1)).2;rw [U,V,e1]at W
    obtain ⟨C,hC⟩:∃C:PH,[PB.cells 1 (q.map pi++[pi a]),PB.cells 1 [pi a],PB.cells 1 [PV.sl 1 g.length 0 (q.length+1) (q.length+1)]]=C:=⟨_,rfl⟩
    have hC0:C[0]?=some (.cells 1 (q.map pi++[pi a])):=by rw [←hC];rfl
    rw [hC]
    obtain ⟨SC,D⟩:∃SC,jA K++PV.sl 1 g.length 0 (q.length+1) (q.length+1)::jA J.tail=SC:=⟨_,rfl⟩
    have ahB:SC.length=K.length+1+(J.length- 1):=by rw [←D];simp;omega
    rw [D]
    obtain ⟨G,X⟩:∃G:PH,(g++C).set 2 (.cells 1 SC)=G:=⟨_,rfl⟩
    have G0:G[0]?=some (.cells 3 (aI p)):=by rw [←X,aq4 (by omega)];exact bp0 _
    have GL:LP G 1 pos (rk s out):=by
     rw [←X];refine M.nc (by rw [aq4 (by omega),bp1,M.top]) fun x c=>?_
     rw [aq4 (fun z=>P (by rw [z];exact c)),aqT (M.lt x c)]
    have G2:G[2]?=some (.cells 1 SC):=by rw [←X,ari (by first|(simp;done)|(simp;omega))]
    have Gn:G[g.length]?=some (.cells 1 ((q++[a]).map pi)):=by
     rw [←X,aq4 (by omega),OZ,hC0];simp
    rw [X]
    obtain ⟨SC',SK⟩:∃SC',jA (K++[q++[a]])++jA (J.drop 1)=SC':=⟨_,rfl⟩
    have Yz:SC'.length=K.length+1+(J.length- 1):=by rw [←SK];simp
    have hSS:∀H2:PH,lA (· ∈[g.length]) id G H2 SC SC':=fun H2=>by
     rw [←D,←SK,eh,aq5];refine (wE (by simp)).2 ⟨(MC (l:=q++[a]) (by simp) (by simp) (by rw [Gn];exact ⟨rfl,rfl⟩)).2 trivial,?_⟩;rw [List.drop_one];exact fj (by simp)
    obtain ⟨N2,N⟩:∃N2,JI G (0::1::my pos) SC'=N2:=⟨_,rfl⟩
    have k0:N2[0]?=some (.cells 3 (aI p)):=by rw [←N,uT (by simp) (by omega)];exact G0
    have k1:N2[1]?=some (.cells 2 (oy pos (rk s out))):=by rw [←N,uT (by simp) (by omega)];exact GL.top
    have k2:N2[2]?=some (.cells 1 SC'):=by rw [←N];exact OX G2
    have kL:LP N2 1 pos (rk s out):=by
     refine GL.nc (by rw [k1,GL.top]) fun x c=>?_
     rw [←N,uT (by simp [c]) (fun z=>P (by rw [←z];exact c))]
    have hG1:=GL.top
    refine .rj Yp (SH [g.length] (l:=(12,lG q)::(15,pi (a- 1))::OL p s fuel most out (K++[q++[a]]) (J.drop 1)) (SC':=SC') G0 GL G2 n0 P (fun b hb=>by
     simp at hb;subst hb
     exact ⟨by omega,fun hm=>Nat.lt_irrefl _ (M.lt _ hm)⟩) (hSS _) ?_) ?_
    ·rw [N]
     simp (maxDischargeDepth:=8)-implicitDefEqProofs [aF,aqF,OL,A,f,d,m,f10,f12,G0,hG1,G2,k0,k1,k2,ahB,Yz]
    ·rw [N]
     unfold Wo;rw [U,V,e1,SK];exact ⟨k0,kL,k2,W⟩
   ·obtain rfl:j=aY p:=by omega
    have cN:¬ 0≤a:=by omega
    have ahk:(kids p q).length=aY p:=by simp [kids]
    rw [pH]at f11 Z;simp (maxSteps:=9^7)-implicitDefEqProofs+contextual [-getElem?_pos,aqF,f15,cN];refine .of ?_ ⟨pos,out,st++(kids p q).reverse,(q::junk).drop (aY p),rfl,tC hN pU (by omega),IG,?_,g0,M,Z,n0,P,?_⟩
    ·rw [fC,fC]
     have:=uN (q:=q) hN (by omega);simp only [jY,List.map_cons,List.map_nil,List.sum_cons,List.sum_nil,Nat.add_zero]at*;omega
    ·rw [Q,fB,uK,tA (by rw [hE];exact u) (by omega)]
    ·intro t r
     simp only [OL,aqY,arh,or_false]at r;rcases r with rfl|rfl|rfl|rfl|rfl|rfl<;>simp [A,f,d,m,f10,f11]
 ·by_cases ho:out.length=most
  ·have e:ofM p fuel s most=none:=by
    unfold ofM;rw [Q,fB,mW (by rw [hE];exact u)];cases rest p fuel s st<;>simp [ho]
   simp (maxSteps:=9^7)-implicitDefEqProofs+contextual [-getElem?_pos,aqF,kY,u,ho,d,f10,I,B,H,Yx,o];refine ⟨_,_,uG.refl _ _ _,?_⟩;unfold y3;rw [e]
  ·have w3:¬ (out.length:Int)=(most:Int):=by omega
   simp (maxSteps:=9^7)-implicitDefEqProofs+contextual [-getElem?_pos,aqF,kY,u,f,d,f10,w3,I,B,H,Yx,o];refine nY (mV (l:=s) hs) ?_ ?_ ?_
   iterate 2· simp (maxDischargeDepth:=8)-implicitDefEqProofs [-getElem?_pos,aqF]
   simp (maxSteps:=9^7)-implicitDefEqProofs+contextual [-getElem?_pos,aqF,f];refine nY (mV (l:=q) (by omega)) ?_ ?_ ?_
   iterate 2· simp (maxDischargeDepth:=8)-implicitDefEqProofs [-getElem?_pos,aqF]
   have pI:(oy pos (rk s out)).length=out.length*2:=by rw [mY L.len];simp [rk]
   simp (maxSteps:=9^7)-implicitDefEqProofs+contextual [-getElem?_pos,aqF,f10,B,o];apply fi
   iterate 9· first|rfl|omega|(simp-implicitDefEqProofs [-getElem?_pos,aqF,B,pI,o];first|done|rfl|omega)
   simp (maxSteps:=9^7)-implicitDefEqProofs+contextual [-getElem?_pos,aqF];have e2:rk s (out++[q])=rk s out++[(s,q)]:=by simp [rk]
   have e3:∀x y,my (pos++[(x,y)])=my pos++[x,y]:=fun x y=>by simp [my]
   refine .of ?_ ⟨pos++[(h.length+1,h.length+2)],out++[q],st,q::junk,rfl,qo pU,?_,?_,?_,?_,?_,?_,?_,?_⟩
   ·rw [fC]
    have:0<jY [q]:=by simp [jY];exact Nat.pow_pos (by omega)
    omega
   ·simp;omega
   ·rw [Q,fB,mW (by rw [hE];exact u)]
    cases rest p fuel s st<;>simp
   ·rw [aq4 (by omega)]
    exact I _
   ·rw [e2]
    refine L.new (fun x c=>?_) ?_ ?_ ?_ (aq7 _) (by simp) (by simp)
    ·rw [aq4 (fun z=>L.off (by rw [z];exact c)),aqT (L.lt x c)]
    ·rw [ari (by first|(simp;done)|(simp;omega))]
    ·rw [aq4 (by show 1≠h.length+1;omega)]
     exact o _ 1
    ·rw [aq4 (by show 1≠h.length+2;omega)]
     exact o _ 2
   ·rw [aq4 (by omega),H]
    simp [eh,jA]
   ·rw [e3]
    simp [n0]
   ·rw [e3]
    simp only [aq0,aqY,arh,or_false,not_or];exact ⟨P,by omega,by omega⟩
   ·intro t r
    simp only [OL,aqY,arh,or_false]at r;rcases r with rfl|rfl|rfl|rfl|rfl|rfl<;>simp [A,f,d,m,f10,c3]
open Go Go.RowKit
theorem C2 (a:Nat→Nat):∀(pos:List (Nat×Nat)) (R:L2),jW a (oy pos R)=oy (pos.map fun q=>(a q.1,a q.2)) R
 |[],R=>by simp [oy,jW]
 |q::pos,[]=>by simp [oy,jW]
 |q::pos,r::R=>by
  have:=C2 a pos R;simp only [oy,List.map_cons,List.zipWith_cons_cons,List.flatten_cons,List.cons_append,List.nil_append,jW,zl]at*;rw [this]
theorem YA (m i:Nat):lC [] m i=m+i:=by simp [lC]
theorem rS (m:Nat):∀pos:List (Nat×Nat),my (pos.map fun q=>(m+q.1,m+q.2))=(my pos).map (m+·)
 |[]=>rfl
 |q::pos=>by
  have:=rS m pos;simp only [my,List.map_cons,List.flatMap_cons,List.map_append,List.map_nil]at*;rw [this]
theorem LP.shift {h hs:PH} {b:Nat} {pos:List (Nat×Nat)} {R:L2} (L:LP hs b pos R):LP (h++hs.map (ue (lC [] h.length))) (h.length+b) (pos.map fun q=>(h.length+q.1,h.length+q.2)) R:=by
 have l:(fun q:Nat×Nat=>(lC [] h.length q.1,lC [] h.length q.2))=fun q=>(h.length+q.1,h.length+q.2):=by
  funext q;rw [YA,YA]
 have a:∀i,(h++hs.map (ue (lC [] h.length)))[h.length+i]?=(hs[i]?).map (ue (lC [] h.length)):=fun i=>by
  rw [aqX (by omega),ara];congr 2;omega
 refine ⟨?_,by simp [L.len],?_,?_,fun k q r d h2=>?_⟩
 ·rw [a,L.top]
  simp only [Option.map_some,ue];rw [C2,l]
 ·rw [rS]
  exact List.Pairwise.map _ (fun x y (c:x≠y) (e:h.length+x=h.length+y)=>c (by omega)) L.nd
 ·rw [rS]
  intro n;obtain ⟨x,j,e⟩:=ard.1 n;have:x=b:=by omega
  exact L.off (this▸j)
 ·rw [ara]at d
  obtain ⟨p,m,rfl⟩:=aqQ.1 d;obtain ⟨g,f⟩:=L.Jg k p r m h2;rw [a,a,g,f];simp only [Option.map_some,ue];rw [gZ _ (lb _),gZ _ (lb _)];exact ⟨rfl,rfl⟩
def mz (p:bC) (fuel:Int) (s:List Int) (r:PV) (h:PH):Prop:=
 if cM p fuel≠0 then r= .fF [iy,pi (cM p fuel)]else if bB p.w p.vars s=false then r= .fF [iy,pi 1]else match ofM p fuel s 16384 with
  |none=>r= .fF [iy,pi 5]
  |some out=>r= .fF [.sl 2 2 0 out.length out.length,pi 0]∧∃pos,LP h 2 pos (out.map fun q=>(s,q))
theorem Nk {p:bC} {fuel:Int} {s:List Int} (e:jz p) (hs:s.length<2^60) (g:∀n∈s,jR n):mf E O 12 [.agg (aI p),pi fuel,lG s] [] (mz p fuel s):=by
 refine mf.body (F:=a12) rfl rfl rfl ?_;have i:wu ⟨s,[]⟩:=Cz hs g;simp (maxSteps:=9^7)-implicitDefEqProofs+contextual [-getElem?_pos,aqF,a12];refine bP (pG e) ?_ ?_ ?_
 iterate 2· simp (maxDischargeDepth:=8)-implicitDefEqProofs [-getElem?_pos,aqF]
 cases h:bw p with
 |false=>
  simp (maxSteps:=9^7)-implicitDefEqProofs+contextual [-getElem?_pos,aqF,h];refine ⟨_,_,uG.refl _ _ _,?_⟩;simp [mz,cM,h]
 |true=>
  by_cases c:fuel<0
  ·simp (maxSteps:=9^7)-implicitDefEqProofs [-getElem?_pos,aqF,h,c]
   refine ⟨_,_,uG.refl _ _ _,?_⟩;simp [mz,cM,h,c]
  ·by_cases h2:4096<fuel
   ·simp (maxSteps:=9^7)-implicitDefEqProofs [-getElem?_pos,aqF,h,c,h2]
    refine ⟨_,_,uG.refl _ _ _,?_⟩;simp [mz,cM,h,c,h2]
   ·have f:cM p fuel=0:=by simp [cM,h];omega
    simp (maxSteps:=9^7)-implicitDefEqProofs [-getElem?_pos,aqF,h,c,h2];refine qn [] (yI e i) ?_ ?_
    ·simp (maxDischargeDepth:=8)-implicitDefEqProofs [iA]
    have j:gC p 0 ⟨s,[]⟩=if bB p.w p.vars s=false then 50 else 0:=by simp [gC,h,Cy]
    rw [j]
    cases b:bB p.w p.vars s with
    |false=>
     simp (maxSteps:=9^7)-implicitDefEqProofs [-getElem?_pos,aqF,b,cG];refine ⟨_,_,uG.refl _ _ _,?_⟩;simp [mz,f,b]
    |true=>
     simp (maxSteps:=9^7)-implicitDefEqProofs [-getElem?_pos,aqF,b,cG];have o:=mn h b;refine yE [] [] (Ni (fuel:=fuel) (most:=16384) e h (s:=s) (by omega) g (aqK _)) ?_ ?_ ?_ ?_ ?_ ?_ ?_
     iterate 6· first|rfl|simp (maxDischargeDepth:=8)-implicitDefEqProofs [-getElem?_pos,aqF,aF,aI]
     rintro m q a _;unfold y3 at a
     cases d:ofM p fuel s 16384 with
     |none=>
      rw [d]at a;simp only at a;subst a;simp (maxSteps:=9^7)-implicitDefEqProofs [-getElem?_pos,aqF];refine ⟨_,_,uG.refl _ _ _,?_⟩;simp [mz,f,b,d]
     |some l=>
      rw [d]at a;simp only at a;obtain ⟨rfl,pos,L⟩:=a;simp (maxSteps:=9^7)-implicitDefEqProofs [-getElem?_pos,aqF];refine ⟨_,_,uG.refl _ _ _,?_⟩;have k:=L.shift (h:=cG [PB.cells 3 (aI p)] []);simp only [mz,f,b,d];rw [if_neg (by simp),if_neg (by simp)];exact ⟨by first|rfl|trivial,_,k⟩
end P
set_option maxHeartbeats 2000000
namespace P
open Go Go.RowKit
structure OS (p:bC) (s:List Int) (g:PH) (pos:List (Nat×Nat)) (R:L2) (N:Nat):Prop where
 h0:g[0]?=some (.cells 3 (aI p))
 h1:g[1]?=some (.cells 1 (s.map pi))
 h2:g[2]?=some (.cells 3 (aI p))
 lp:LP g 5 pos R
 n:∀x∈my pos,3≤x
 len:R.length=N
 bd:∀r∈R,r.1.length≤2^30∧r.2.length≤2^30
theorem OS.wr1 {p:bC} {s:List Int} {g:PH} {pos:List (Nat×Nat)} {R:L2} {N:Nat} (H:OS p s g pos R N) {k:Nat} {q:Nat×Nat} {r:List Int×List Int} {a:List Int} (c:pos[k]?=some q) (b:R[k]?=some r) (d:a.length=r.1.length):OS p s (g.set q.1 (.cells 1 (a.map pi))) pos (R.set k (a,r.2)) N:=by
 have f:=H.n _ (gP c).1;refine ⟨by rw [aq4 (by omega)];exact H.h0,by rw [aq4 (by omega)];exact H.h1,by rw [aq4 (by omega)];exact H.h2,H.lp.wr1 c b d,H.n,by simp [H.len],fun x e=>?_⟩;rcases List.mem_or_eq_of_mem_set e with z|rfl
 ·exact H.bd x z
 ·have:=H.bd r (aqL b)
  exact ⟨by simp only [d];exact this.1,this.2⟩
theorem OS.wr2 {p:bC} {s:List Int} {g:PH} {pos:List (Nat×Nat)} {R:L2} {N:Nat} (H:OS p s g pos R N) {k:Nat} {q:Nat×Nat} {r:List Int×List Int} {a:List Int} (c:pos[k]?=some q) (b:R[k]?=some r) (d:a.length=r.2.length):OS p s (g.set q.2 (.cells 1 (a.map pi))) pos (R.set k (r.1,a)) N:=by
 have f:=H.n _ (gP c).2;refine ⟨by rw [aq4 (by omega)];exact H.h0,by rw [aq4 (by omega)];exact H.h1,by rw [aq4 (by omega)];exact H.h2,H.lp.wr2 c b d,H.n,by simp [H.len],fun x e=>?_⟩;rcases List.mem_or_eq_of_mem_set e with z|rfl
 ·exact H.bd x z
 ·have:=H.bd r (aqL b)
  exact ⟨this.1,by simp only [d];exact this.2⟩
theorem OS.more {p:bC} {s:List Int} {g:PH} {pos:List (Nat×Nat)} {R:L2} {N:Nat} (H:OS p s g pos R N) (C:PH):OS p s (g++C) pos R N:=by
 have d:=(aqM.1 H.h0).1;have c:=(aqM.1 H.h1).1;have b:=(aqM.1 H.h2).1;have a:=(aqM.1 H.lp.top).1;exact ⟨by rw [aqT d];exact H.h0,by rw [aqT c];exact H.h1,by rw [aqT b];exact H.h2,H.lp.nc (aqT a) (fun x e=>aqT (H.lp.lt x e)),H.n,H.len,H.bd⟩
def FR (s:List Int) (N:Nat) (fr:PF):Prop:=fr.get 2=lG s∧fr.get 3= .ref 0 0 3∧fr.get 7= .ref 2 0 3∧fr.get 8= .sl 1 1 0 s.length s.length∧fr.get 9= .sl 2 5 0 N N
def Mk (i:Nat) (R:L2):Prop:=∀(j:Nat) (r:List Int×List Int),R[j]?=some r→j<i→∀x,x∈r.1∨x∈r.2→x=-1- (j:Int)
theorem Mk.set {i:Nat} {R:L2} (h:Mk i R) (r:List Int×List Int):Mk i (R.set i r):=fun j y e a=>by
 rw [aq4 (by omega)]at e;exact h j y e a
theorem Mk.succ {i:Nat} {R:L2} (h:Mk i R) {r:List Int×List Int} (b:R[i]?=some r) (a:∀x,x∈r.1∨x∈r.2→x=-1- (i:Int)):Mk (i+1) R:=fun j y e c=>by
 by_cases z:j=i
 ·subst z
  rw [b]at e;cases e;exact a
 ·exact h j y e (by omega)
def I1 (p:bC) (s:List Int) (pos:List (Nat×Nat)) (N i:Nat) (fr:PF) (g:PH):Prop:=∃R,OS p s g pos R N∧Mk i R∧FR s N fr∧fr.get 65=pi N∧fr.get 66=pi i
def J1 (p:bC) (s:List Int) (pos:List (Nat×Nat)) (N i n1 k:Nat) (fr:PF) (g:PH):Prop:=∃R r,OS p s g pos R N∧Mk i R∧R[i]?=some r∧r.1.length=n1∧(∀m x,m<k→r.1[m]?=some x→x=-1- (i:Int))∧FR s N fr∧fr.get 65=pi N∧fr.get 66=pi i∧fr.get 11=pi i∧fr.get 74=pi n1∧fr.get 75=pi k
def J2 (p:bC) (s:List Int) (pos:List (Nat×Nat)) (N i n2 k:Nat) (fr:PF) (g:PH):Prop:=∃R r,OS p s g pos R N∧Mk i R∧R[i]?=some r∧r.2.length=n2∧(∀x∈r.1,x=-1- (i:Int))∧(∀m x,m<k→r.2[m]?=some x→x=-1- (i:Int))∧FR s N fr∧fr.get 65=pi N∧fr.get 66=pi i∧fr.get 11=pi i∧fr.get 93=pi n2∧fr.get 94=pi k
def K1 (p:bC) (s:List Int) (pos:List (Nat×Nat)) (N j:Nat) (fr:PF) (g:PH):Prop:=∃R,OS p s g pos R N∧Mk N R∧FR s N fr∧fr.get 109=pi N∧fr.get 110=pi j
def K2 (p:bC) (s:List Int) (pos:List (Nat×Nat)) (N j c t m:Nat) (fr:PF) (g:PH):Prop:=∃R r,OS p s g pos R N∧Mk N R∧R[j]?=some r∧r.1.length+r.2.length=t∧g[c]?=some (.cells 1 ((r.1++r.2).map pi))∧FR s N fr∧fr.get 109=pi N∧fr.get 110=pi j∧fr.get 14=pi j∧fr.get 124= .sl 1 c 0 t t∧fr.get 125=pi t∧fr.get 126=pi m
theorem uU {l:List Int} {k:Nat} {v:Int} (h:∀m x,m<k→l[m]?=some x→x=v):∀m x,m<k+1→(l.set k v)[m]?=some x→x=v:=fun m x b e=>by
 by_cases z:k=m
 ·subst z
  have a:=(aqM.1 e).1;rw [ari (by simpa using a)]at e;cases e;rfl
 ·rw [aq4 z]at e
  exact h m x (by omega) e
theorem y4 {l:List Int} {v:Int} (h:∀m x,m<l.length→l[m]?=some x→x=v):∀x∈l,x=v:=fun x b=>by
 obtain ⟨m,a⟩:=List.getElem?_of_mem b;exact h m x (aqM.1 a).1 a
theorem Em {p:bC} {fuel:Int} {s:List Int} (W:jz p) (hs:s.length<2^60) (AK:∀n∈s,jR n):
 Fz E O 7 [.agg (aI p),pi fuel,lG s] (pb true):=by
 refine Fz.body (F:=a7) rfl rfl rfl rfl ?_;have hO:=Nk (fuel:=fuel) W hs AK;have hF:=Sg (fuel:=fuel) W;have hS:=Mz (w:=p.w) (mX W) hs;have hA:=M0;simp (maxSteps:=9^7)-implicitDefEqProofs+contextual [-getElem?_pos,aqF,a7,aI];refine bP (My (l:=p.body) (m:=600) W.2.2.1 W.2.2.2 (by omega)) ?_ ?_ ?_
 iterate 2· simp (maxDischargeDepth:=8)-implicitDefEqProofs [-getElem?_pos,aqF]
 by_cases hn:au p.body≤600
 case neg=>
  simp (maxSteps:=9^7)-implicitDefEqProofs [-getElem?_pos,aqF,hn];refine bP (hA) ?_ ?_ ?_
  iterate 2· simp (maxDischargeDepth:=8)-implicitDefEqProofs [-getElem?_pos,aqF]
  simp (maxSteps:=9^7)-implicitDefEqProofs [-getElem?_pos,aqF]
 simp (maxSteps:=9^7)-implicitDefEqProofs [-getElem?_pos,aqF,hn,aI];refine bP (hF) ?_ ?_ ?_
 iterate 2· simp (maxDischargeDepth:=8)-implicitDefEqProofs [-getElem?_pos,aqF,aI]
 by_cases hf:cM p fuel=0
 case neg=>
  simp (maxSteps:=9^7)-implicitDefEqProofs [-getElem?_pos,aqF,hf];refine bP (hA) ?_ ?_ ?_
  iterate 2· simp (maxDischargeDepth:=8)-implicitDefEqProofs [-getElem?_pos,aqF]
  simp (maxSteps:=9^7)-implicitDefEqProofs [-getElem?_pos,aqF]
 rw [hf];simp (maxSteps:=9^7)-implicitDefEqProofs [-getElem?_pos,aqF,aI];refine bP (hS) ?_ ?_ ?_
 iterate 2· simp (maxDischargeDepth:=8)-implicitDefEqProofs [-getElem?_pos,aqF]
 cases gv:bB p.w p.vars s with
 |false=>
  simp (maxSteps:=9^7)-implicitDefEqProofs [-getElem?_pos,aqF];refine bP (hA) ?_ ?_ ?_
  iterate 2· simp (maxDischargeDepth:=8)-implicitDefEqProofs [-getElem?_pos,aqF]
  simp (maxSteps:=9^7)-implicitDefEqProofs [-getElem?_pos,aqF]
 |true=>
  have hp:=I7 hf;have vU:=mn hp gv;have lT:p.vars.length≤18:=(aP (show aA p.w p.vars=true by unfold bw at hp;simp only [aqJ]at hp;exact hp.1)).2.2.2;simp (maxSteps:=9^7)-implicitDefEqProofs [-getElem?_pos,aqF,aI];refine bP (Nh W (by omega) (by omega)) ?_ ?_ ?_
  iterate 2· simp (maxDischargeDepth:=8)-implicitDefEqProofs [-getElem?_pos,aqF,aI]
  simp (maxSteps:=9^7)-implicitDefEqProofs [-getElem?_pos,aqF,aI];refine XW (IC (l:=s) (by omega)) ?_ ?_ ?_
  iterate 2· simp (maxDischargeDepth:=8)-implicitDefEqProofs [-getElem?_pos,aqF]
  simp (maxSteps:=9^7)-implicitDefEqProofs [-getElem?_pos,aqF,aI];refine yE [] [] hO ?_ ?_ ?_ ?_ ?_ ?_ ?_
  iterate 6· first|rfl|simp (maxDischargeDepth:=8)-implicitDefEqProofs [-getElem?_pos,aqF,aF,aI]
  rintro r0 gM S _;unfold mz at S;rw [if_neg (by simp [hf]),if_neg (by simp [gv])]at S
  cases hm:ofM p fuel s 16384 with
  |none=>
   rw [hm]at S;simp only at S;subst S;simp (maxSteps:=9^7)-implicitDefEqProofs [-getElem?_pos,aqF];refine bP (hA) ?_ ?_ ?_
   iterate 2· simp (maxDischargeDepth:=8)-implicitDefEqProofs [-getElem?_pos,aqF]
   simp (maxSteps:=9^7)-implicitDefEqProofs [-getElem?_pos,aqF]
  |some out=>
   rw [hm]at S;simp only at S;obtain ⟨rfl,pos,L⟩:=S;by_cases YB:(300:Int)<out.length
   ·simp (maxSteps:=9^7)-implicitDefEqProofs [-getElem?_pos,aqF,YB]
    refine bP (hA) ?_ ?_ ?_
    iterate 2· simp (maxDischargeDepth:=8)-implicitDefEqProofs [-getElem?_pos,aqF]
    simp (maxSteps:=9^7)-implicitDefEqProofs [-getElem?_pos,aqF]
   simp (maxSteps:=9^7)-implicitDefEqProofs [-getElem?_pos,aqF,YB]
   obtain ⟨g,hg⟩:∃g:PH,cG [PB.cells 3 [pi p.w,gk p.vars,.fs 5 (bW p.body)],.cells 1 (s.map pi),.cells 3 [pi p.w,gk p.vars,.fs 5 (bW p.body)]] []++gM.map (ue (lC [] (cG [PB.cells 3 [pi p.w,gk p.vars,.fs 5 (bW p.body)],.cells 1 (s.map pi),.cells 3 [pi p.w,gk p.vars,.fs 5 (bW p.body)]] []).length))=g:=⟨_,rfl⟩
   have Ey:∀q∈out,q.length≤16:=fun q A=>by
    have:=Na hp gv hm ⟨s,q⟩ (by simp [qq];exact A);simp only [jg,aqJ,aqS]at this;exact this.2.1
   have K:OS p s g (pos.map fun q=>(3+q.1,3+q.2)) (out.map fun q=>(s,q)) out.length:=by
    have hL:=L.shift (h:=cG [PB.cells 3 [pi p.w,gk p.vars,.fs 5 (bW p.body)],.cells 1 (s.map pi),.cells 3 [pi p.w,gk p.vars,.fs 5 (bW p.body)]] []);rw [hg]at hL;refine ⟨by rw [←hg];rfl,by rw [←hg];rfl,by rw [←hg];rfl,hL,fun x X=>?_,by simp,fun r b=>?_⟩
    ·rw [rS]at X
     obtain ⟨y,_,rfl⟩:=ard.1 X;omega
    ·obtain ⟨q,A,rfl⟩:=ard.1 b
     have:=Ey q A;exact ⟨by show s.length≤_;omega,by show q.length≤_;omega⟩
   rw [hg];clear hg;generalize (out.map fun q=>(s,q))=R0 at K;generalize hN:out.length=N at K⊢;generalize (pos.map fun q=>(3+q.1,3+q.2))=Q at K;have hN3:N≤300:=by omega
   refine jr (I1 p s Q N) N ?_ ?_
   ·exact ⟨R0,K,fun j r _ hj=>absurd hj (aq6 _),⟨by simp,by simp,by simp,by simp,by simp⟩,by simp,by simp⟩
   rintro i T g2 hi ⟨R,H,e,⟨v,u,o,f,d⟩,f65,f66⟩;by_cases I:i<N
   ·have w5:IntKind.i64.wrap ((i:Int)+1)=((i+1:Nat):Int):=ai ⟨by omega,by omega⟩
    have wv:IntKind.i64.wrap (-1- (i:Int))=-1- (i:Int):=ai ⟨by omega,by omega⟩
    obtain ⟨r,b⟩:∃r,R[i]?=some r:=⟨_,aqG (by rw [H.len];exact I)⟩
    obtain ⟨q,A,D,C,V,U,ho⟩:=H.lp.at b;have B:(oy Q R).length=N*2:=by rw [mY H.lp.len,H.len]
    have top:=H.lp.top;simp (maxSteps:=9^7)-implicitDefEqProofs [-getElem?_pos,aqF,f65,f66,d,I,top,D,B];refine ⟨by omega,?_⟩
    obtain ⟨n1,G⟩:∃n1,r.1.length=n1:=⟨_,rfl⟩
    have YC:∀z,(FR s N z∧z.get 65=pi N∧z.get 66=pi i∧z.get 11=pi i∧z.get 74=pi n1∧z.get 75=pi (0:Nat))→J1 p s Q N i n1 0 z g2:=fun z hh=>⟨R,r,H,e,b,G,fun m x hm=>absurd hm (aq6 _),hh⟩
    refine jr (J1 p s Q N i n1) n1 (YC _ ⟨⟨by simp [v],by simp [u],by simp [o],by simp [f],by simp [d]⟩,by simp [f65],by simp [f66],by simp,by simp [G],by simp⟩) ?_;have apb:n1≤2^30:=by rw [←G];exact (H.bd r (aqL b)).1
    clear YC ho G top B V U D C A b H e v u o f d f65 f66 T g2 R r q;rintro k T g3 hk ⟨R,r,H,e,b,G,hmarks,⟨v,u,o,f,d⟩,f65,f66,f11,f74,f75⟩;obtain ⟨q,A,D,C,V,U,ho⟩:=H.lp.at b;have B:(oy Q R).length=N*2:=by rw [mY H.lp.len,H.len]
    have top:=H.lp.top;have J:i<R.length:=by rw [H.len];exact I
    by_cases Hu:k<n1
    ·have w6:IntKind.i64.wrap ((k:Int)+1)=((k+1:Nat):Int):=ai ⟨by omega,by omega⟩
     have Ua:=pF (x:=pi (-1- (i:Int))) (l:=r.1.map pi) (k:=k) (by simp;omega);have hW:=H.wr1 A b (a:=r.1.set k (-1- (i:Int))) (by simp);rw [List.map_set]at hW;simp (maxSteps:=9^7)-implicitDefEqProofs [-getElem?_pos,aqF,d,f11,f74,f75,Hu,I,top,D,B,V,G,Ua,wv,w6];refine ⟨by omega,by omega,by omega,.for Hu ⟨_,_,hW,e.set _,ari J,by simp [G],uU hmarks,⟨by simp [v],by simp [u],by simp [o],by simp [f],by simp [d]⟩,by simp [f65],by simp [f66],by simp [f11],by simp [f74],by simp⟩⟩
    obtain rfl:k=n1:=by omega
    have aH:=y4 (by rw [G];exact hmarks);simp (maxSteps:=9^7)-implicitDefEqProofs [-getElem?_pos,aqF,d,f11,f74,f75,I,top,C,B];refine ⟨by omega,?_⟩
    obtain ⟨n2,P⟩:∃n2,r.2.length=n2:=⟨_,rfl⟩
    have YC:∀z,(FR s N z∧z.get 65=pi N∧z.get 66=pi i∧z.get 11=pi i∧z.get 93=pi n2∧z.get 94=pi (0:Nat))→J2 p s Q N i n2 0 z g3:=fun z hh=>⟨R,r,H,e,b,P,aH,fun m x hm=>absurd hm (aq6 _),hh⟩
    refine jr (J2 p s Q N i n2) n2 (YC _ ⟨⟨by simp [v],by simp [u],by simp [o],by simp [f],by simp [d]⟩,by simp [f65],by simp [f66],by simp [f11],by simp [P],by simp⟩) ?_;have apc:n2≤2^30:=by rw [←P];exact (H.bd r (aqL b)).2
    clear YC ho P G aH hmarks top B V U D C A b H e v u o f d f65 f66 f11 f74 f75 T g3 J;rintro k T g4 hk ⟨R,r,H,e,b,P,aH,hmarks,⟨v,u,o,f,d⟩,f65,f66,f11,f93,f94⟩;obtain ⟨q,A,D,C,V,U,ho⟩:=H.lp.at b;have B:(oy Q R).length=N*2:=by rw [mY H.lp.len,H.len]
    have top:=H.lp.top;have J:i<R.length:=by rw [H.len];exact I
    by_cases GY:k<n2
    ·have w6:IntKind.i64.wrap ((k:Int)+1)=((k+1:Nat):Int):=ai ⟨by omega,by omega⟩
     have Ua:=pF (x:=pi (-1- (i:Int))) (l:=r.2.map pi) (k:=k) (by simp;omega);have hW:=H.wr2 A b (a:=r.2.set k (-1- (i:Int))) (by simp);rw [List.map_set]at hW;simp (maxSteps:=9^7)-implicitDefEqProofs [-getElem?_pos,aqF,d,f11,f93,f94,GY,I,top,C,B,U,P,Ua,wv,w6];refine ⟨by omega,by omega,by omega,.for GY ⟨_,_,hW,e.set _,ari J,by simp [P],aH,uU hmarks,⟨by simp [v],by simp [u],by simp [o],by simp [f],by simp [d]⟩,by simp [f65],by simp [f66],by simp [f11],by simp [f93],by simp⟩⟩
    obtain rfl:k=n2:=by omega
    have oW:=y4 (by rw [P];exact hmarks);simp (maxSteps:=9^7)-implicitDefEqProofs [-getElem?_pos,aqF,f93,f94,f66,w5];exact .for I ⟨R,H,e.succ b (fun x X=>X.elim (aH x) (oW x)),⟨by simp [v],by simp [u],by simp [o],by simp [f],by simp [d]⟩,by simp [f65],by simp⟩
   ·obtain rfl:i=N:=by omega
    simp (maxSteps:=9^7)-implicitDefEqProofs [-getElem?_pos,aqF,f65,f66,d];refine jr (K1 p s Q i) i ⟨R,H,e,⟨by simp [v],by simp [u],by simp [o],by simp [f],by simp [d]⟩,by simp,by simp⟩ ?_;clear H e I v u o f d f65 f66 T R g2 hi;rintro j T g5 hj ⟨R,H,e,⟨v,u,o,f,d⟩,f109,f110⟩;by_cases Qz:j<i
    ·have w5:IntKind.i64.wrap ((j:Int)+1)=((j+1:Nat):Int):=ai ⟨by omega,by omega⟩
     have wv:IntKind.i64.wrap (-1- (j:Int))=-1- (j:Int):=ai ⟨by omega,by omega⟩
     obtain ⟨r,b⟩:∃r,R[j]?=some r:=⟨_,aqG (by rw [H.len];exact Qz)⟩
     obtain ⟨q,A,D,C,V,U,ho⟩:=H.lp.at b;have B:(oy Q R).length=i*2:=by rw [mY H.lp.len,H.len]
     have top:=H.lp.top;have hrb:=H.bd r (aqL b);have c2':∀Y:PH,(g5++Y)[q.2]?=some (.cells 1 (r.2.map pi)):=fun Y=>by rw [aqT ho.2.2.2];exact U
     have OZ:∀Y:PH,(g5++Y)[g5.length]?=Y[0]?:=fun Y=>by rw [aqX (aqK _),Nat.sub_self]
     simp (maxSteps:=9^7)-implicitDefEqProofs [-getElem?_pos,aqF,f109,f110,d,Qz,top,D,C,B];refine ⟨by omega,?_⟩;refine nY (IC (l:=r.1) (by omega)) ?_ ?_ ?_
     iterate 2· simp (maxDischargeDepth:=8)-implicitDefEqProofs [-getElem?_pos,aqF,V]
     simp (maxSteps:=9^7)-implicitDefEqProofs [-getElem?_pos,aqF];refine fi (cs:=r.1.map pi) (new:=r.2.map pi) (k:=r.2.length) (OZ _) rfl (by simp [gJ,c2',aqN]) (by simp) (by omega) (by simp) (by simp [gI,c2']) (by omega) (by omega) ?_;simp (maxSteps:=9^7)-implicitDefEqProofs [-getElem?_pos,aqF];have hd:List.take 1 (List.drop (j*2+1) (oy Q R))=[.sl 1 q.2 0 r.2.length r.2.length]:=by rw [List.take_one,List.head?_drop,C];rfl
     refine ⟨by rw [top];simp only [hd,B];simp [Ov];omega,?_⟩;have hM:=H.more [PB.cells 1 (r.1.map pi++r.2.map pi)]
     obtain ⟨c,tO⟩:∃c,g5.length=c:=⟨_,rfl⟩
     have YD:(g5++[PB.cells 1 (r.1.map pi++r.2.map pi)])[c]?=some (.cells 1 ((r.1++r.2).map pi)):=by rw [←tO,OZ,List.map_append];rfl
     obtain ⟨t,Z⟩:∃t,r.1.length+r.2.length=t:=⟨_,rfl⟩
     refine jr (K2 p s Q i j c t) t ⟨R,r,hM,e,b,Z,YD,⟨by simp [v],by simp [u],by simp [o],by simp [f],by simp [d]⟩,by simp [f109],by simp [f110],by simp,by simp [tO,Z],by simp [←Z],by simp⟩ ?_;have htb:t≤2^31:=by omega
     clear hM YD tO Z hd c2' OZ hrb top B ho D C V U A b q r H e v u o f d f109 f110 T R g5;rintro m T g6 Pt ⟨R,r,H,e,b,Z,YD,⟨v,u,o,f,d⟩,f109,f110,f14,f124,f125,f126⟩;by_cases hmt:m<t
     ·have w6:IntKind.i64.wrap ((m:Int)+1)=((m+1:Nat):Int):=ai ⟨by omega,by omega⟩
      obtain ⟨x,X⟩:∃x,(r.1++r.2)[m]?=some x:=⟨_,aqG (by simp;omega)⟩
      have hxv:x=-1- (j:Int):=e j r b Qz x (aq0.1 (aqL X));have hxi:((r.1++r.2).map pi)[m]?=some (pi (-1- (j:Int))):=by rw [ara,X,hxv];rfl
      have u9:((r.1++r.2).map pi).length=t:=by simp [Z]
      obtain ⟨M,hMM⟩:∃M,(r.1++r.2).map pi=M:=⟨_,rfl⟩
      rw [hMM]at hxi u9;have YE:=YD;rw [hMM]at YE;simp (maxSteps:=9^7)-implicitDefEqProofs [-getElem?_pos,aqF,f14,f124,f125,f126,hmt,YE,hxi,u9,wv,w6];refine ⟨by omega,.for hmt ⟨R,r,H,e,b,Z,YD,⟨by simp [v],by simp [u],by simp [o],by simp [f],by simp [d]⟩,by simp [f109],by simp [f110],by simp [f14],by simp [f124],by simp [f125],by simp⟩⟩
     ·obtain rfl:m=t:=by omega
      simp (maxSteps:=9^7)-implicitDefEqProofs [-getElem?_pos,aqF,f125,f126,f110,w5];exact .for Qz ⟨R,H,e,⟨by simp [v],by simp [u],by simp [o],by simp [f],by simp [d]⟩,by simp [f109],by simp⟩
    ·obtain rfl:j=i:=by omega
     have e0:=H.h0;have e1:=H.h1;have e2:=H.h2;simp (maxSteps:=9^7)-implicitDefEqProofs [-getElem?_pos,aqF,f109,f110,o,u,e0,e2,aI];refine bP (Nd W) ?_ ?_ ?_
     iterate 2· simp (maxDischargeDepth:=8)-implicitDefEqProofs [-getElem?_pos,aqF,aI]
     simp (maxSteps:=9^7)-implicitDefEqProofs [-getElem?_pos,aqF,f,v];refine RY (wC (l:=s) (m:=s) (by omega)) ?_ ?_ ?_
     iterate 2· simp (maxDischargeDepth:=8)-implicitDefEqProofs [-getElem?_pos,aqF,e1]
     simp (maxSteps:=9^7)-implicitDefEqProofs [-getElem?_pos,aqF];refine bP (hA) ?_ ?_ ?_
     iterate 2· simp (maxDischargeDepth:=8)-implicitDefEqProofs [-getElem?_pos,aqF]
     simp (maxSteps:=9^7)-implicitDefEqProofs [-getElem?_pos,aqF]
end P
end Go.Proofs.YtppcmpmnglaleaaGreatDoor.A
