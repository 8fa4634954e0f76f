/- Texts that stand one behind the other: T8, T9, Ta, Tb, Tc, Tcl, Td, Te, Tf, Tg, Th, Ti, Tj, Tm, Tn, Tl, To, Tp, Tq. -/
import Derived.Test.YtediokhgklkhnaaG13
set_option linter.unusedVariables false
set_option linter.unusedSimpArgs false
set_option maxRecDepth 10000
set_option maxHeartbeats 1000000
namespace Go.Proofs.Ytediokhgklkhnaa.A
namespace P
open Go Go.RowKit
@[simp]theorem Fj (N:Nat):(sv N).take 4=sv N:=rfl
@[simp]theorem Fk (N:Nat):(sv N).drop 4=[]:=rfl
theorem zD:[pu 0,pu 0,pu 0,pu 0]=sv 0:=by simp [sv,qy]
def nc {α β:Type} (f:β→α→β) (b:β) (l:List α) (i:Nat):β:=(l.take i).foldl f b
theorem pD {α β:Type} (f:β→α→β) (b:β) (l:List α):nc f b l 0=b:=rfl
theorem mM {α β:Type} {f:β→α→β} {b:β} {l:List α} {i:Nat} {x:α} (h:l[i]?=some x):nc f b l (i+1)=f (nc f b l i) x:=by
 unfold nc;rw [O2,h];simp
theorem kD {α β:Type} (f:β→α→β) (b:β) (l:List α):nc f b l l.length=l.foldl f b:=by rw [nc,List.take_length]
def eJ (N:Nat) (x:Int):Nat:=N|||2^x.toNat
def eE (l:List Int):Nat:=l.foldl eJ 0
theorem bz (N:Nat) (x:Int) (q:Nat):(eJ N x).testBit q=(N.testBit q||decide (x.toNat=q)):=by rw [eJ,Nat.testBit_or,Nat.testBit_two_pow]
theorem kE:∀(l:List Int) (N q:Nat),(l.foldl eJ N).testBit q=true↔N.testBit q=true∨∃x∈l,x.toNat=q
 |[],N,q=>by simp
 |x::l,N,q=>by
  rw [List.foldl_cons,kE l,bz];simp only [Bool.or_eq_true,OT,OZ,exists_eq_or_imp];exact ⟨fun h=>h.elim (fun k=>k.elim .inl fun e=>.inr (.inl e)) fun e=>.inr (.inr e),fun h=>h.elim (fun k=>.inl (.inl k)) fun e=>e.elim (fun e=>.inl (.inr e)) .inr⟩
theorem ef (l:List Int) (q:Nat):(eE l).testBit q=true↔∃x∈l,x.toNat=q:=by rw [eE,kE];simp
def n6 (l:List Int):Prop:=∀x∈l,0≤x∧x<256
theorem pE {l:List Int} (o:l.length<2^60) (m:n6 l):Fz E O 40 [bO l] (.agg (sv (eE l))):=by
 refine ek.body (F:=DO) rfl rfl rfl ?_;simp (maxSteps:=9^7)-implicitDefEqProofs+contextual [-getElem?_pos,OF,DO,zD];refine a7 (fun i a h=>h=[.cells 4 (sv 0),.cells 4 (sv (nc eJ 0 l i))]∧a.get 0=bO l∧a.get 2= .ref 0 0 4∧a.get 3= .ref 1 0 4∧a.get 4=pi i) l.length ?_ ?_
 ·exact ⟨by simp [sv,qy,pD],by simp,by simp,by simp,by simp⟩
 rintro i a h hi ⟨rfl,d,c,b,g⟩;by_cases h:i<l.length
 ·obtain ⟨x,f⟩:∃x,l[i]?=some x:=⟨_,OG h⟩
  obtain ⟨j,n⟩:=m x (OM f);obtain ⟨q,rfl⟩:=Int.eq_ofNat_of_zero_le j;have k:IntKind.i64.wrap ((i:Int)+1)=((i+1:Nat):Int):=aj ⟨by omega,by omega⟩;simp (maxSteps:=9^7)-implicitDefEqProofs [-getElem?_pos,OF,d,c,b,g,h,aI,f];refine aD (n5 (N:=nc eJ 0 l i) (q:=q) (by omega)) ?_ ?_ ?_
  iterate 2· simp (maxDischargeDepth:=8)-implicitDefEqProofs [-getElem?_pos,OF]
  simp (maxSteps:=9^7)-implicitDefEqProofs [-getElem?_pos,OF,d,c,b,g,k];refine .for h ⟨?_,by simp [d],by simp [c],by simp [b],by simp⟩;rw [mM f];rfl
 ·obtain rfl:i=l.length:=by omega
  have e:=kD eJ 0 l;rw [e];simp (maxSteps:=9^7)-implicitDefEqProofs [-getElem?_pos,OF,d,c,b,g];refine ae ?_;simp [eE]
def qz (l:List (Int×Int)):Prop:=∀x∈l,(0≤x.1∧x.1<256)∧0≤x.2∧x.2<256
def xi (N M:Nat) (x:Int×Int):Nat:=if N.testBit x.1.toNat=true then eJ M x.2 else M
def xj (N M:Nat) (x:Int×Int):Nat:=if N.testBit x.2.toNat=true then eJ M x.1 else M
def jS (s:Sy) (N:Nat):Nat:=s.nx.foldl (xi N) 0
def gh (s:Sy) (N:Nat):Nat:=s.nx.foldl (xj N) 0
theorem pF (N:Nat):∀(l:List (Int×Int)) (M q:Nat),(l.foldl (xi N) M).testBit q=true↔M.testBit q=true∨∃x∈l,N.testBit x.1.toNat=true∧x.2.toNat=q
 |[],M,q=>by simp
 |x::l,M,q=>by
  rw [List.foldl_cons,pF N l,xi];simp only [OZ,exists_eq_or_imp];by_cases h:N.testBit x.1.toNat=true
  ·rw [if_pos h,bz]
   simp only [Bool.or_eq_true,OT,h,true_and];exact ⟨fun h=>h.elim (fun k=>k.elim .inl fun e=>.inr (.inl e)) fun e=>.inr (.inr e),fun h=>h.elim (fun k=>.inl (.inl k)) fun e=>e.elim (fun e=>.inl (.inr e)) .inr⟩
  ·rw [if_neg h]
   simp [h]
theorem pG (N:Nat):∀(l:List (Int×Int)) (M q:Nat),(l.foldl (xj N) M).testBit q=true↔M.testBit q=true∨∃x∈l,N.testBit x.2.toNat=true∧x.1.toNat=q
 |[],M,q=>by simp
 |x::l,M,q=>by
  rw [List.foldl_cons,pG N l,xj];simp only [OZ,exists_eq_or_imp];by_cases h:N.testBit x.2.toNat=true
  ·rw [if_pos h,bz]
   simp only [Bool.or_eq_true,OT,h,true_and];exact ⟨fun h=>h.elim (fun k=>k.elim .inl fun e=>.inr (.inl e)) fun e=>.inr (.inr e),fun h=>h.elim (fun k=>.inl (.inl k)) fun e=>e.elim (fun e=>.inl (.inr e)) .inr⟩
  ·rw [if_neg h]
   simp [h]
theorem qA (s:Sy) (N q:Nat):(jS s N).testBit q=true↔∃x∈s.nx,N.testBit x.1.toNat=true∧x.2.toNat=q:=by rw [jS,pF];simp
theorem n7 (s:Sy) (N q:Nat):(gh s N).testBit q=true↔∃x∈s.nx,N.testBit x.2.toNat=true∧x.1.toNat=q:=by rw [gh,pG];simp
theorem zE {s:Sy} {N:Nat} (z:s.nx.length<2^60) (t:qz s.nx):Fz E O 41 [.agg (aa s),.agg (sv N)] (.agg (sv (jS s N))):=by
 refine ek.body (F:=DP) rfl rfl rfl ?_;simp (maxSteps:=9^7)-implicitDefEqProofs+contextual [-getElem?_pos,OF,DP];refine a7 (fun i j h=>h=[.cells 6 (aa s),.cells 4 (sv N),.cells 4 (sv 0),.cells 4 (sv (nc (xi N) 0 s.nx i))]∧j.get 2= .ref 0 0 6∧j.get 3= .ref 1 0 4∧j.get 4= .ref 2 0 4∧j.get 5= .ref 3 0 4∧j.get 6=pi i) s.nx.length ?_ ?_
 ·exact ⟨by simp [sv,qy,pD,aa],by simp [aa],by simp,by simp,by simp,by simp⟩
 rintro i j h hi ⟨rfl,g,d,c,a,k⟩;by_cases h:i<s.nx.length
 ·obtain ⟨⟨w,v⟩,l⟩:∃x,s.nx[i]?=some x:=⟨_,OG h⟩
  obtain ⟨⟨p,y⟩,o,u⟩:=t _ (OM l);obtain ⟨q,rfl⟩:=Int.eq_ofNat_of_zero_le p;obtain ⟨r,rfl⟩:=Int.eq_ofNat_of_zero_le o;have m:IntKind.i64.wrap ((i:Int)+1)=((i+1:Nat):Int):=aj ⟨by omega,by omega⟩;have e:=mM (f:=xi N) (b:=0) l;rw [xi]at e;simp only [Int.toNat_natCast]at e;simp (maxSteps:=9^7)-implicitDefEqProofs [-getElem?_pos,OF,g,d,c,a,k,h,aa,bK,aG,l];refine aD (tj (N:=N) (q:=q) (by omega)) ?_ ?_ ?_
  iterate 2· simp (maxDischargeDepth:=8)-implicitDefEqProofs [-getElem?_pos,OF]
  cases n:N.testBit q with
  |true=>
   rw [n,if_pos rfl]at e;simp (maxSteps:=9^7)-implicitDefEqProofs [-getElem?_pos,OF,g,d,c,a,k,h,aa,bK,aG,l];refine aD (n5 (N:=nc (xi N) 0 s.nx i) (q:=r) (by omega)) ?_ ?_ ?_
   iterate 2· simp (maxDischargeDepth:=8)-implicitDefEqProofs [-getElem?_pos,OF]
   simp (maxSteps:=9^7)-implicitDefEqProofs [-getElem?_pos,OF,g,d,c,a,k,m];refine .for h ⟨?_,by simp [g],by simp [d],by simp [c],by simp [a],by simp⟩;rw [e];rfl
  |false=>
   rw [n,if_neg (by decide)]at e;simp (maxSteps:=9^7)-implicitDefEqProofs [-getElem?_pos,OF,g,d,c,a,k,m];refine .for h ⟨?_,by simp [g],by simp [d],by simp [c],by simp [a],by simp⟩;rw [e]
 ·obtain rfl:i=s.nx.length:=by omega
  have e:=kD (xi N) 0 s.nx;rw [e];simp (maxSteps:=9^7)-implicitDefEqProofs [-getElem?_pos,OF,g,d,c,a,k,aa,bK];refine ae ?_;simp [jS]
theorem vQ {s:Sy} {N:Nat} (z:s.nx.length<2^60) (t:qz s.nx):Fz E O 80 [.agg (aa s),.agg (sv N)] (.agg (sv (gh s N))):=by
 refine ek.body (F:=D5) rfl rfl rfl ?_;simp (maxSteps:=9^7)-implicitDefEqProofs+contextual [-getElem?_pos,OF,D5];refine a7 (fun i j h=>h=[.cells 6 (aa s),.cells 4 (sv N),.cells 4 (sv 0),.cells 4 (sv (nc (xj N) 0 s.nx i))]∧j.get 2= .ref 0 0 6∧j.get 3= .ref 1 0 4∧j.get 4= .ref 2 0 4∧j.get 5= .ref 3 0 4∧j.get 6=pi i) s.nx.length ?_ ?_
 ·exact ⟨by simp [sv,qy,pD,aa],by simp [aa],by simp,by simp,by simp,by simp⟩
 rintro i j h hi ⟨rfl,g,d,c,a,k⟩;by_cases h:i<s.nx.length
 ·obtain ⟨⟨w,v⟩,l⟩:∃x,s.nx[i]?=some x:=⟨_,OG h⟩
  obtain ⟨⟨p,y⟩,o,u⟩:=t _ (OM l);obtain ⟨q,rfl⟩:=Int.eq_ofNat_of_zero_le p;obtain ⟨r,rfl⟩:=Int.eq_ofNat_of_zero_le o;have m:IntKind.i64.wrap ((i:Int)+1)=((i+1:Nat):Int):=aj ⟨by omega,by omega⟩;have e:=mM (f:=xj N) (b:=0) l;rw [xj]at e;simp only [Int.toNat_natCast]at e;simp (maxSteps:=9^7)-implicitDefEqProofs [-getElem?_pos,OF,g,d,c,a,k,h,aa,bK,aG,l];refine aD (tj (N:=N) (q:=r) (by omega)) ?_ ?_ ?_
  iterate 2· simp (maxDischargeDepth:=8)-implicitDefEqProofs [-getElem?_pos,OF]
  cases n:N.testBit r with
  |true=>
   rw [n,if_pos rfl]at e;simp (maxSteps:=9^7)-implicitDefEqProofs [-getElem?_pos,OF,g,d,c,a,k,h,aa,bK,aG,l];refine aD (n5 (N:=nc (xj N) 0 s.nx i) (q:=q) (by omega)) ?_ ?_ ?_
   iterate 2· simp (maxDischargeDepth:=8)-implicitDefEqProofs [-getElem?_pos,OF]
   simp (maxSteps:=9^7)-implicitDefEqProofs [-getElem?_pos,OF,g,d,c,a,k,m];refine .for h ⟨?_,by simp [g],by simp [d],by simp [c],by simp [a],by simp⟩;rw [e];rfl
  |false=>
   rw [n,if_neg (by decide)]at e;simp (maxSteps:=9^7)-implicitDefEqProofs [-getElem?_pos,OF,g,d,c,a,k,m];refine .for h ⟨?_,by simp [g],by simp [d],by simp [c],by simp [a],by simp⟩;rw [e]
 ·obtain rfl:i=s.nx.length:=by omega
  have e:=kD (xj N) 0 s.nx;rw [e];simp (maxSteps:=9^7)-implicitDefEqProofs [-getElem?_pos,OF,g,d,c,a,k,aa,bK];refine ae ?_;simp [gh]
open Go Go.RowKit
def j8 (f:Nat→Nat) (N:Nat):Nat→Nat
 |0=>N
 |k+1=>j8 f N k|||f (j8 f N k)
def gU (s:Sy) (k:Nat):Nat:=j8 (jS s) (eE s.st) k
def c6 (s:Sy) (k:Nat):Nat:=j8 (gh s) (eE s.en) k
theorem zF {s:Sy} (ok:mH s) (j:mK s) (l:qz s.nx) (k:n6 s.st):Fz E O 71 [.agg (aa s)] (.agg (sv (gU s s.n.toNat))):=by
 refine ek.body (F:=D0) rfl rfl rfl ?_;have m:=j.n;simp (maxSteps:=9^7)-implicitDefEqProofs+contextual [-getElem?_pos,OF,D0,aa,zD];refine aD (pE ok.st.1 k) ?_ ?_ ?_
 iterate 2· simp (maxDischargeDepth:=8)-implicitDefEqProofs [-getElem?_pos,OF]
 simp (maxSteps:=9^7)-implicitDefEqProofs [-getElem?_pos,OF];refine a7 (fun i a h=>h=[.cells 6 (aa s),.cells 4 (sv 0),.cells 4 (sv (gU s i))]∧a.get 1= .ref 0 0 6∧a.get 2= .ref 1 0 4∧a.get 3= .ref 2 0 4∧a.get 4=pi i) s.n.toNat ?_ ?_
 ·exact ⟨by simp [sv,qy,aa,gU,j8],by simp,by simp,by simp,by simp⟩
 rintro i a h hi ⟨rfl,d,c,b,f⟩;by_cases h:i<s.n.toNat
 ·have g:IntKind.i64.wrap ((i:Int)+1)=((i+1:Nat):Int):=aj ⟨by omega,by omega⟩
  have h2:(i:Int)<s.n:=by omega
  simp (maxSteps:=9^7)-implicitDefEqProofs [-getElem?_pos,OF,d,c,b,f,h2,aa];refine aD (zE (N:=gU s i) ok.nx.1 l) ?_ ?_ ?_
  iterate 2· simp (maxDischargeDepth:=8)-implicitDefEqProofs [-getElem?_pos,OF,aa]
  simp (maxSteps:=9^7)-implicitDefEqProofs [-getElem?_pos,OF];refine aD (CY (gU s i) (jS s (gU s i))) ?_ ?_ ?_
  iterate 2· simp (maxDischargeDepth:=8)-implicitDefEqProofs [-getElem?_pos,OF]
  simp (maxSteps:=9^7)-implicitDefEqProofs [-getElem?_pos,OF,d,c,b,f,g];exact ⟨by simp [sv],.for h ⟨rfl,by simp [d],by simp [c],by simp [b],by simp⟩⟩
 ·have h2:¬ (i:Int)<s.n:=by omega
  have e:i=s.n.toNat:=by omega
  rw [←e];simp (maxSteps:=9^7)-implicitDefEqProofs [-getElem?_pos,OF,d,c,b,f,aa,h2];refine ae ?_;simp
theorem tk {s:Sy} {n:Nat} (ok:mH s) (k:qz s.nx) (j:n6 s.en) (l:n≤2^40):Fz E O 68 [.agg (aa s),pi n] (.agg (sv (c6 s n))):=by
 refine ek.body (F:=DY) rfl rfl rfl ?_;simp (maxSteps:=9^7)-implicitDefEqProofs+contextual [-getElem?_pos,OF,DY,aa,zD];refine aD (pE ok.en.1 j) ?_ ?_ ?_
 iterate 2· simp (maxDischargeDepth:=8)-implicitDefEqProofs [-getElem?_pos,OF]
 simp (maxSteps:=9^7)-implicitDefEqProofs [-getElem?_pos,OF];refine a7 (fun i a h=>h=[.cells 6 (aa s),.cells 4 (sv 0),.cells 4 (sv (c6 s i))]∧a.get 1=pi n∧a.get 2= .ref 0 0 6∧a.get 4= .ref 1 0 4∧a.get 5= .ref 2 0 4∧a.get 6=pi i) n ?_ ?_
 ·exact ⟨by simp [sv,qy,aa,c6,j8],by simp,by simp,by simp,by simp,by simp⟩
 rintro i a h hi ⟨rfl,e,d,c,b,f⟩;by_cases h:i<n
 ·have g:IntKind.i64.wrap ((i:Int)+1)=((i+1:Nat):Int):=aj ⟨by omega,by omega⟩
  simp (maxSteps:=9^7)-implicitDefEqProofs [-getElem?_pos,OF,e,d,c,b,f,h,aa];refine aD (vQ (N:=c6 s i) ok.nx.1 k) ?_ ?_ ?_
  iterate 2· simp (maxDischargeDepth:=8)-implicitDefEqProofs [-getElem?_pos,OF,aa]
  simp (maxSteps:=9^7)-implicitDefEqProofs [-getElem?_pos,OF];refine aD (CY (c6 s i) (gh s (c6 s i))) ?_ ?_ ?_
  iterate 2· simp (maxDischargeDepth:=8)-implicitDefEqProofs [-getElem?_pos,OF]
  simp (maxSteps:=9^7)-implicitDefEqProofs [-getElem?_pos,OF,e,d,c,b,f,g];exact ⟨by simp [sv],.for h ⟨rfl,by simp [e],by simp [d],by simp [c],by simp [b],by simp⟩⟩
 ·obtain rfl:i=n:=by omega
  simp (maxSteps:=9^7)-implicitDefEqProofs [-getElem?_pos,OF,e,d,c,b,f,aa];refine ae ?_;simp
def aC (s:Sy):Nat:=gU s s.n.toNat&&&c6 s s.n.toNat
theorem mN {s:Sy} (ok:mH s) (a:mK s) (c:qz s.nx) (d:n6 s.st) (e:n6 s.en):Fz E O 51 [.agg (aa s)] (.agg (sv (aC s))):=by
 refine ek.body (F:=DS) rfl rfl rfl ?_;have f:=a.n;have b:=tk (n:=s.n.toNat) ok c e (by omega);rw [Int.toNat_of_nonneg (by omega)]at b;simp (maxSteps:=9^7)-implicitDefEqProofs [-getElem?_pos,OF,DS,aa];refine aD (zF ok a c d) ?_ ?_ ?_
 iterate 2· simp (maxDischargeDepth:=8)-implicitDefEqProofs [-getElem?_pos,OF,aa]
 simp (maxSteps:=9^7)-implicitDefEqProofs [-getElem?_pos,OF];refine aD (b) ?_ ?_ ?_
 iterate 2· simp (maxDischargeDepth:=8)-implicitDefEqProofs [-getElem?_pos,OF,aa]
 simp (maxSteps:=9^7)-implicitDefEqProofs [-getElem?_pos,OF];refine aD (CZ (gU s s.n.toNat) (c6 s s.n.toNat)) ?_ ?_ ?_
 iterate 2· simp (maxDischargeDepth:=8)-implicitDefEqProofs [-getElem?_pos,OF]
 simp (maxSteps:=9^7)-implicitDefEqProofs [-getElem?_pos,OF];refine ⟨rfl,?_⟩;refine ae ?_;simp [aC]
end P
namespace P
open Go Go.RowKit
open Go Go.RowKit
def ua (p:Nat) (c:List Int):PV:=if c=[]then e8 else .sl 1 p 0 c.length c.length
def lU (pos:Nat→Nat) (out:List (List Int)):List PV:=out.mapIdx fun k c=>ua (pos k) c
@[simp]theorem zG (pos:Nat→Nat) (out:List (List Int)):(lU pos out).length=out.length:=by simp [lU]
theorem dH (pos:Nat→Nat) (out:List (List Int)) (k:Nat):(lU pos out)[k]?=(out[k]?).map (ua (pos k)):=by simp [lU]
structure NL (h:PH) (b:Nat) (bs:List Nat) (pos:Nat→Nat) (out:List (List Int)):Prop where
 top:h[b]?=some (.cells 1 (lU pos out))
 off:∀k c,out[k]?=some c→c≠[]→pos k≠b∧pos k∉bs∧h[pos k]?=some (.cells 1 (c.map pi))
 inj:∀i j c d,out[i]?=some c→out[j]?=some d→c≠[]→d≠[]→pos i=pos j→i=j
theorem vR (pos:Nat→Nat) (n:Nat):lU pos (List.replicate n [])=List.replicate n e8:=by
 apply List.ext_getElem?;intro k;rw [dH];simp only [List.getElem?_replicate];split<;>simp [ua]
theorem NL.zero {h:PH} {b n:Nat} {g:List Nat} (f:h[b]?=some (.cells 1 (List.replicate n e8))):NL h b g (fun _=>0) (List.replicate n []):=
 ⟨by rw [vR];exact f,fun k c e a=>by simp only [List.getElem?_replicate]at e;split at e<;>simp at e;exact absurd e a,fun i j c d e _ a=>by simp only [List.getElem?_replicate]at e;split at e<;>simp at e;exact absurd e a⟩
theorem NL.lt {h:PH} {b:Nat} {d:List Nat} {pos:Nat→Nat} {out:List (List Int)} (L:NL h b d pos out) {k:Nat} {c:List Int} (e:out[k]?=some c) (a:c≠[]):pos k<h.length:=(ON.1 (L.off k c e a).2.2).1
theorem NL.jh {h g:PH} {b:Nat} {i:List Nat} {pos:Nat→Nat} {out:List (List Int)} (L:NL h b i pos out) (d:∀a,(a=b∨∃k c,out[k]?=some c∧c≠[]∧a=pos k)→g[a]?=h[a]?):NL g b i pos out:=
 ⟨by rw [d b (.inl rfl)];exact L.top,fun k c e f=>by
  obtain ⟨m,l,j⟩:=L.off k c e f
  exact ⟨m,l,by rw [d _ (.inr ⟨k,c,e,f,rfl⟩)];exact j⟩,L.inj⟩
theorem NL.xm {h g:PH} {b P k:Nat} {p:List Nat} {pos:Nat→Nat} {out:List (List Int)} {x:Int} (L:NL h b p pos out) (t:out[k]?=some []) (v:∀a∈p,a<h.length) (u:∀a,a<h.length→a≠b→g[a]?=h[a]?)
 (w:g[b]?=some (.cells 1 ((lU pos out).set k (.sl 1 P 0 1 1)))) (y:g[P]?=some (.cells 1 [pi x])) (B:h.length≤P):NL g b p (fun j=>if j=k then P else pos j) (out.set k [x]):=by
 have n:=(ON.1 t).1;have C:=(ON.1 L.top).1;refine ⟨?_,fun j c e l=>?_,fun i j c d o m l r e=>?_⟩
 ·rw [w]
  congr 2;apply List.ext_getElem?;intro j;rw [dH];by_cases f:j=k
  ·subst f
   rw [Pj (by simpa using n),Pj n];simp [ua]
  ·rw [O5 (Ne.symm f),O5 (Ne.symm f),dH,if_neg f]
 ·by_cases f:j=k
  ·subst f
   rw [Pj n]at e;cases e;rw [if_pos rfl];exact ⟨by omega,fun q=>by have:=v _ q;omega,y⟩
  ·rw [O5 (Ne.symm f)]at e
   rw [if_neg f];obtain ⟨s,A,z⟩:=L.off j c e l;exact ⟨s,A,by rw [u _ (L.lt e l) s];exact z⟩
 ·by_cases hi:i=k
  ·by_cases f:j=k
   ·omega
   ·rw [O5 (Ne.symm f)]at m
    rw [if_pos hi,if_neg f]at e;have:=L.lt m r;omega
  ·rw [O5 (Ne.symm hi)]at o
   by_cases f:j=k
   ·rw [if_neg hi,if_pos f]at e
    have:=L.lt o l;omega
   ·rw [O5 (Ne.symm f)]at m
    rw [if_neg hi,if_neg f]at e;exact L.inj i j c d o m l r e
theorem NL.xn {h g:PH} {b k:Nat} {v:List Nat} {pos:Nat→Nat} {out:List (List Int)} {x:Int} {c:List Int} (L:NL h b v pos out) (n:out[k]?=some c) (s:c≠[]) (B:∀a,a<h.length→a≠b→a≠pos k→g[a]?=h[a]?)
 (C:g[b]?=some (.cells 1 ((lU pos out).set k (.sl 1 (pos k) 0 (c.length+1) (c.length+1))))) (D:g[pos k]?=some (.cells 1 ((c++[x]).map pi))):NL g b v pos (out.set k (c++[x])):=by
 have p:=(ON.1 n).1;refine ⟨?_,fun j d e l=>?_,fun i j m d F E r l e=>?_⟩
 ·rw [C]
  congr 2;apply List.ext_getElem?;intro j;rw [dH];by_cases f:j=k
  ·subst f
   rw [Pj (by simpa using p),Pj p];simp [ua]
  ·rw [O5 (Ne.symm f),O5 (Ne.symm f),dH]
 ·by_cases f:j=k
  ·subst f
   rw [Pj p]at e;cases e;obtain ⟨o,t,_⟩:=L.off j c n s;exact ⟨o,t,D⟩
  ·rw [O5 (Ne.symm f)]at e
   obtain ⟨o,t,I⟩:=L.off j d e l;exact ⟨o,t,by rw [B _ (L.lt e l) o (fun q=>f (L.inj j k d c e n l s q))];exact I⟩
 ·have key:∀{i:Nat} {m:List Int},(out.set k (c++[x]))[i]?=some m→m≠[]→∃u,out[i]?=some u∧u≠[]:=fun{i m} e r=>by
   by_cases hi:i=k
   ·subst hi;exact ⟨c,n,s⟩
   ·rw [O5 (Ne.symm hi)]at e
    exact ⟨m,e,r⟩
  obtain ⟨H,A,z⟩:=key F r;obtain ⟨G,y,w⟩:=key E l;exact L.inj i j H G A y z w e
def n8 (out:List (List Int)):PV:=.fs 1 (out.map fun c=>[bO c])
@[simp]theorem Fl (out:List (List Int)):g9 (n8 out)=true:=rfl
theorem vS {A:Nat→Prop} {h:PH}:Vz A h e8 (bO []):=fun F H b x S R=>by
 cases R;exact .fs (rows:=[]) (rs:=[]) ⟨_,_,rfl,fun i r hi=>by simp at hi⟩ (OL _) (fun d a=>by cases a) .nil
theorem NL.vz {h:PH} {b:Nat} {j:List Nat} {pos:Nat→Nat} {out:List (List Int)} {A:Nat→Prop} (L:NL h b j pos out) (g:∀x,A x):Vz A h (.sl 1 b 0 out.length out.length) (n8 out):=by
 refine sT (g b) L.top (by simp) (by decide) (OL _) (OL _) (by simp) (by intro r i;obtain ⟨x,_,rfl⟩:=Pe.1 i;rfl) ?_;simp only [Nat.zero_mul,List.drop_zero,Nat.mul_one];rw [OO (by simp)]
 have key:∀(ps:List PV) (o:List (List Int)),ps.length=o.length→(∀(k:Nat) (p:PV) (c:List Int),ps[k]?=some p→o[k]?=some c→Vz A h p (bO c))→sR A h ps (o.map fun c=>[bO c]).flatten:=by
  intro ps
  induction ps with
  |nil=>intro o f _;cases o with
   |nil=>trivial
   |cons c o=>simp at f
  |cons p ps ih=>intro o f hi;cases o with
   |nil=>simp at f
   |cons c o=>exact ⟨hi 0 p c rfl rfl,ih o (by simpa using f) fun k q d a h2=>hi (k+1) q d (by simpa using a) (by simpa using h2)⟩
 refine key _ _ (by simp) fun k p c a h2=> ?_
 rw [dH,h2]at a;simp only [Option.map_some,OH]at a;subst a;unfold ua;split
 · rename_i e;subst e;exact vS
 · rename_i e
   exact jP (g _) (L.off k c h2 e).2.2
end P
namespace P
open Go Go.RowKit
theorem b5 {α:Type} {x:α}:∀{l:List α} {k:Nat},k<l.length→ig l k [x]=l.set k x
 |[],k,h=>by simp at h
 |y::l,0,_=>by simp [ig]
 |y::l,k+1,h=>by simp [ig,b5 (l:=l) (k:=k) (by simpa using h)]
def gV (out:List (List Int)) (x:Int×Int):List (List Int):=out.set x.1.toNat (out.getD x.1.toNat []++[x.2])
def cx (l:List (Int×Int)) (n i:Nat):List (List Int):=nc gV (List.replicate n []) l i
def ke (l:List (Int×Int)) (n:Nat):List (List Int):=l.foldl gV (List.replicate n [])
@[simp]theorem mO (out:List (List Int)) (x:Int×Int):(gV out x).length=out.length:=by simp [gV]
theorem bZ:∀(l:List (Int×Int)) (out:List (List Int)),(l.foldl gV out).length=out.length
 |[],_=>rfl
 |x::l,out=>by rw [List.foldl_cons,bZ l,mO]
@[simp]theorem C1 (l:List (Int×Int)) (n i:Nat):(cx l n i).length=n:=by rw [cx,nc,bZ,List.length_replicate]
@[simp]theorem C2 (l:List (Int×Int)) (n:Nat):(ke l n).length=n:=by rw [ke,bZ,List.length_replicate]
theorem lE (l:List (Int×Int)) (n:Nat):∀(k:Nat) (c:List Int),(ke l n)[k]?=some c→c.length≤l.length:=by
 have key:∀(l:List (Int×Int)) (out:List (List Int)) (m:Nat),(∀(k:Nat) (c:List Int),out[k]?=some c→c.length≤m)→∀(k:Nat) (c:List Int),(l.foldl gV out)[k]?=some c→c.length≤m+l.length:=by
  intro l
  induction l with
  |nil=>intro out m h k c e;exact h k c e
  |cons x l ih=>
   intro out m h k c e;rw [List.foldl_cons]at e
   have:=ih (gV out x) (m+1) (fun j d q=>by
    unfold gV at q;by_cases b:x.1.toNat=j
    ·subst b
     have a:x.1.toNat<out.length:=by
      have:=(ON.1 q).1
      simpa using this
     rw [Pj a]at q;cases q;have:=h _ _ (OG a);rw [List.getD_eq_getElem?_getD,OG a];simp;exact this
    ·rw [O5 b]at q
     have:=h j d q
     omega) k c e
   simp only [List.length_cons];omega
 intro k c e
 have:=key l (List.replicate n []) 0 (fun j d q=>by
  simp only [List.getElem?_replicate]at q;split at q
  ·cases q;simp
  ·cases q) k c e
 omega
theorem pH (l:List (Int×Int)) (n i:Nat) (k:Nat) (c:List Int) (h:(cx l n i)[k]?=some c):c.length≤l.length:=by
 have:=lE (l.take i) n k c h;have:=List.length_take_le i l;have:=lE (l.take i) n k c h;rw [List.length_take]at this;omega
theorem lF {l:List (Int×Int)} {n i q:Nat} {y:Int} {c:List Int} (b:l[i]?=some ((q:Int),y)) (a:(cx l n i)[q]?=some c):cx l n (i+1)=(cx l n i).set q (c++[y]):=by
 unfold cx at a⊢;rw [mM b,gV];simp only [Int.toNat_natCast];rw [List.getD_eq_getElem?_getD,a];rfl
def NI (s:Sy) (i:Nat) (fr:PF) (h:PH):Prop:=∃pos,NL h 1 [0] pos (cx s.nx s.n.toNat i)∧h[0]?=some (.cells 6 (aa s))∧fr.get 1= .ref 0 0 6∧fr.get 3= .sl 1 1 0 s.n.toNat s.n.toNat∧fr.get 10=bK s.nx∧fr.get 11=pi s.nx.length∧fr.get 12=pi i
theorem zI {s:Sy} (ok:mH s) (C:mK s) (hE:∀x∈s.nx,(0≤x.1∧x.1<s.n)∧0≤x.2∧x.2<s.n):Fz E O 32 [.agg (aa s)] (n8 (ke s.nx s.n.toNat)):=by
 refine ek.body (F:=DM) rfl rfl rfl ?_;have xl:=C.n;have W:IntKind.i64.wrap s.n=s.n:=aj ⟨by omega,by omega⟩;have hb:((24:Nat):Int)*s.n≤2^47:=by omega
 simp (maxSteps:=9^7)-implicitDefEqProofs [-getElem?_pos,OF,DM,aa,bK,W];refine ⟨⟨by omega,by omega⟩,?_⟩;refine a7 (NI s) s.nx.length ⟨fun _=>0,by rw [show cx s.nx s.n.toNat 0=List.replicate s.n.toNat [] from rfl];exact NL.zero rfl,by simp [aa,bK],by simp,by simp,by simp [bK],by simp,by simp⟩ ?_;rintro i fr h hi ⟨pos,L,Q,t,r,f10,f11,f12⟩;have K:=(ON.1 L.top).1;by_cases f:i<s.nx.length
 ·obtain ⟨⟨x1,b⟩,v⟩:∃x,s.nx[i]?=some x:=⟨_,OG f⟩
  obtain ⟨⟨U,u⟩,y0,T⟩:=hE _ (OM v);obtain ⟨q,rfl⟩:=Int.eq_ofNat_of_zero_le U;dsimp only at u T;have o:q<s.n.toNat:=by omega
  obtain ⟨c,m⟩:∃c,(cx s.nx s.n.toNat i)[q]?=some c:=⟨_,OG (by simpa using o)⟩
  have N:IntKind.i64.wrap ((i:Int)+1)=((i+1:Nat):Int):=aj ⟨by have:=C.nl;omega,by have:=C.nl;omega⟩;have y:=dH pos (cx s.nx s.n.toNat i) q;rw [m,Option.map_some]at y;have top:=L.top;have S:(h++[PB.cells 2 [pi q,pi b]])[1]?=some (.cells 1 (lU pos (cx s.nx s.n.toNat i))):=by rw [OU K];exact top
  by_cases w:c=[]
  ·subst w
   rw [show ua (pos q) []=e8 from rfl]at y;simp (maxSteps:=9^7)-implicitDefEqProofs [-getElem?_pos,OF,t,r,f10,f11,f12,f,bK,aG,v,o,S,y,u,List.getElem?_concat_length];refine ⟨⟨by omega,by omega⟩,?_⟩;have z:∀(A B:PB) (l:PH),(h++A::B::l)[h.length]?=some A:=fun A B l=>by rw [OY (OL _),Nat.sub_self];rfl
   have D:∀(A B:PB) (l:PH),(h++A::B::l)[h.length+1]?=some B:=fun A B l=>by rw [OY (by omega),Nat.add_sub_cancel_left];rfl
   rw [mD (new:=[pi b]) (by decide) rfl (by simp [cP,D]) (by decide) (by decide) (by decide)]
   obtain ⟨P,M⟩:∃P,(h++[PB.cells 2 [pi q,pi b],PB.cells 1 [pi b]]).length=P:=⟨_,rfl⟩
   obtain ⟨g,d⟩:∃g,h++[PB.cells 2 [pi q,pi b],PB.cells 1 [pi b]]++[PB.cells 1 [pi b]]=g:=⟨_,rfl⟩
   have NN:P=h.length+2:=by rw [←M];simp
   have p:∀a,a<h.length→g[a]?=h[a]?:=fun a e=>by rw [←d,O6,OU e]
   have J:g[1]?=some (.cells 1 (lU pos (cx s.nx s.n.toNat i))):=by rw [p 1 K];exact top
   have H:g[h.length]?=some (.cells 2 [pi q,pi b]):=by rw [←d,O6];exact z _ _ _
   have I:g[P]?=some (.cells 1 [pi b]):=by rw [←d,←M,OY (OL _),Nat.sub_self];rfl
   have Z:g.length=h.length+3:=by rw [←d];simp
   have G:=b5 (x:=PV.sl 1 P 0 1 1) (l:=lU pos (cx s.nx s.n.toNat i)) (k:=q) (by simpa using o);rw [M,d];simp (maxSteps:=9^7)-implicitDefEqProofs [-getElem?_pos,OF,t,r,f10,f11,f12,J,H,G,o,u,z,List.getElem?_concat_length,N];refine ⟨⟨by omega,by omega⟩,⟨by omega,by omega⟩,.for f ⟨fun j=>if j=q then P else pos j,?_,?_,by simp [t],by simp [r],by simp [f10],by simp [f11],by simp⟩⟩
   ·rw [lF v m]
    refine L.xm m (fun a e=>by simp at e;omega) (fun a e f=>?_) ?_ ?_ (by omega:h.length≤P)
    ·rw [O5 (Ne.symm f)];exact p a e
    ·rw [Pj (by omega)]
    ·rw [O5 (by omega)];exact I
   ·rw [O5 (by omega),p 0 (by omega)];exact Q
  ·rw [ua,if_neg w]at y
   obtain ⟨R,a2,a3⟩:=L.off q c m w;simp (maxSteps:=9^7)-implicitDefEqProofs [-getElem?_pos,OF,t,r,f10,f11,f12,f,bK,aG,v,o,S,y,u,List.getElem?_concat_length];refine ⟨⟨by omega,by omega⟩,?_⟩;have z:∀(A B:PB) (l:PH),(h++A::B::l)[h.length]?=some A:=fun A B l=>by rw [OY (OL _),Nat.sub_self];rfl
   have D:∀(A B:PB) (l:PH),(h++A::B::l)[h.length+1]?=some B:=fun A B l=>by rw [OY (by omega),Nat.add_sub_cancel_left];rfl
   have X:=L.lt m w;have gD:=pH _ _ _ _ _ m;have qH:=C.nl;have Ip:pos q≠0:=fun V=>a2 (by simp [V])
   refine bM (cs:=c.map pi) (new:=[pi b]) (by rw [OU X];exact a3) rfl (by simp [cP,D]) (by simp) (by decide) rfl (by simp [dt,D]) (by omega) (by omega) ?_
   obtain ⟨g,d⟩:∃g,(h++[PB.cells 2 [pi q,pi b],PB.cells 1 [pi b]]).set (pos q) (.cells 1 (c.map pi++[pi b]))=g:=⟨_,rfl⟩
   have Z:g.length=h.length+2:=by rw [←d];simp
   have p:∀a,a<h.length→a≠pos q→g[a]?=h[a]?:=fun a e Y=>by rw [←d,O5 (Ne.symm Y),OU e]
   have J:g[1]?=some (.cells 1 (lU pos (cx s.nx s.n.toNat i))):=by rw [p 1 K (Ne.symm R)];exact top
   have H:g[h.length]?=some (.cells 2 [pi q,pi b]):=by rw [←d,O5 (by omega)];exact z _ _ _
   have I:g[pos q]?=some (.cells 1 (c.map pi++[pi b])):=by rw [←d,Pj (by simp;omega)]
   have G:=b5 (x:=PV.sl 1 (pos q) 0 (c.length+1) (c.length+1)) (l:=lU pos (cx s.nx s.n.toNat i)) (k:=q) (by simpa using o);rw [d];simp (maxSteps:=9^7)-implicitDefEqProofs [-getElem?_pos,OF,t,r,f10,f11,f12,J,H,G,o,u,z,List.getElem?_concat_length,N];refine ⟨⟨by omega,by omega⟩,⟨by omega,by omega⟩,by omega,.for f ⟨pos,?_,?_,by simp [t],by simp [r],by simp [f10],by simp [f11],by simp⟩⟩
   ·rw [lF v m]
    refine L.xn m w (fun a e f h2=>?_) ?_ ?_
    ·rw [O5 (Ne.symm f)];exact p a e h2
    ·rw [Pj (by omega)]
    ·rw [O5 (Ne.symm R),I]
     simp
   ·rw [O5 (by omega),p 0 (by omega) (Ne.symm Ip)];exact Q
 ·obtain rfl:i=s.nx.length:=by omega
  simp (maxSteps:=9^7)-implicitDefEqProofs [-getElem?_pos,OF,t,r,f10,f11,f12];have:=L.vz (A:=gf) (fun x=>trivial);rw [cx,kD,bZ,List.length_replicate]at this;exact ae (jL this)
end P
section
open Go
def oa (sz bytes:Nat):AF:=⟨1,8,[.tmp 2],.seq (.aA [o 2 (.mv (.k (.slice none 0 0)))]) (.seq (.seq (.aA [o 3 (.mv (.t 0)),o 4 (.eqk 2 false (.t 3) (.k (.slice none 0 0)))]) (.cond (.t 4) (.seq (.aA [o 2 (.mv (.k (.slice none 0 0)))]) .ret) .skip)) (.seq (.aA [o 5 (.bsl 0 sz [] []),o 6 (.mv (.t 0)),o 7 (.app sz bytes (.t 5) (.t 6)),o 2 (.mv (.t 7))]) .ret))⟩
theorem qD {f sz bytes:Nat} (u:O f=none) (y:E f=some (oa sz bytes)) {H:AH} {v:Value} {rows:List (List Value)} (m:H.n0≤H.nx) (j:Rows H sz v rows) (d:rows.length*bytes≤2^47) (z:rows.length<2^62):
 Ca E O f [v] H (fun x q=>tX q sz x rows∧Ext H q∧∀b,bF x b→H.nx≤b):=by
 refine Ca.B2 u y rfl ?_;obtain ⟨a,c,i⟩:=j.len
 cases a with
 |none=>
  have t:rows=[]:=by
   obtain ⟨D,C,e,k⟩:=j.is;rw [i]at e;cases e
   cases rows with
   |nil=>rfl
   |cons r rows=>obtain ⟨b,o,e,_⟩:=k 0 r rfl;cases e
  subst t;simp (maxSteps:=9^7)-implicitDefEqProofs+contextual [-X.ev,oa,i];exact ⟨tX.nil _ _,Ext.refl _,fun b d=>absurd d (u0 _ _ _)⟩
 |some a=>
  have n:nN 0 sz [] H []=some (.slice (some ⟨H.nx,0,none⟩) 0 0,H.alloc (.cells sz [])):=rfl;have g:=Ext.alloc H (.cells sz [])
  have l:tX (H.alloc (.cells sz [])) sz (.slice (some ⟨H.nx,0,none⟩) 0 0) []:=⟨.inr ⟨H.nx,rfl,m,fu _ _⟩,by simp⟩
  generalize H.alloc (.cells sz [])=G at n g l;obtain ⟨B,F,p,s,A,w⟩:=u1 (bytes:=bytes) (g.wf m) l (j.ext g) (by simpa using d) (by simpa using z);rw [i]at p;simp (maxSteps:=9^7)-implicitDefEqProofs+contextual [-X.ev,oa,i,n,p];refine ⟨by simpa using s,g.mod A (by intro b d;rw [b8]at d;subst d;exact OL _),fun b d=>?_⟩;rcases w b d with h|h
  ·rw [b8]at h;subst h;exact OL _
  ·exact O3 g.nx h
def dI (l:List Int):List (List Value):=l.map fun n=>[.int .i64 n]
end
namespace P
open Go Go.RowKit
theorem Fo.te {f:Nat} {args:List PV} {sz:Nat} {rows:List (List Value)} (B:0<sz) (k:∀F H φ vs,H.n0≤H.nx→aZ ⟨F,H,φ,[]⟩ args vs→Ca E O f vs H (fun x i=>tX i sz x rows∧Ext H i∧∀b,bF x b→H.nx≤b)):Fo E O f args sz rows.length (rows.flatten.map .v):=by
 intro F H φ vs S A;refine (k F H φ vs S.wf A).mono ?_;rintro x i ⟨o,X,c⟩;have d:(rows.flatten.map PV.v).length=rows.length*sz:=by rw [List.length_map,bR o.len]
 obtain ⟨a,p⟩:∃a:Nat,(rows≠[]→x= .slice (some ⟨a,0,none⟩) rows.length rows.length∧i.get a=some (.cells sz rows.flatten)∧H.nx≤a∧i.n0≤a):=by
  rcases o.is with⟨_,rfl⟩|⟨a,rfl,w,r⟩
  ·exact ⟨0,fun h=>absurd rfl h⟩
  ·exact ⟨a,fun _=>⟨rfl,r,c a ((b8 _ _ _ _ _).2 rfl),w⟩⟩
 have one:∀{b:Nat} {P:PB},[PB.cells sz (rows.flatten.map .v)][b]?=some P→b=0∧P= .cells sz (rows.flatten.map .v):=by
  intro b P e
  cases b with
  |zero=>simp only [OF,OH]at e;exact ⟨rfl,e.symm⟩
  |succ b=>simp at e
 have m:∀{b:Nat},aH [PB.cells sz (rows.flatten.map .v)] b→b=0∧rows≠[]:=by
  intro b s;rcases ee s with⟨es,e⟩|⟨z,cs,e,n⟩
  ·have:=(one e).2;cases this
  ·obtain ⟨rfl,l⟩:=one e
   cases l;exact ⟨rfl,by rintro rfl;exact n rfl⟩
 have T:bA 0 gf ⟨F,H,φ,[]⟩ ⟨F,i,fun _=>a,[.cells sz (rows.flatten.map .v)]⟩:=⟨X.n0,X.nx,fun x g=>⟨g,X.old x (S.fz x g)⟩,fun _ _ _ h=>h,fun x g _=>X.old x g,fun b c=>.inl (p (m c).2).2.2.1,fun _=>O9 _,fun b c=>absurd c (O7 _),fun b c=>absurd c (O7 _),fun b c=>absurd c (O7 _)⟩
 refine ⟨_,_,F,fun _=>a,⟨rfl,rfl,?_,d⟩,?_,⟨X.wf S.wf,fun x g=>O4 (S.fz x g) X.nx,fun b D s q _=>by rw [(m s).1,(m q).1],fun b z cs e n=>?_,fun b es e=>?_⟩,T⟩
 ·rw [e7];simp
 ·refine .sl ?_ (by simp) (fun z cs e=>?_) (fun _=>?_)
  ·rcases o.is with⟨rfl,y⟩|⟨_,rfl,_⟩
   ·exact ⟨none,0,by rw [y];rfl⟩
   ·exact ⟨_,_,rfl⟩
  ·obtain ⟨_,l⟩:=one e
   cases l;rw [d];simp
  ·by_cases j:rows=[]
   ·subst j
    refine .inl ⟨rfl,rfl,?_⟩;rcases o.is with⟨rfl,_⟩|⟨b,rfl,_⟩
    ·exact ⟨none,rfl,by simp⟩
    ·exact ⟨_,rfl,by rintro e ⟨⟩;rfl⟩
   ·exact .inr ⟨List.length_pos_iff.2 j,by rw [(p j).1];simp⟩
 ·obtain ⟨rfl,l⟩:=one e
  cases l;have j:rows≠[]:=by rintro rfl;exact n rfl
  obtain ⟨_,h2,C,u⟩:=p j;exact ⟨rows.flatten,h2,aZ.lits _,u,fun t=>by have:=S.fz _ t;dsimp only at this;omega⟩
 ·have:=(one e).2;cases this
section
variable{F:Nat→Prop} {H:AH}
theorem vT {sz:Nat} {rows:List (List PV)} {x:Value} (h:RF F H (.fs sz rows) x):∃rs,Rows H sz x rs∧fv F H rows rs∧∃a c,x= .slice a rows.length c:=by
 cases h with|fs d e f b=>exact ⟨_,d,b,_,_,rfl⟩
theorem vU {l:List Int} {x:Value} (h:RF F H (bO l) x):Rows H 1 x (dI l):=by
 obtain ⟨rs,d,e,_⟩:=vT h
 have:∀{l:List Int} {rs:List (List Value)},fv F H (ir l) rs→rs=l.map fun n=>[.int .i64 n]:=by
  intro l
  induction l with
  |nil=>intro rs h;cases h;rfl
  |cons a l ih=>
   intro rs h;simp only [ir,List.map_cons]at h
   cases h with|cons a b=>
   cases a with|cons a c=>
   cases a;cases c;rw [ih b];rfl
 rw [this e]at d;exact d
end
theorem NO {C:Cx} {sz:Nat} {rows:List (List PV)} {x:Value} (h:RV C (.fs sz rows) x):RF C.F C.H (.fs sz rows) x:=by cases h;assumption
theorem lG (l:List Int):(dI l).flatten.map PV.v=l.map pi:=by
 induction l with
 |nil=>rfl
 |cons a l ih=>simp_all [dI]
theorem tp {l:List Int} (g:l.length≤2^40):Fo E O 33 [bO l] 1 l.length (l.map pi):=by
 have:=Fo.te (f:=33) (args:=[bO l]) (rows:=dI l) Nat.one_pos (fun F H d e w c=>by
  cases c with|cons a b=>
  cases b
  exact qD (sz:=1) (bytes:=8) rfl rfl w (rows:=dI l) (vU (NO a)) (by simp [dI];omega) (by simp [dI];omega))
 rw [lG]at this
 simpa [dI]using this
end P
namespace P
open Go Go.RowKit
@[simp]theorem Fm (l:List Int):bW (l.map pi)=true:=by rw [e7];simp
def fc (P:Nat→Bool) (n:Nat):List PV:=(List.range n).map fun q=>pb (P q)
@[simp]theorem Fp (P:Nat→Bool) (n:Nat):(fc P n).length=n:=by simp [fc]
theorem ct (P:Nat→Bool) {n q:Nat} (h:q<n):(fc P n)[q]?=some (pb (P q)):=by simp [fc,h]
theorem pI {P:Nat→Bool} {S n:Nat} {x:Int} {q:Nat} (b:x.toNat=q) (c:∀j,P j=S.testBit j):(fc P n).set q (pb true)=fc (eJ S x).testBit n:=by
 apply List.ext_getElem?;intro j;by_cases a:j<n
 ·rw [ct _ a,bz,b]
  by_cases e:q=j
  ·subst e
   rw [Pj (by simpa using a)];simp
  ·rw [O5 e,ct _ a,c]
   simp [e]
 ·rw [Pn (by simp;omega),Pn (by simp;omega)]
theorem tq (P:Nat→Bool):∀n,cG (fc P n)=true:=by
 intro n
 have:∀l:List Nat,cG (l.map fun q=>pb (P q))=true:=by
  intro l
  induction l with
  |nil=>rfl
  |cons a l ih=>simp [cG,fO,ih]
 exact this _
@[simp]theorem Fq (P:Nat→Bool) (n:Nat):bW (fc P n)=true:=by rw [e7];simp [fc]
theorem ts (n:Nat):List.replicate n (pb false)=fc (0:Nat).testBit n:=by
 apply List.ext_getElem?;intro j;by_cases a:j<n
 ·rw [ct _ a,List.getElem?_replicate,if_pos a,Nat.zero_testBit]
 ·rw [Pn (by simp;omega),Pn (by simp;omega)]
def MI (l:List Int) (n i:Nat) (fr:PF) (h:PH):Prop:=h=[.cells 1 (fc (nc eJ 0 l i).testBit n)]∧fr.get 5= .sl 1 0 0 n n∧fr.get 10=bO l∧fr.get 11=pi l.length∧fr.get 12=pi i
theorem vV {l:List Int} {n:Nat} (r:l.length<2^60) (p:n≤2^40) (g:∀x∈l,0≤x∧x<n):Fo E O 37 [bO l,pi n] 1 n (fc (eE l).testBit n):=by
 refine Fo.body (F:=DN) rfl rfl rfl (by simp) (by simp) ?_;have f:IntKind.i64.wrap (n:Int)=n:=aj ⟨by omega,by omega⟩;simp (maxSteps:=9^7)-implicitDefEqProofs [-getElem?_pos,OF,DN,f];refine ⟨by omega,?_⟩;refine a7 (MI l n) l.length ⟨by rw [pD,←ts],by simp,by simp,by simp,by simp⟩ ?_;rintro i s h hi ⟨rfl,b,f10,f11,f12⟩;by_cases h:i<l.length
 ·obtain ⟨x,a⟩:∃x,l[i]?=some x:=⟨_,OG h⟩
  obtain ⟨d,o⟩:=g x (OM a);obtain ⟨q,rfl⟩:=Int.eq_ofNat_of_zero_le d;have c:q<n:=by omega
  have e:IntKind.i64.wrap ((i:Int)+1)=((i+1:Nat):Int):=aj ⟨by omega,by omega⟩;have m:=b5 (x:=pb true) (l:=fc (nc eJ 0 l i).testBit n) (k:=q) (by simpa using c);simp (maxSteps:=9^7)-implicitDefEqProofs [-getElem?_pos,OF,b,f10,f11,f12,h,aI,a,c,m,e];refine ⟨by omega,by omega,.for h ⟨?_,by simp [b],by simp [f10],by simp [f11],by simp⟩⟩;rw [mM a,pI (x:=(q:Int)) (by simp) (fun j=>rfl)]
 ·obtain rfl:i=l.length:=by omega
  simp (maxSteps:=9^7)-implicitDefEqProofs [-getElem?_pos,OF,b,f10,f11,f12,kD,eE]
def un (S:Nat):Nat→Nat
 |0=>0
 |n+1=>un S n+if S.testBit n=true then 0 else 1
theorem tt (S:Nat):∀n,un S n≤n
 |0=>OL _
 |n+1=>by rw [un];have:=tt S n;split<;>omega
theorem C3 {S n:Nat} {x:Int} (h:n≤x.toNat):un (eJ S x) n=un S n:=by
 induction n with
 |zero=>rfl
 |succ n ih=>
  rw [un,un,ih (by omega),bz,show decide (x.toNat=n)=false from decide_eq_false (by omega),Bool.or_false]
theorem tu {S:Nat} {x:Int} (h:S.testBit x.toNat=false):∀{n:Nat},x.toNat<n→un (eJ S x) n+1=un S n
 |0,k=>by omega
 |n+1,k=>by
  by_cases e:x.toNat=n
  ·rw [un,un,C3 (by omega),←e,bz,h]
   simp
  ·rw [un,un,bz,show decide (x.toNat=n)=false from decide_eq_false e,Bool.or_false]
   have:=tu (n:=n) h (by omega);omega
inductive vW (to:List (List Int)) (fr:List Int):Nat→Prop
 |base {x:Int}:x∈fr→vW to fr x.toNat
 |step {q:Nat} {c:List Int} {y:Int}:vW to fr q→to[q]?=some c→y∈c→vW to fr y.toNat
open Classical in
noncomputable def eg (to:List (List Int)) (fr:List Int) (q:Nat):Bool:=decide (vW to fr q)
theorem mP {to:List (List Int)} {a:List Int} {q:Nat}:eg to a q=true↔vW to a q:=by simp [eg]
structure RQ (to:List (List Int)) (fr:List Int) (n:Nat) (S:Nat) (Q:List Int):Prop where
 ok:∀x∈Q,(0≤x∧x<n)∧vW to fr x.toNat∧S.testBit x.toNat=true
 on:∀q,S.testBit q=true→∃x∈Q,x.toNat=q
 st:∀x∈fr,S.testBit x.toNat=true
 len:Q.length+un S n≤fr.length+n
theorem RQ.add {to:List (List Int)} {f:List Int} {n S:Nat} {Q:List Int} (h:RQ to f n S Q) {y:Int} (g:0≤y∧y<n) (i:vW to f y.toNat) (j:S.testBit y.toNat=false):RQ to f n (eJ S y) (Q++[y])where
 ok:=fun x d=>by
  rcases O1.1 d with q|q
  ·obtain ⟨a,b,c⟩:=h.ok x q
   exact ⟨a,b,by rw [bz,c];rfl⟩
  ·simp at q;subst q
   exact ⟨g,i,by rw [bz];simp⟩
 on:=fun q e=>by
  rw [bz]at e;simp only [Bool.or_eq_true,OT]at e;rcases e with k|k
  ·obtain ⟨x,l,h2⟩:=h.on q k
   exact ⟨x,by simp [l],h2⟩
  ·exact ⟨y,by simp,k⟩
 st:=fun x d=>by rw [bz,h.st x d];rfl
 len:=by
  have:=tu j (n:=n) (by omega);have:=h.len;simp;omega
def Dn (to:List (List Int)) (S:Nat) (Q:List Int) (i:Nat):Prop:=∀j x c y,j<i→Q[j]?=some x→to[x.toNat]?=some c→y∈c→S.testBit y.toNat=true
theorem RQ.fin {to:List (List Int)} {c:List Int} {n S:Nat} {Q:List Int} (h:RQ to c n S Q) (d:Dn to S Q Q.length) (q:Nat):S.testBit q=eg to c q:=by
 rw [Pd,mP];refine ⟨fun k=>?_,fun k=>?_⟩
 ·obtain ⟨x,a,rfl⟩:=h.on q k
  exact (h.ok x a).2.1
 ·induction k with
  |base a=>exact h.st _ a
  |step _ g f ih=>
   obtain ⟨x,a,e⟩:=h.on _ ih;obtain ⟨j,b⟩:=List.getElem?_of_mem a;exact d j x _ _ (ON.1 b).1 b (by rw [e];exact g) f
end P
namespace P
open Go Go.RowKit
theorem Dn.mono {to:List (List Int)} {S S':Nat} {Q b:List Int} {i:Nat} (h:Dn to S Q i) (g:∀q,S.testBit q=true→S'.testBit q=true) (k:∀j,j<i→b[j]?=Q[j]?):Dn to S' b i:=
 fun j x c y a e f d=>g _ (h j x c y a (by rw [←k j a];exact e) f d)
def QH (S n:Nat) (Q:List Int):PH:=[.cells 1 (fc S.testBit n),.cells 1 (Q.map pi)]
def OI (to:List (List Int)) (from_:List Int) (n i:Nat) (fr:PF) (h:PH):Prop:=∃S Q,h=QH S n Q∧RQ to from_ n S Q∧Dn to S Q i∧i≤Q.length∧fr.get 0=n8 to∧fr.get 5= .sl 1 0 0 n n∧fr.get 6= .sl 1 1 0 Q.length Q.length∧fr.get 7=pi i
def II (to:List (List Int)) (from_:List Int) (n i:Nat) (x:Int) (c:List Int) (j:Nat) (fr:PF) (h:PH):Prop:=∃S Q,h=QH S n Q∧RQ to from_ n S Q∧Dn to S Q i∧Q[i]?=some x∧(∀jj y,jj<j→c[jj]?=some y→S.testBit y.toNat=true)∧fr.get 0=n8 to∧fr.get 5= .sl 1 0 0 n n∧fr.get 6= .sl 1 1 0 Q.length Q.length∧fr.get 7=pi i∧fr.get 28=bO c∧fr.get 29=pi c.length∧fr.get 30=pi j
theorem vX (to:List (List Int)) (q:Nat):(to.map fun c=>[bO c])[q]?=(to[q]?).map fun c=>[bO c]:=by simp
theorem pJ {to:List (List Int)} {from_:List Int} {n:Nat} (hn:n≤2^30) (N:to.length=n) (cR:from_.length≤2^30) (W:∀x∈from_,0≤x∧x<n) (Ir:∀(q:Nat) (c:List Int),to[q]?=some c→c.length≤2^40∧∀y∈c,0≤y∧y<n):Fo E O 70 [n8 to,bO from_] 1 n (fc (eg to from_) n):=by
 refine Fo.body (F:=DZ) rfl rfl rfl (by simp) (by simp) ?_;simp (maxSteps:=9^7)-implicitDefEqProofs [-getElem?_pos,OF,DZ,n8,N];refine pv (vV (n:=n) (by omega) (by omega) W) ?_ ?_ ?_
 iterate 2· simp (maxDischargeDepth:=8)-implicitDefEqProofs [-getElem?_pos,OF]
 simp (maxSteps:=9^7)-implicitDefEqProofs [-getElem?_pos,OF,n8];refine pv (tp (l:=from_) (by omega)) ?_ ?_ ?_
 iterate 2· simp (maxDischargeDepth:=8)-implicitDefEqProofs [-getElem?_pos,OF]
 simp (maxSteps:=9^7)-implicitDefEqProofs [-getElem?_pos,OF,n8];refine a7 (OI to from_ n) (from_.length+n) ⟨eE from_,from_,rfl,⟨fun x d=>⟨W x d,.base d,(ef _ _).2 ⟨x,d,rfl⟩⟩,fun q u=>(ef _ _).1 u,fun x d=>(ef _ _).2 ⟨x,d,rfl⟩,by have:=tt (eE from_) n;omega⟩,fun j _ _ _ V=>by omega,by omega,by simp [n8],by simp,by simp,by simp⟩ ?_;rintro i fr h hi ⟨S,Q,rfl,R,D,G,m,g,f,o⟩;have Y:=R.len;by_cases h:i<Q.length
 ·obtain ⟨x,d⟩:∃x,Q[i]?=some x:=⟨_,OG h⟩
  have M:=OM d;obtain ⟨⟨x0,x1⟩,P,hs⟩:=R.ok x M;obtain ⟨q,rfl⟩:=Int.eq_ofNat_of_zero_le x0;rw [Int.toNat_natCast]at P;have u:q<n:=by omega
  obtain ⟨c,A⟩:∃c,to[q]?=some c:=⟨_,OG (by omega)⟩
  obtain ⟨gD,NP⟩:=Ir q c A;have w4:IntKind.i64.wrap ((i:Int)+1)=((i+1:Nat):Int):=aj ⟨by omega,by omega⟩;have Oz:q<to.length:=by omega
  simp (maxSteps:=9^7)-implicitDefEqProofs [-getElem?_pos,OF,m,g,f,o,h,QH,d,n8,N,u,vX,A];refine ⟨by omega,?_⟩;refine a7 (II to from_ n i q c) c.length ⟨S,Q,rfl,R,D,d,fun p y V=>by omega,by simp [m],by simp [g],by simp [f],by simp [o],by simp,by simp,by simp⟩ ?_;clear m g f o R D d M Y h hs G;rintro j fr h V ⟨S,Q,rfl,R,D,d,C,m,g,f,o,f28,f29,f30⟩;have Y:=R.len;have G:=(ON.1 d).1;by_cases h2:j<c.length
  ·obtain ⟨y,t⟩:∃y,c[j]?=some y:=⟨_,OG h2⟩
   have K:=OM t;obtain ⟨I,Z⟩:=NP y K;obtain ⟨r,rfl⟩:=Int.eq_ofNat_of_zero_le I;have w:r<n:=by omega
   have J:IntKind.i64.wrap ((j:Int)+1)=((j+1:Nat):Int):=aj ⟨by omega,by omega⟩;have z:=ct S.testBit w
   cases v:S.testBit r with
   |true=>
    rw [v]at z;simp (maxSteps:=9^7)-implicitDefEqProofs [-getElem?_pos,OF,m,g,f,o,f28,f29,f30,h2,aI,t,w,z,QH,J];refine ⟨by omega,.for h2 ⟨S,Q,rfl,R,D,d,fun p y Gn s=>?_,by simp [m],by simp [g],by simp [f],by simp [o],by simp [f28],by simp [f29],by simp⟩⟩;by_cases e:p=j
    ·subst e
     rw [t]at s;cases s;exact v
    ·exact C p y (by omega) s
   |false=>
    rw [v]at z;have T:=b5 (x:=pb true) (l:=fc S.testBit n) (k:=r) (by simpa using w);rw [pI (x:=(r:Int)) (by simp) (fun j=>rfl)]at T;simp (maxSteps:=9^7)-implicitDefEqProofs [-getElem?_pos,OF,m,g,f,o,f28,f29,f30,h2,aI,t,w,z,QH,T];refine ⟨by omega,⟨by omega,by omega⟩,?_⟩;apply bM
    iterate 9· first|rfl|omega|(simp-implicitDefEqProofs [-getElem?_pos,OF];first|done|rfl|omega)
    simp (maxSteps:=9^7)-implicitDefEqProofs [-getElem?_pos,OF,m,g,f,o,f28,f29,f30,J];have X:∀q,S.testBit q=true→(eJ S r).testBit q=true:=fun q u=>by rw [bz,u];rfl
    refine .iL h2 (a6 (h2:=QH (eJ S r) n (Q++[(r:Int)])) [0,1] [(0,n8 to),(5,.sl 1 0 0 n n),(6,.sl 1 1 0 (Q.length+1) (Q.length+1)),(7,pi i),(28,bO c),(29,pi c.length),(30,pi (j+1:Nat))] ?_ ?_ ?_ ?_ ?_ ?_) ⟨eJ S r,Q++[(r:Int)],rfl,R.add ⟨I,Z⟩ (by have:=vW.step P A K;exact this) (by simpa using v),D.mono X (fun a ha=>OU (by omega)),by rw [OU G];exact d,fun p y Gn s=>?_,by simp,by simp,by simp,by simp,by simp,by simp,by simp⟩
    ·simp [QH,n8,m,g,f,o,f28,f29,f30]
    iterate 2· simp
    ·intro b v;omega
    iterate 2· simp (maxDischargeDepth:=8)-implicitDefEqProofs [aq,OF,QH,n8,m,g,f,o,f28,f29,f30]
    by_cases e:p=j
    ·subst e
     rw [t]at s;cases s;rw [bz];simp
    ·exact X _ (C p y (by omega) s)
  ·obtain rfl:j=c.length:=by omega
   simp (maxSteps:=9^7)-implicitDefEqProofs [-getElem?_pos,OF,m,g,f,o,f28,f29,f30,w4];refine .for (by omega) ⟨S,Q,rfl,R,fun a x c' y ha B H L=>?_,by omega,by simp [m],by simp [g],by simp [f],by simp⟩;by_cases e:a=i
   ·subst e
    rw [d]at B;cases B;rw [Int.toNat_natCast,A]at H;cases H;obtain ⟨p,U⟩:=List.getElem?_of_mem L;exact C p y (ON.1 U).1 U
   ·exact D a x c' y (by omega) B H L
 ·obtain rfl:i=Q.length:=by omega
  have e:fc S.testBit n=fc (eg to from_) n:=by
   congr 1;funext q;exact R.fin D q
  simp (maxSteps:=9^7)-implicitDefEqProofs [-getElem?_pos,OF,m,g,f,o,QH,e]
open Go Go.RowKit
def nf (s:Sy):List (Int×Int):=s.nx.map fun x=>(x.2,x.1)
def oc (s:Sy):List (List Int):=ke s.nx s.n.toNat
def fe (s:Sy):List (List Int):=ke (nf s) s.n.toNat
noncomputable def ar (s:Sy) (q:Nat):Bool:=eg (oc s) s.st q&&eg (fe s) s.en q
def UI (s:Sy) (i:Nat) (fr:PF) (h:PH):Prop:=∃pos,NL h 1 [0] pos (cx (nf s) s.n.toNat i)∧h[0]?=some (.cells 6 (aa s))∧fr.get 1= .ref 0 0 6∧fr.get 3=n8 (oc s)∧fr.get 4= .sl 1 1 0 s.n.toNat s.n.toNat∧fr.get 16=bK s.nx∧fr.get 17=pi s.nx.length∧fr.get 18=pi i
theorem pK:∀(l:List (Int×Int)) (out:List (List Int)) (k:Nat) (c:List Int) (y:Int),(l.foldl gV out)[k]?=some c→(y∈c↔(∃c0,out[k]?=some c0∧y∈c0)∨∃x∈l,x.1.toNat=k∧x.2=y)
 |[],out,k,c,y,h=>by
  rw [List.foldl_nil]at h;rw [h];simp
 |x::l,out,k,c,y,h=>by
  rw [List.foldl_cons]at h;rw [pK l _ k c y h]
  have a:k<out.length:=by
   have:=(ON.1 h).1;rw [bZ,mO]at this;exact this
  obtain ⟨c0,b⟩:∃c0,out[k]?=some c0:=⟨_,OG a⟩
  simp only [OZ,exists_eq_or_imp];by_cases e:x.1.toNat=k
  ·have:(gV out x)[k]?=some (c0++[x.2]):=by
    rw [gV,e,Pj a,List.getD_eq_getElem?_getD,b];rfl
   rw [this,b];simp only [OH,exists_eq_left',O1,List.mem_singleton,e,true_and];exact ⟨fun h=>h.elim (fun h=>h.elim .inl fun h=>.inr (.inl h.symm)) fun h=>.inr (.inr h),fun h=>h.elim (fun h=>.inl (.inl h)) fun h=>h.elim (fun h=>.inl (.inr h.symm)) .inr⟩
  ·have:(gV out x)[k]?=out[k]?:=by rw [gV,O5 e]
   rw [this];simp [e]
theorem ja {l:List (Int×Int)} {n k:Nat} {c:List Int} {y:Int} (h:(ke l n)[k]?=some c):y∈c↔∃x∈l,x.1.toNat=k∧x.2=y:=by
 rw [pK l _ k c y h];refine ⟨fun h=>h.elim (fun⟨b,a,h2⟩=>?_) id,.inr⟩;simp only [List.getElem?_replicate]at a;split at a
 ·cases a;simp at h2
 ·cases a
theorem tv {s:Sy} (ok:mH s) (J:mK s) (X:∀x∈s.nx,(0≤x.1∧x.1<s.n)∧0≤x.2∧x.2<s.n) (hS:∀x∈s.st,0≤x∧x<s.n) (hF:∀x∈s.en,0≤x∧x<s.n) (kc:s.st.length≤2^30) (u5:s.en.length≤2^30):Fo E O 49 [.agg (aa s)] 1 s.n.toNat (fc (ar s) s.n.toNat):=by
 refine Fo.body (F:=DR) rfl rfl rfl (by simp) (by simp) ?_;have xl:=J.n;have hw:IntKind.i64.wrap s.n=s.n:=aj ⟨by omega,by omega⟩;have hb:((24:Nat):Int)*s.n≤2^47:=by omega
 have It:(nf s).length=s.nx.length:=by simp [nf]
 have qH:=J.nl;simp (maxSteps:=9^7)-implicitDefEqProofs [-getElem?_pos,OF,DR,aa,bK,hw];refine ⟨⟨by omega,by omega⟩,?_⟩;refine aD (zI ok J X) ?_ ?_ ?_
 iterate 2· simp (maxDischargeDepth:=8)-implicitDefEqProofs [-getElem?_pos,OF,aa,bK]
 simp (maxSteps:=9^7)-implicitDefEqProofs [-getElem?_pos,OF,aa,bK]
 refine ⟨by
  obtain ⟨m,hm⟩:∃m,s.n.toNat=m+1:=⟨s.n.toNat- 1,by omega⟩
  rw [hm,List.replicate_succ]
  simp,?_⟩
 refine a7 (UI s) s.nx.length ⟨fun _=>0,by rw [show cx (nf s) s.n.toNat 0=List.replicate s.n.toNat [] from rfl];exact NL.zero rfl,by simp [aa,bK],by simp,by simp [oc],by simp,by simp [bK],by simp,by simp⟩ ?_;rintro i K h hi ⟨pos,L,Y,H,G,D,f16,f17,f18⟩;have W:=(ON.1 L.top).1;by_cases d:i<s.nx.length
 ·obtain ⟨⟨f,x2⟩,t⟩:∃x,s.nx[i]?=some x:=⟨_,OG d⟩
  obtain ⟨⟨x0,qB⟩,y0,M⟩:=X _ (OM t);have V:(nf s)[i]?=some (x2,f):=by simp [nf,t]
  obtain ⟨q,rfl⟩:=Int.eq_ofNat_of_zero_le y0;dsimp only at qB M;have z:q<s.n.toNat:=by omega
  obtain ⟨c,r⟩:∃c,(cx (nf s) s.n.toNat i)[q]?=some c:=⟨_,OG (by simpa using z)⟩
  have N:IntKind.i64.wrap ((i:Int)+1)=((i+1:Nat):Int):=aj ⟨by have:=J.nl;omega,by have:=J.nl;omega⟩;have R:=dH pos (cx (nf s) s.n.toNat i) q;rw [r,Option.map_some]at R;have top:=L.top;have T1:(h++[PB.cells 2 [pi f,pi q]])[1]?=some (.cells 1 (lU pos (cx (nf s) s.n.toNat i))):=by rw [OU W];exact top
  by_cases Q:c=[]
  ·subst Q
   rw [show ua (pos q) []=e8 from rfl]at R;simp (maxSteps:=9^7)-implicitDefEqProofs [-getElem?_pos,OF,H,G,D,f16,f17,f18,d,bK,aG,t,z,T1,R,M,List.getElem?_concat_length];refine ⟨⟨by omega,by omega⟩,?_⟩;have w:∀(A B:PB) (l:PH),(h++A::B::l)[h.length]?=some A:=fun A B l=>by rw [OY (OL _),Nat.sub_self];rfl
   have C:∀(A B:PB) (l:PH),(h++A::B::l)[h.length+1]?=some B:=fun A B l=>by rw [OY (by omega),Nat.add_sub_cancel_left];rfl
   rw [mD (new:=[pi f]) (by decide) rfl (by simp [cP,C]) (by decide) (by decide) (by decide)]
   obtain ⟨P,hP⟩:∃P,(h++[PB.cells 2 [pi f,pi q],PB.cells 1 [pi f]]).length=P:=⟨_,rfl⟩
   obtain ⟨g,v⟩:∃g,h++[PB.cells 2 [pi f,pi q],PB.cells 1 [pi f]]++[PB.cells 1 [pi f]]=g:=⟨_,rfl⟩
   have NN:P=h.length+2:=by rw [←hP];simp
   have I:∀a,a<h.length→g[a]?=h[a]?:=fun a o=>by rw [←v,O6,OU o]
   have zJ:g[1]?=some (.cells 1 (lU pos (cx (nf s) s.n.toNat i))):=by rw [I 1 W];exact top
   have zK:g[h.length]?=some (.cells 2 [pi f,pi q]):=by rw [←v,O6];exact w _ _ _
   have zL:g[P]?=some (.cells 1 [pi f]):=by rw [←v,←hP,OY (OL _),Nat.sub_self];rfl
   have Io:g.length=h.length+3:=by rw [←v];simp
   have u:=b5 (x:=PV.sl 1 P 0 1 1) (l:=lU pos (cx (nf s) s.n.toNat i)) (k:=q) (by simpa using z);rw [hP,v];simp (maxSteps:=9^7)-implicitDefEqProofs [-getElem?_pos,OF,H,G,D,f16,f17,f18,zJ,zK,u,z,M,w,List.getElem?_concat_length,N];refine ⟨⟨by omega,by omega⟩,⟨by omega,by omega⟩,.for d ⟨fun j=>if j=q then P else pos j,?_,?_,by simp [H],by simp [G],by simp [D],by simp [f16],by simp [f17],by simp⟩⟩
   ·rw [lF V r]
    refine L.xm r (fun a o=>by simp at o;omega) (fun a o d=>?_) ?_ ?_ (by omega:h.length≤P)
    ·rw [O5 (Ne.symm d)];exact I a o
    ·rw [Pj (by omega)]
    ·rw [O5 (by omega)];exact zL
   ·rw [O5 (by omega),I 0 (by omega)];exact Y
  ·rw [ua,if_neg Q]at R
   obtain ⟨a1,a2,a3⟩:=L.off q c r Q;simp (maxSteps:=9^7)-implicitDefEqProofs [-getElem?_pos,OF,H,G,D,f16,f17,f18,d,bK,aG,t,z,T1,R,M,List.getElem?_concat_length];refine ⟨⟨by omega,by omega⟩,?_⟩;have w:∀(A B:PB) (l:PH),(h++A::B::l)[h.length]?=some A:=fun A B l=>by rw [OY (OL _),Nat.sub_self];rfl
   have C:∀(A B:PB) (l:PH),(h++A::B::l)[h.length+1]?=some B:=fun A B l=>by rw [OY (by omega),Nat.add_sub_cancel_left];rfl
   have A2:=L.lt r Q;have gD:=pH _ _ _ _ _ r;have qH:=J.nl;have Ip:pos q≠0:=fun q0=>a2 (by simp [q0])
   refine bM (cs:=c.map pi) (new:=[pi f]) (by rw [OU A2];exact a3) rfl (by simp [cP,C]) (by simp) (by decide) rfl (by simp [dt,C]) (by omega) (by omega) ?_
   obtain ⟨g,v⟩:∃g,(h++[PB.cells 2 [pi f,pi q],PB.cells 1 [pi f]]).set (pos q) (.cells 1 (c.map pi++[pi f]))=g:=⟨_,rfl⟩
   have Io:g.length=h.length+2:=by rw [←v];simp
   have I:∀a,a<h.length→a≠pos q→g[a]?=h[a]?:=fun a o cQ=>by rw [←v,O5 (Ne.symm cQ),OU o]
   have zJ:g[1]?=some (.cells 1 (lU pos (cx (nf s) s.n.toNat i))):=by rw [I 1 W (Ne.symm a1)];exact top
   have zK:g[h.length]?=some (.cells 2 [pi f,pi q]):=by rw [←v,O5 (by omega)];exact w _ _ _
   have zL:g[pos q]?=some (.cells 1 (c.map pi++[pi f])):=by rw [←v,Pj (by simp;omega)]
   have u:=b5 (x:=PV.sl 1 (pos q) 0 (c.length+1) (c.length+1)) (l:=lU pos (cx (nf s) s.n.toNat i)) (k:=q) (by simpa using z);rw [v];simp (maxSteps:=9^7)-implicitDefEqProofs [-getElem?_pos,OF,H,G,D,f16,f17,f18,zJ,zK,u,z,M,w,List.getElem?_concat_length,N];refine ⟨⟨by omega,by omega⟩,⟨by omega,by omega⟩,by omega,.for d ⟨pos,?_,?_,by simp [H],by simp [G],by simp [D],by simp [f16],by simp [f17],by simp⟩⟩
   ·rw [lF V r]
    refine L.xn r Q (fun a o d h2=>?_) ?_ ?_
    ·rw [O5 (Ne.symm d)];exact I a o h2
    ·rw [Pj (by omega)]
    ·rw [O5 (Ne.symm a1),zL]
     simp
   ·rw [O5 (by omega),I 0 (by omega) (Ne.symm Ip)];exact Y
 ·obtain rfl:i=s.nx.length:=by omega
  have Ir:∀(q:Nat) (c:List Int),(oc s)[q]?=some c→c.length≤2^40∧∀y∈c,0≤y∧y<(s.n.toNat:Int):=fun q c r=>⟨by have:=lE _ _ q c r;omega,fun y Z=>by
   obtain ⟨x,t,_,rfl⟩:=(ja r).1 Z;have:=X x t
   omega⟩
  have NQ:∀(q:Nat) (c:List Int),(fe s)[q]?=some c→c.length≤2^40∧∀y∈c,0≤y∧y<(s.n.toNat:Int):=fun q c r=>⟨by have:=lE _ _ q c r;omega,fun y Z=>by
   obtain ⟨x,t,_,rfl⟩:=(ja r).1 Z;obtain ⟨x',V,rfl⟩:=Pe.1 t;have:=X x' V;dsimp only
   omega⟩
  have NS:=pJ (to:=oc s) (from_:=s.st) (n:=s.n.toNat) (by omega) (by simp [oc]) kc (fun x t=>by have:=hS x t;omega) Ir;have xf:=pJ (to:=fe s) (from_:=s.en) (n:=s.n.toNat) (by omega) (by simp [fe]) u5 (fun x t=>by have:=hF x t;omega) NQ
  have L2:=L.jh (g:=h++[PB.cells 1 (fc (eg (oc s) s.st) s.n.toNat)]) (fun a o=>by
   rcases o with rfl|⟨k,c,e1,e2,rfl⟩
   ·rw [OU W]
   ·rw [OU (L.lt e1 e2)])
  have Iu:=L2.vz (A:=gf) (fun x=>trivial);rw [show cx (nf s) s.n.toNat s.nx.length=fe s from by rw [cx,←It,kD];rfl]at Iu;rw [show(fe s).length=s.n.toNat by simp [fe]]at Iu;simp (maxSteps:=9^7)-implicitDefEqProofs [-getElem?_pos,OF,H,G,D,f16,f17,f18,Y,aa];refine pv (NS) ?_ ?_ ?_
  iterate 2· simp (maxDischargeDepth:=8)-implicitDefEqProofs [-getElem?_pos,OF]
  simp (maxSteps:=9^7)-implicitDefEqProofs [-getElem?_pos,OF];refine zq xf ?_ (tq _ _) ?_
  ·simp
   exact jL Iu
  have w:∀(A B:PB),(h++[A,B])[h.length]?=some A:=fun A B=>by rw [OY (OL _),Nat.sub_self];rfl
  have C:∀(A B:PB),(h++[A,B])[h.length+1]?=some B:=fun A B=>by rw [OY (by omega),Nat.add_sub_cancel_left];rfl
  have kl:max s.n 0=s.n:=by omega
  have NT:h[0]?=some (.cells 6 [pi s.n,pi s.p,bO s.lab,bO s.st,bO s.en,bK s.nx]):=Y;simp (maxSteps:=9^7)-implicitDefEqProofs [-getElem?_pos,OF,w,C,List.getElem?_concat_length,NT,kl];refine a7 (fun i K h'=>h'=h++[.cells 1 (fc (fun q=>if q<i then ar s q else eg (oc s) s.st q) s.n.toNat),.cells 1 (fc (eg (fe s) s.en) s.n.toNat)]∧K.get 7= .sl 1 h.length 0 s.n.toNat s.n.toNat∧K.get 8= .sl 1 (h.length+1) 0 s.n.toNat s.n.toNat∧K.get 45=pi s.n∧K.get 46=pi i) s.n.toNat ⟨by simp,by simp,by simp,by simp,by simp⟩ ?_;clear H G D f16 f17 f18;rintro i K h' hi ⟨rfl,U,T,f45,f46⟩;by_cases d:i<s.n.toNat
  ·have h2:(i:Int)<s.n:=by omega
   have N:IntKind.i64.wrap ((i:Int)+1)=((i+1:Nat):Int):=aj ⟨by omega,by omega⟩;have S:=ct (fun q=>if q<i then ar s q else eg (oc s) s.st q) d;have g2:=ct (eg (fe s) s.en) d;simp only [Nat.lt_irrefl,if_false]at S;have u:=fun b=>b5 (x:=pb b) (l:=fc (fun q=>if q<i then ar s q else eg (oc s) s.st q) s.n.toNat) (k:=i) (by simpa using d)
   have od:∀b,b=ar s i→(fc (fun q=>if q<i then ar s q else eg (oc s) s.st q) s.n.toNat).set i (pb b)=fc (fun q=>if q<i+1 then ar s q else eg (oc s) s.st q) s.n.toNat:=fun b hb=>by
    apply List.ext_getElem?;intro j;by_cases hj:j<s.n.toNat
    ·rw [ct _ hj]
     by_cases e:i=j
     ·subst e
      rw [Pj (by simpa using hj),hb,if_pos (by omega)]
     ·rw [O5 e,ct _ hj]
      by_cases h4:j<i
      ·rw [if_pos h4,if_pos (by omega)]
      ·rw [if_neg h4,if_neg (by omega)]
    ·rw [Pn (by simp;omega),Pn (by simp;omega)]
   have KS:∀(A A' B:PB),(h++[A,B]).set h.length A'=h++[A',B]:=fun A A' B=>by rw [List.set_append_right _ _ (OL _),Nat.sub_self];rfl
   cases o:eg (oc s) s.st i with
   |true=>
    rw [o]at S;have hu:=od (eg (fe s) s.en i) (by rw [ar,o];rfl);have u:=u (eg (fe s) s.en i);rw [hu]at u;simp (maxSteps:=9^7)-implicitDefEqProofs [-getElem?_pos,OF,U,T,f45,f46,h2,d,w,C,S,g2,u,KS,N];exact ⟨⟨by omega,by omega⟩,⟨by omega,by omega⟩,.for d ⟨rfl,by simp [U],by simp [T],by simp [f45],by simp⟩⟩
   |false=>
    rw [o]at S;have hu:=od false (by rw [ar,o];rfl);have u:=u false;rw [hu]at u;simp (maxSteps:=9^7)-implicitDefEqProofs [-getElem?_pos,OF,U,T,f45,f46,h2,d,w,C,S,g2,u,KS,N];exact ⟨⟨by omega,by omega⟩,⟨by omega,by omega⟩,.for d ⟨rfl,by simp [U],by simp [T],by simp [f45],by simp⟩⟩
  ·have h2:¬ (i:Int)<s.n:=by omega
   have e:i=s.n.toNat:=by omega
   have Iv:fc (fun q=>if q<i then ar s q else eg (oc s) s.st q) s.n.toNat=fc (ar s) s.n.toNat:=by
    unfold fc;apply List.map_congr_left;intro q z;dsimp only;rw [if_pos (by have:=List.mem_range.1 z;omega)]
   rw [Iv];simp (maxSteps:=9^7)-implicitDefEqProofs [-getElem?_pos,OF,U,T,f45,f46,h2,w,C]
end P
namespace P
open Go Go.RowKit
def KT (P:Int→Bool):List Int→Nat
 |[]=>0
 |x::l=>KT P l+if P x=true then 1 else 0
def bk (l:List Int):Nat:=KT (fun x=>decide (0<x)) l
def Ed (s:Sy) (q r:Nat):Prop:=∃c y,(oc s)[q]?=some c∧y∈c∧y.toNat=r∧ar s r=true
structure Rk (s:Sy) (L:List Int):Prop where
 dn:∀(q:Nat) (v:Int),L[q]?=some v→0<v→∀r,Ed s q r→∃w,L[r]?=some w∧0<w∧w<v
 at_:∀(q:Nat) (v:Int),L[q]?=some v→0<v→v=1∨∃r,Ed s q r∧L[r]?=some (v- 1)
 le:∀(q:Nat) (v:Int),L[q]?=some v→v≤bk L
 ge:∀(q:Nat) (v:Int),L[q]?=some v→-1≤v
open Go Go.RowKit
end P
namespace P
open Go Go.RowKit
open Go Go.RowKit
structure Rg (s:Sy):Prop where
 nx:∀x∈s.nx,(0≤x.1∧x.1<s.n)∧0≤x.2∧x.2<s.n
 st:∀x∈s.st,0≤x∧x<s.n
 en:∀x∈s.en,0≤x∧x<s.n
 sl:s.st.length≤2^30
 el:s.en.length≤2^30
theorem oe {n:Int} {l:List Int} (h:fb n l=true):∀(i:Nat) (x:Int),l[i]?=some x→(i:Int)≤x∧x<n
 |0,x,e=>by
  have:=cZ.1 h 0 (ON.1 e).1;rw [gQ,aU e]at this;simp at this;omega
 |i+1,x,e=>by
  have b:=(ON.1 e).1;have:=cZ.1 h (i+1) b;rw [gQ,aU e]at this
  obtain ⟨y,a⟩:∃y,l[i]?=some y:=⟨_,OG (by omega)⟩
  have h2:=oe h i y a;rw [show i+1- 1=i from rfl,aU a]at this;simp at this;omega
theorem pL {n:Int} {l:List Int} (h:fb n l=true):∀x∈l,0≤x∧x<n:=fun x a=>by
 obtain ⟨i,hi⟩:=List.getElem?_of_mem a;have:=oe h i x hi;omega
theorem pM {n:Int} {l:List Int} (h:fb n l=true) (a:n≤256):l.length≤2^30:=by
 refine Decidable.byContradiction fun k=>?_
 have:=oe h 256 _ (OG (by omega));omega
theorem mK.rg {s:Sy} (h:mK s):Rg s where
 nx:=fun x a=>by
  obtain ⟨i,hi⟩:=List.getElem?_of_mem a;have:=cZ.1 h.nx i (ON.1 hi).1;rw [fG,aU hi]at this;simp only [OK,OT]at this;exact this.1
 st:=pL h.st
 en:=pL h.en
 sl:=pM h.st h.n.2
 el:=pM h.en h.n.2
theorem Rg.Iw {s:Sy} (h:Rg s) (y:mK s):qz s.nx:=fun x a=>by
 have:=h.nx x a;have:=y.n;omega
theorem Rg.Ix {s:Sy} (h:Rg s) (y:mK s):n6 s.st:=fun x a=>by
 have:=h.st x a;have:=y.n;omega
theorem Rg.Iy {s:Sy} (h:Rg s) (y:mK s):n6 s.en:=fun x a=>by
 have:=h.en x a;have:=y.n;omega
theorem pN {S S':Nat} (h:∀q,S.testBit q=true→S'.testBit q=true):∀n,un S' n≤un S n
 |0=>OL _
 |n+1=>by
  have:=pN h n;rw [un,un];by_cases e:S.testBit n=true
  ·rw [if_pos e,if_pos (h n e)];omega
  ·rw [if_neg e];split<;>omega
theorem xp {S S':Nat} (h:∀q,S.testBit q=true→S'.testBit q=true) {q:Nat} (a:S'.testBit q=true) (h2:¬ S.testBit q=true):∀{n:Nat},q<n→un S' n+1≤un S n
 |0,k=>by omega
 |n+1,k=>by
  rw [un,un];by_cases e:q=n
  ·subst e
   have:=pN h q;rw [if_pos a,if_neg h2];omega
  ·have:=xp h a h2 (n:=n) (by omega)
   by_cases e:S.testBit n=true
   ·rw [if_pos e,if_pos (h n e)];omega
   ·rw [if_neg e];split<;>omega
theorem pO {S:Nat}:∀{n:Nat},un S n=0→∀q,q<n→S.testBit q=true
 |0,_,q,k=>by omega
 |n+1,h,q,k=>by
  rw [un]at h;by_cases e:q=n
  ·subst e
   refine Decidable.byContradiction fun c=>?_
   rw [if_neg c]at h;omega
  ·exact pO (n:=n) (by omega) q (by omega)
theorem tw (f:Nat→Nat) (N k q:Nat) (h:(j8 f N k).testBit q=true):(j8 f N (k+1)).testBit q=true:=by
 rw [j8,Nat.testBit_or,h];rfl
structure ub (E:List (Int×Int)) (n:Nat) (f:Nat→Nat):Prop where
 bit:∀N q,(f N).testBit q=true↔∃x∈E,N.testBit x.1.toNat=true∧x.2.toNat=q
 rg:∀x∈E,x.1.toNat<n∧x.2.toNat<n
theorem ub.sound {E:List (Int×Int)} {n:Nat} {f:Nat→Nat} (h:ub E n f) (a:List Int):∀(k q:Nat),(j8 f (eE a) k).testBit q=true→vW (ke E n) a q
 |0,q,e=>by
  obtain ⟨x,b,rfl⟩:=(ef a q).1 e;exact .base b
 |k+1,q,e=>by
  rw [j8,Nat.testBit_or,Bool.or_eq_true]at e;rcases e with e|e
  ·exact h.sound a k q e
  ·obtain ⟨x,b,g,rfl⟩:=(h.bit _ _).1 e
   obtain ⟨c,d⟩:∃c,(ke E n)[x.1.toNat]?=some c:=⟨_,OG (by simpa using(h.rg x b).1)⟩
   exact .step (h.sound a k _ g) d ((ja d).2 ⟨x,b,rfl,rfl⟩)
def C5 (f:Nat→Nat) (N:Nat):Prop:=∀q,(f N).testBit q=true→N.testBit q=true
theorem C5.it {f:Nat→Nat} {N k:Nat} (h:C5 f (j8 f N k)):j8 f N (k+1)=j8 f N k:=Nat.eq_of_testBit_eq fun i=>by
 rw [Pd];refine ⟨fun e=>?_,tw f N k i⟩;rw [j8,Nat.testBit_or,Bool.or_eq_true]at e;exact e.elim id (h i)
theorem ub.KU {E:List (Int×Int)} {n:Nat} {f:Nat→Nat} (h:ub E n f) (N:Nat):∀k,C5 f (j8 f N k)∨un (j8 f N k) n+k≤n
 |0=>.inr (by rw [Nat.add_zero];exact tt _ _)
 |k+1=>by
  by_cases c:C5 f (j8 f N k)
  ·exact .inl (by rw [c.it];exact c)
  ·rcases h.KU N k with b|b
   ·exact absurd b c
   ·refine .inr ?_
    obtain ⟨q,g⟩:=Classical.not_forall.1 c;obtain ⟨a,h2⟩:=Classical.not_imp.1 g
    have e:q<n:=by
     obtain ⟨x,d,_,rfl⟩:=(h.bit _ _).1 a;exact (h.rg x d).2
    have:=xp (tw f N k) (by rw [j8,Nat.testBit_or,a,Bool.or_true]) h2 e;omega
theorem ub.fin {E:List (Int×Int)} {n:Nat} {f:Nat→Nat} (h:ub E n f) (N:Nat):C5 f (j8 f N n):=by
 rcases h.KU N n with c|c
 ·exact c
 ·intro q e
  obtain ⟨x,a,_,rfl⟩:=(h.bit _ _).1 e;exact pO (n:=n) (by omega) _ (h.rg x a).2
theorem pP (f:Nat→Nat) (N q:Nat) (h:N.testBit q=true):∀k,(j8 f N k).testBit q=true
 |0=>h
 |k+1=>tw f N k q (pP f N q h k)
theorem ub.KV {E:List (Int×Int)} {n:Nat} {f:Nat→Nat} (h:ub E n f) (b:List Int) (q:Nat):(j8 f (eE b) n).testBit q=eg (ke E n) b q:=by
 rw [Pd,mP];refine ⟨h.sound b n q,fun k=>?_⟩
 induction k with
 |base a=>exact pP _ _ _ ((ef _ _).2 ⟨_,a,rfl⟩) _
 |step _ d c ih=>
  obtain ⟨x,a,rfl,rfl⟩:=(ja d).1 c;exact h.fin _ _ ((h.bit _ _).2 ⟨x,a,ih,rfl⟩)
theorem Rg.next {s:Sy} (h:Rg s):ub s.nx s.n.toNat (jS s):=⟨qA s,fun x a=>by have:=h.nx x a;omega⟩
theorem Rg.ahead {s:Sy} (h:Rg s):ub (nf s) s.n.toNat (gh s):=⟨fun N q=>by
 rw [n7]
 exact ⟨fun⟨x,c,h2,b⟩=>⟨_,Pe.2 ⟨x,c,rfl⟩,h2,b⟩,fun⟨y,c,h2,b⟩=>by
  obtain ⟨x,a,rfl⟩:=Pe.1 c
  exact ⟨x,a,h2,b⟩⟩,fun x a=>by
 obtain ⟨y,d,rfl⟩:=Pe.1 a;have:=h.nx y d;simp only
 omega⟩
theorem tz {s:Sy} (h:Rg s) (q:Nat):(aC s).testBit q=ar s q:=by
 rw [aC,Nat.testBit_and,gU,c6,h.next.KV,h.ahead.KV];rfl
end P
namespace P
open Go Go.RowKit
theorem pQ {A:Nat→Prop} {d:Nat→Nat} {h k:PH} {b:Nat} {p q:PV} (g:A b) (a:h[b]?=some (.cells 1 [p])) (v:Vz A h p q):Vg A d h k (.ref b 0 1) (.fp [q]):=fun F H c x S R=>by
 cases R with
 |ref n o le l=>
  obtain rfl:=l ⟨1,[p],a,rfl⟩;obtain ⟨m,f,e,j⟩:=S.cells (t:=0) a (by simp)
  cases e with
  |cons i h2=>
   cases h2;exact .fp (.inr ⟨b,g,aO a (by simp),rfl⟩) (by rw [ez f j (by simp)];rfl) (.cons (v F H c _ S i) .nil)
theorem jT {n:Nat} {Q:Ex→PF→PH→Prop} {b:List Kp} {a:PF} {h:PH} {m:Mp} {l:List AO} {d:Option Nat} {f:Nat} {x:X} {first cap:List PV} {us:List X} {args:List PV} {sz k:Nat} {cs:List PV} (c:bX a x= .fn f first cap) (q:Fo E O f args sz k cs) (e:fN gf id h [] (first++us.map (bX a)++cap) args) (g:cG cs=true)
 (next:PK E O n Q (.ops (m.up [] (a.aw d (.sl sz h.length 0 k k)) (h++[.cells sz cs])) l b) (a.aw d (.sl sz h.length 0 k k)) (h++[.cells sz cs])):PK E O n Q (.ops m (⟨none,d,.callv x us⟩::l) b) a h:=
 qt (W:=[]) c rfl ((ek.CL q g e).mono (by rintro i j ⟨rfl,rfl⟩;exact next))
def rk (P:Nat→Bool):Nat→Nat
 |0=>0
 |i+1=>rk P i+if P i=true then 1 else 0
theorem jU (P:Nat→Bool):∀i,rk P i≤i
 |0=>OL _
 |i+1=>by rw [rk];have:=jU P i;split<;>omega
def AL (P:Nat→Bool) (n:Nat):PV:=.fs 1 ((List.range n).map fun q=>[pb (P q)])
theorem vY (P:Nat→Bool) {n q:Nat} (h:q<n):((List.range n).map fun q=>[pb (P q)])[q]?=some [pb (P q)]:=by simp [h]
def kf (P:Nat→Bool) (n:Nat):List Int:=(List.range n).map fun q=>if P q=true then(rk P q:Int)else-1
@[simp]theorem lH (P:Nat→Bool) (n:Nat):(kf P n).length=n:=by simp [kf]
theorem lI {P:Nat→Bool} {n q:Nat} (h:q<n) (a:P q=true):(kf P n)[q]?=some (rk P q:Int):=by simp [kf,h,a]
def aX (P:Nat→Bool) (l:List Int):List Int:=(l.filter fun x=>P x.toNat).map fun x=>(rk P x.toNat:Int)
theorem vZ {P:Nat→Bool} {l:List Int} {i:Nat} {x:Int} (h:l[i]?=some x):aX P (l.take (i+1))=aX P (l.take i)++if P x.toNat=true then [(rk P x.toNat:Int)]else []:=by
 rw [O2,h,aX,List.filter_append,List.map_append];congr 1;by_cases e:P x.toNat=true
 ·simp [e]
 ·simp [e]
theorem mQ (P:Nat→Bool) (l:List Int):(aX P l).length≤l.length:=by rw [aX,List.length_map];exact List.length_filter_le _ _
def qR (P:Nat→Bool) (n:Nat) (l:List Int) (k i:Nat):List (Nat×PV):=[(1,.fp [AL P n]),(2,.fp [bO (kf P n)]),(4,.sl 1 0 0 k k),(7,bO l),(8,pi l.length),(9,pi i)]
def KW (P:Nat→Bool) (n:Nat) (l:List Int) (i:Nat) (fr:PF) (h:PH):Prop:=h=[.cells 1 ((aX P (l.take i)).map pi)]∧∀t∈qR P n l (aX P (l.take i)).length i,fr.get t.1=t.2
theorem pR {P:Nat→Bool} {n:Nat} {l:List Int} {i:Nat}:KW P n l i (PF.s6 (qR P n l (aX P (l.take i)).length i)) [.cells 1 ((aX P (l.take i)).map pi)]:=⟨rfl,fun t a=>by
 simp only [qR,OZ,Ph,or_false]at a
 rcases a with rfl|rfl|rfl|rfl|rfl|rfl<;>simp [qR]⟩
theorem tA {P:Nat→Bool} {n:Nat} {l:List Int} (C:n≤256) (D:l.length≤2^30) (y:∀x∈l,0≤x∧x<n):Fo E O 58 [bO l,.fp [AL P n],.fp [bO (kf P n)]] 1 (aX P l).length ((aX P l).map pi):=by
 refine Fo.body (F:=DU) rfl rfl rfl (by simp) (by simp) ?_;simp (maxSteps:=9^7)-implicitDefEqProofs [-getElem?_pos,OF,DU];refine cT (KW P n l) l.length (a6 (h2:=[.cells 1 ((aX P (l.take 0)).map pi)]) [9] (qR P n l (aX P (l.take 0)).length 0) ?_ ?_ ?_ ?_ ?_ ?_) pR ?_
 ·simp [qR,aX]
 iterate 2· simp
 ·intro b A;omega
 iterate 2· simp (maxDischargeDepth:=8)-implicitDefEqProofs [aq,OF,qR,aX]
 rintro i G h hi ⟨rfl,v⟩;simp only [qR,OZ,Ph,or_false,forall_eq_or_imp,forall_eq]at v;obtain ⟨e,d,j,c,a,r⟩:=v;have s:=mQ P (l.take i);rw [List.length_take]at s;by_cases g:i<l.length
 ·obtain ⟨x,k⟩:∃x,l[i]?=some x:=⟨_,OG g⟩
  obtain ⟨w,B⟩:=y x (OM k);obtain ⟨q,rfl⟩:=Int.eq_ofNat_of_zero_le w;have o:q<n:=by omega
  have u:IntKind.i64.wrap ((i:Int)+1)=((i+1:Nat):Int):=aj ⟨by omega,by omega⟩;have p:=vY P o;have f:=vZ (P:=P) k;rw [Int.toNat_natCast]at f
  cases t:P q with
  |false=>
   rw [t]at p f;have m:aX P (l.take (i+1))=aX P (l.take i):=by rw [f];simp
   simp (maxSteps:=9^7)-implicitDefEqProofs [-getElem?_pos,OF,e,d,j,c,a,r,g,aI,k,AL,o,p,u];refine .for g ⟨by rw [m],?_⟩;rw [m];simp [qR,e,d,j,c,a]
  |true=>
   rw [t]at p f;have z:=lI o t;have m:aX P (l.take (i+1))=aX P (l.take i)++[(rk P q:Int)]:=by rw [f];simp
   have S:=pR (P:=P) (n:=n) (l:=l) (i:=i+1);rw [m]at S;simp (maxSteps:=9^7)-implicitDefEqProofs [-getElem?_pos,OF,e,d,j,c,a,r,g,aI,k,AL,o,p,z,lH];apply bM
   iterate 9· first|rfl|omega|(simp-implicitDefEqProofs [-getElem?_pos,OF];first|done|rfl|omega)
   simp (maxSteps:=9^7)-implicitDefEqProofs [-getElem?_pos,OF,e,d,j,c,a,r,u];refine .iL g (a6 (h2:=[.cells 1 ((aX P (l.take i)++[(rk P q:Int)]).map pi)]) [0] (qR P n l ((aX P (l.take i)).length+1) (i+1)) ?_ ?_ ?_ ?_ ?_ ?_) (by simpa using S)
   ·simp [qR,e,d,c,a]
   iterate 2· simp
   ·intro b A;omega
   iterate 2· simp (maxDischargeDepth:=8)-implicitDefEqProofs [aq,OF,qR,e,d,c,a]
 ·obtain rfl:i=l.length:=by omega
  rw [List.take_length]at*;simp (maxSteps:=9^7)-implicitDefEqProofs [-getElem?_pos,OF,e,d,j,c,a,r]
set_option maxHeartbeats 2000000
open Go Go.RowKit
theorem mR (P:Nat→Bool) (n:Nat):((List.range n).map fun q=>[pb (P q)]).flatten=fc P n:=by
 unfold fc
 induction List.range n with
 |nil=>rfl
 |cons a l ih=>simp [ih]
theorem zN {A:Nat→Prop} {h:PH} {b n:Nat} {P:Nat→Bool} (c:A b) (a:h[b]?=some (.cells 1 (fc P n))):Vz A h (.sl 1 b 0 n n) (AL P n):=
 gP c (by rw [mR];exact a) Nat.one_pos (by simp) (by simp) (eB (by rw [mR];simp [fc,AG]))
theorem il:∀l:List Int,cG (l.map pi)=true
 |[]=>rfl
 |x::l=>by simp [il l]
def zY:List PV:=[pi 0,pi 0,e8,e8,e8,e8]
def dS (P:Nat→Bool) (lab:List Int):Nat→List Int
 |0=>[]
 |i+1=>if P i=true then dS P lab i++[lab.getD i 0]else dS P lab i
@[simp]theorem ff (P:Nat→Bool) (lab:List Int):∀i,(dS P lab i).length=rk P i
 |0=>rfl
 |i+1=>by
  rw [dS,rk];split
  ·rw [OQ,ff P lab i];rfl
  ·exact ff P lab i
def mS (P:Nat→Bool) (l:List (Int×Int)):List (Int×Int):=(l.filter fun x=>P x.1.toNat&&P x.2.toNat).map fun x=>((rk P x.1.toNat:Int),(rk P x.2.toNat:Int))
theorem C6 {P:Nat→Bool} {l:List (Int×Int)} {i:Nat} {x:Int×Int} (h:l[i]?=some x):mS P (l.take (i+1))=mS P (l.take i)++if(P x.1.toNat&&P x.2.toNat)=true then [((rk P x.1.toNat:Int),(rk P x.2.toNat:Int))]else []:=by
 rw [O2,h,mS,List.filter_append,List.map_append];congr 1;by_cases e:(P x.1.toNat&&P x.2.toNat)=true
 ·rw [if_pos e];simp [e]
 ·rw [if_neg e];simp [e]
theorem tB (P:Nat→Bool) (l:List (Int×Int)):(mS P l).length≤l.length:=by rw [mS,List.length_map];exact List.length_filter_le _ _
noncomputable def uY (s:Sy):Sy:={n:=rk (ar s) s.n.toNat,p:=s.p,lab:=dS (ar s) s.lab s.n.toNat,st:=aX (ar s) s.st,en:=aX (ar s) s.en,nx:=mS (ar s) s.nx}
def cc (P:Nat→Bool) (n i:Nat):List Int:=(List.range n).map fun q=>if q<i then(if P q=true then(rk P q:Int)else-1)else 0
@[simp]theorem C7 (P:Nat→Bool) (n i:Nat):(cc P n i).length=n:=by simp [cc]
theorem gW {P:Nat→Bool} {n i:Nat} {v:Int} (h:i<n) (a:v=if P i=true then(rk P i:Int)else-1):(cc P n i).set i v=cc P n (i+1):=by
 apply List.ext_getElem?;intro j;by_cases e:i=j
 ·subst e
  rw [Pj (by simpa using h)];simp [cc,h,a]
 ·rw [O5 e]
  by_cases b:j<n
  ·simp [cc,b]
   congr 1;simp only [show(j<i)↔(j<i+1) from by omega]
  ·rw [Pn (by simp;omega),Pn (by simp;omega)]
theorem mT (P:Nat→Bool) (n:Nat):cc P n n=kf P n:=by
 unfold cc kf;exact List.map_congr_left fun q a=>by rw [if_pos (List.mem_range.1 a)]
theorem kF (P:Nat→Bool) (n:Nat):(cc P n 0).map pi=List.replicate n (pi 0):=by
 apply List.ext_getElem?;intro j;by_cases a:j<n
 ·simp [cc,a]
 ·rw [Pn (by simp;omega),Pn (by simp;omega)]
theorem qE {s:Sy} (ok:mH s) (a:qQ s=false):Fz E O 22 [.agg (aa s)] (.dB [.agg zY,pi 250]):=by
 refine ek.body (F:=Ap) rfl rfl rfl ?_;have e:kd s=250:=by simp [kd,a]
 simp (maxSteps:=9^7)-implicitDefEqProofs [-getElem?_pos,OF,Ap,aa];refine aD (pC ok) ?_ ?_ ?_
 iterate 2· simp (maxDischargeDepth:=8)-implicitDefEqProofs [-getElem?_pos,OF,aa]
 simp (maxSteps:=9^7)-implicitDefEqProofs [-getElem?_pos,OF,e,zY];refine ae ?_;simp
noncomputable def UB (s:Sy) (k j:Nat):PH:=[.cells 6 (aa s),.cells 6 zY,.cells 1 (fc (ar s) s.n.toNat),.cells 1 [.sl 1 2 0 s.n.toNat s.n.toNat],.cells 1 ((kf (ar s) s.n.toNat).map pi),.cells 1 [.sl 1 4 0 s.n.toNat s.n.toNat],
 .cells 6 [pi k,pi s.p,.sl 1 7 0 k k,.sl 1 8 0 (aX (ar s) s.st).length (aX (ar s) s.st).length,.sl 1 9 0 (aX (ar s) s.en).length (aX (ar s) s.en).length,.sl 2 10 0 (mS (ar s) (s.nx.take j)).length (mS (ar s) (s.nx.take j)).length],
 .cells 1 ((dS (ar s) s.lab s.n.toNat).map pi),.cells 1 ((aX (ar s) s.st).map pi),.cells 1 ((aX (ar s) s.en).map pi),.cells 2 (iY (mS (ar s) (s.nx.take j))).flatten]
def mU (s:Sy) (j:Nat):List (Nat×PV):=[(1,.ref 0 0 6),(2,.ref 1 0 6),(5,.ref 3 0 1),(6,.ref 5 0 1),(7,.ref 6 0 6),(74,bK s.nx),(75,pi s.nx.length),(76,pi j)]
def KX (s:Sy) (k j:Nat) (fr:PF) (h:PH):Prop:=h=UB s k j∧∀t∈mU s j,fr.get t.1=t.2
theorem pS {s:Sy} {k j:Nat}:KX s k j (PF.s6 (mU s j)) (UB s k j):=⟨rfl,fun t a=>by
 simp only [mU,OZ,Ph,or_false]at a
 rcases a with rfl|rfl|rfl|rfl|rfl|rfl|rfl|rfl<;>simp [mU]⟩
theorem bn:∀l:List (Int×Int),(iY l).flatten.length=l.length*2
 |[]=>rfl
 |x::l=>by
  have:=bn l;simp only [iY,List.map_cons,List.flatten_cons,OQ,List.length_cons,List.length_nil]at*;omega
theorem cu:∀l:List (Int×Int),bW (iY l).flatten=true
 |[]=>rfl
 |x::l=>by
  have:=cu l;simp only [iY,List.map_cons,List.flatten_cons]at*;rw [aq];exact ⟨rfl,this⟩
theorem bN (l:List (Int×Int)) (x:Int×Int):(iY (l++[x])).flatten=(iY l).flatten++[pi x.1,pi x.2]:=by simp [iY]
noncomputable def UA (s:Sy) (i:Nat):PH:=[.cells 6 (aa s),.cells 6 zY,.cells 1 (fc (ar s) s.n.toNat),.cells 1 [.sl 1 2 0 s.n.toNat s.n.toNat],.cells 1 ((cc (ar s) s.n.toNat i).map pi),.cells 1 [.sl 1 4 0 s.n.toNat s.n.toNat],.cells 6 [pi (rk (ar s) i),pi s.p,.sl 1 7 0 (rk (ar s) i) (rk (ar s) i),e8,e8,e8],.cells 1 ((dS (ar s) s.lab i).map pi)]
def qS (s:Sy) (i:Nat):List (Nat×PV):=[(1,.ref 0 0 6),(2,.ref 1 0 6),(5,.ref 3 0 1),(6,.ref 5 0 1),(7,.ref 6 0 6),(27,.sl 1 2 0 s.n.toNat s.n.toNat),(28,pi s.n),(29,pi i)]
def KY (s:Sy) (i:Nat) (fr:PF) (h:PH):Prop:=h=UA s i∧∀t∈qS s i,fr.get t.1=t.2
theorem pT {s:Sy} {i:Nat}:KY s i (PF.s6 (qS s i)) (UA s i):=⟨rfl,fun t a=>by
 simp only [qS,OZ,Ph,or_false]at a
 rcases a with rfl|rfl|rfl|rfl|rfl|rfl|rfl|rfl<;>simp [qS]⟩
theorem tC {s:Sy} (ok:mH s) (K:mK s) (hE:∀x∈s.nx,(0≤x.1∧x.1<s.n)∧0≤x.2∧x.2<s.n) (hS:∀x∈s.st,0≤x∧x<s.n) (hF:∀x∈s.en,0≤x∧x<s.n) (kc:s.st.length≤2^30) (u5:s.en.length≤2^30):
 Fz E O 22 [.agg (aa s)] (if rk (ar s) s.n.toNat=0 then .dB [.agg zY,pi 4]else .dB [.agg (aa (uY s)),pi 0]):=by
 refine ek.body (F:=Ap) rfl rfl rfl ?_;have xl:=K.n;have qH:=K.nl;have NY:=K.len;have e:kd s=0:=by simp [kd,gT.2 K]
 have T:max s.n 0=s.n:=by omega
 have hw:IntKind.i64.wrap s.n=s.n:=aj ⟨by omega,by omega⟩;have C8:List.replicate s.n.toNat (PV.v (.int .i64 0))=(cc (ar s) s.n.toNat 0).map pi:=(kF _ _).symm;simp (maxSteps:=9^7)-implicitDefEqProofs [-getElem?_pos,OF,Ap,aa];refine aD (pC ok) ?_ ?_ ?_
 iterate 2· simp (maxDischargeDepth:=8)-implicitDefEqProofs [-getElem?_pos,OF,aa]
 simp (maxSteps:=9^7)-implicitDefEqProofs [-getElem?_pos,OF,e,aa];refine pv (tv ok K hE hS hF kc u5) ?_ ?_ ?_
 iterate 2· simp (maxDischargeDepth:=8)-implicitDefEqProofs [-getElem?_pos,OF,aa]
 simp (maxSteps:=9^7)-implicitDefEqProofs [-getElem?_pos,OF,aa,hw,C8];refine ⟨⟨by omega,by omega⟩,?_⟩;refine cT (KY s) s.n.toNat (a6 (h2:=UA s 0) [0,1,2,3,4,5,6,99] (qS s 0) ?_ ?_ ?_ ?_ ?_ ?_) pT ?_
 ·simp [UA,qS,aa,zY,dS,rk,T]
 iterate 2· simp
 ·intro b B;omega
 iterate 2· simp (maxDischargeDepth:=8)-implicitDefEqProofs [aq,OF,UA,qS,aa,zY,dS,rk,T]
 rintro i fr h hi ⟨rfl,M⟩;simp only [qS,OZ,Ph,or_false,forall_eq_or_imp,forall_eq]at M;obtain ⟨g,f,d,c,a,f27,f28,f29⟩:=M;have u6:=jU (ar s) i;by_cases t:i<s.n.toNat
 ·have uc:(i:Int)<s.n:=by omega
  have G:IntKind.i64.wrap ((i:Int)+1)=((i+1:Nat):Int):=aj ⟨by omega,by omega⟩;have U:=ct (ar s) t;have fQ:∀v,ig ((cc (ar s) s.n.toNat i).map pi) i [v]=((cc (ar s) s.n.toNat i).map pi).set i v:=fun v=>b5 (by simpa using t)
  cases u:ar s i with
  |false=>
   rw [u]at U;have Q:rk (ar s) (i+1)=rk (ar s) i:=by rw [rk,u];simp
   have X:dS (ar s) s.lab (i+1)=dS (ar s) s.lab i:=by rw [dS,u];simp
   have W:((cc (ar s) s.n.toNat i).map pi).set i (pi (-1))=(cc (ar s) s.n.toNat (i+1)).map pi:=by rw [←List.map_set,gW t (by simp [u])]
   simp (maxSteps:=9^7)-implicitDefEqProofs [-getElem?_pos,OF,g,f,d,c,a,f27,f28,f29,t,uc,UA,U,fQ,W,G];exact ⟨⟨by omega,by omega⟩,⟨by omega,by omega⟩,.for t ⟨by simp [UA,Q,X],by simp [qS,g,f,d,c,a,f27,f28]⟩⟩
  |true=>
   rw [u]at U;have Q:rk (ar s) (i+1)=rk (ar s) i+1:=by rw [rk,u];simp
   obtain ⟨lb,C9⟩:∃lb,s.lab[i]?=some lb:=⟨_,OG (by omega)⟩
   have X:dS (ar s) s.lab (i+1)=dS (ar s) s.lab i++[lb]:=by rw [dS,u,aU C9];simp
   have W:((((cc (ar s) s.n.toNat i).map pi).set i (pi (-1))).set i (pi (rk (ar s) i)))=(cc (ar s) s.n.toNat (i+1)).map pi:=by rw [List.set_set,←List.map_set,gW t (by simp [u])]
   have Iz:∀v w,ig (((cc (ar s) s.n.toNat i).map pi).set i w) i [v]=(((cc (ar s) s.n.toNat i).map pi).set i w).set i v:=fun v w=>b5 (by simpa using t)
   obtain ⟨k,I⟩:∃k,rk (ar s) i=k:=⟨_,rfl⟩
   have w5:IntKind.i64.wrap ((k:Int)+1)=((k+1:Nat):Int):=aj ⟨by omega,by omega⟩;rw [I]at Q W u6;have H:=ff (ar s) s.lab i;rw [I]at H;have S:=pT (s:=s) (i:=i+1);simp (maxSteps:=9^7)-implicitDefEqProofs [-getElem?_pos,OF,g,f,d,c,a,f27,f28,f29,t,uc,UA,U,fQ,Iz,I,W,G,w5,aa,aI,C9,zY];refine ⟨⟨by omega,by omega⟩,⟨by omega,by omega⟩,⟨by omega,by omega⟩,⟨by omega,by omega⟩,by omega,?_⟩;apply bM
   iterate 9· first|rfl|omega|(simp-implicitDefEqProofs [-getElem?_pos,OF,H];first|done|rfl|omega)
   simp (maxSteps:=9^7)-implicitDefEqProofs [-getElem?_pos,OF,g,f,d,c,a,f27,f28,f29,G];refine .iL t (a6 (h2:=UA s (i+1)) [0,1,2,3,4,5,6,7] (qS s (i+1)) ?_ ?_ ?_ ?_ ?_ ?_) S
   ·simp [UA,qS,aa,zY,Q,X,H,g,f,d,c,a,f27,f28]
   iterate 2· simp
   ·intro b B;omega
   iterate 2· simp (maxDischargeDepth:=8)-implicitDefEqProofs [aq,OF,UA,qS,aa,zY,Q,X,H,g,f,d,c,a,f27,f28]
 ·obtain rfl:i=s.n.toNat:=by omega
  by_cases h0:rk (ar s) s.n.toNat=0
  ·simp (maxSteps:=9^7)-implicitDefEqProofs [-getElem?_pos,OF,g,f,d,c,a,f27,f28,f29,UA,h0,T,zY]
   refine ae ?_;simp
  ·have Fs:¬ ((rk (ar s) s.n.toNat:Nat):Int)=0:=by omega
   have IA:=mT (ar s) s.n.toNat;have H:=ff (ar s) s.lab s.n.toNat
   obtain ⟨k,I⟩:∃k,rk (ar s) s.n.toNat=k:=⟨_,rfl⟩
   rw [I]at h0 Fs H;simp (maxSteps:=9^7)-implicitDefEqProofs [-getElem?_pos,OF,g,f,d,c,a,f27,f28,f29,UA,I,h0,Fs,T,zY,aa,IA]
   have vb:∀{h C:PH},h[3]?=some (.cells 1 [.sl 1 2 0 s.n.toNat s.n.toNat])→h[2]?=some (.cells 1 (fc (ar s) s.n.toNat))→(Vg gf id h C (.ref 3 0 1) (.fp [AL (ar s) s.n.toNat])↔True):=fun t h2=>⟨fun _=>trivial,fun _=>pQ trivial t (zN trivial h2)⟩
   have vt:∀{h C:PH},h[5]?=some (.cells 1 [.sl 1 4 0 s.n.toNat s.n.toNat])→h[4]?=some (.cells 1 ((kf (ar s) s.n.toNat).map pi))→(Vg gf id h C (.ref 5 0 1) (.fp [bO (kf (ar s) s.n.toNat)])↔True):=fun t h2=>⟨fun _=>trivial,fun _=>pQ trivial t (by have:=jP (A:=gf) (l:=kf (ar s) s.n.toNat) trivial h2;rwa [lH]at this)⟩
   refine jT (first:=[]) (cap:=[.ref 3 0 1,.ref 5 0 1]) ?_ (tA (P:=ar s) (n:=s.n.toNat) (by omega) kc (fun x z=>by have:=hS x z;omega)) ?_ ?_ ?_
   ·simp
   ·simp [vb,vt]
   ·exact il _
   simp (maxSteps:=9^7)-implicitDefEqProofs [-getElem?_pos,OF,g,f,d,c,a];refine jT (first:=[]) (cap:=[.ref 3 0 1,.ref 5 0 1]) ?_ (tA (P:=ar s) (n:=s.n.toNat) (by omega) u5 (fun x z=>by have:=hF x z;omega)) ?_ ?_ ?_
   ·simp
   ·simp [vb,vt]
   ·exact il _
   simp (maxSteps:=9^7)-implicitDefEqProofs [-getElem?_pos,OF,g,f,d,c,a,bK];refine cT (KX s k) s.nx.length (a6 (h2:=UB s k 0) [0,1,2,3,4,5,6,7,8,9,99] (mU s 0) ?_ ?_ ?_ ?_ ?_ ?_) pS ?_
   ·simp [UB,mU,aa,zY,mS,iY,bK,g,f,d,c,a]
   iterate 2· simp
   ·intro b B;omega
   iterate 2· simp (maxDischargeDepth:=8)-implicitDefEqProofs [aq,OF,UB,mU,aa,zY,mS,iY,bK,g,f,d,c,a]
   clear g f d c a f27 f28 f29;rintro j fr h hj ⟨rfl,M⟩;simp only [mU,OZ,Ph,or_false,forall_eq_or_imp,forall_eq]at M;obtain ⟨g,f,d,c,a,f74,f75,f76⟩:=M;have IB:=tB (ar s) (s.nx.take j);rw [List.length_take]at IB;have D:=bn (mS (ar s) (s.nx.take j));have J:=cu (mS (ar s) (s.nx.take j));by_cases h2:j<s.nx.length
   ·obtain ⟨⟨x1,x2⟩,z⟩:∃x,s.nx[j]?=some x:=⟨_,OG h2⟩
    obtain ⟨⟨x0,qB⟩,y0,qC⟩:=hE _ (OM z);have o:=C6 (P:=ar s) z;dsimp only at x0 qB y0 qC o;obtain ⟨q,rfl⟩:=Int.eq_ofNat_of_zero_le x0;obtain ⟨r,rfl⟩:=Int.eq_ofNat_of_zero_le y0;have L:q<s.n.toNat:=by omega
    have y:r<s.n.toNat:=by omega
    have G:IntKind.i64.wrap ((j:Int)+1)=((j+1:Nat):Int):=aj ⟨by omega,by omega⟩;have N:=ct (ar s) L;have V:=ct (ar s) y;have S:=pS (s:=s) (k:=k) (j:=j+1);simp only [Int.toNat_natCast]at o
    cases u:ar s q with
    |false=>
     rw [u]at N o;simp only [Bool.false_and,Bool.false_eq_true,if_false,List.append_nil]at o;simp (maxSteps:=9^7)-implicitDefEqProofs [-getElem?_pos,OF,g,f,d,c,a,f74,f75,f76,h2,bK,aG,z,UB,L,y,N,G];refine ⟨⟨by omega,by omega⟩,.iL h2 (a6 (h2:=UB s k (j+1)) [0,1,2,3,4,5,6,7,8,9,10] (mU s (j+1)) ?_ ?_ ?_ ?_ ?_ ?_) S⟩
     ·simp [UB,mU,aa,zY,o,D,J,bN,bK,g,f,d,c,a,f74,f75]
     iterate 2· simp
     ·intro b B;omega
     iterate 2· simp (maxDischargeDepth:=8)-implicitDefEqProofs [aq,OF,UB,mU,aa,zY,o,D,J,bN,bK,g,f,d,c,a,f74,f75]
    |true=>
     rw [u]at N o
     cases Z:ar s r with
     |false=>
      rw [Z]at V o;simp only [Bool.and_false,Bool.false_eq_true,if_false,List.append_nil]at o;simp (maxSteps:=9^7)-implicitDefEqProofs [-getElem?_pos,OF,g,f,d,c,a,f74,f75,f76,h2,bK,aG,z,UB,L,y,N,V,G];refine ⟨⟨by omega,by omega⟩,⟨by omega,by omega⟩,.iL h2 (a6 (h2:=UB s k (j+1)) [0,1,2,3,4,5,6,7,8,9,10] (mU s (j+1)) ?_ ?_ ?_ ?_ ?_ ?_) S⟩
      ·simp [UB,mU,aa,zY,o,D,J,bN,bK,g,f,d,c,a,f74,f75]
      iterate 2· simp
      ·intro b B;omega
      iterate 2· simp (maxDischargeDepth:=8)-implicitDefEqProofs [aq,OF,UB,mU,aa,zY,o,D,J,bN,bK,g,f,d,c,a,f74,f75]
     |true=>
      rw [Z]at V o;simp only [Bool.and_true,if_true]at o;have t1:=lI L u;have t2:=lI y Z;simp (maxSteps:=9^7)-implicitDefEqProofs [-getElem?_pos,OF,g,f,d,c,a,f74,f75,f76,h2,bK,aG,z,UB,L,y,N,V,t1,t2,lH];refine ⟨⟨by omega,by omega⟩,⟨by omega,by omega⟩,⟨by omega,by omega⟩,⟨by omega,by omega⟩,?_⟩;apply bM
      iterate 9· first|rfl|omega|(simp-implicitDefEqProofs [-getElem?_pos,OF,D];first|done|rfl|omega)
      simp (maxSteps:=9^7)-implicitDefEqProofs [-getElem?_pos,OF,g,f,d,c,a,f74,f75,f76,G];refine .iL h2 (a6 (h2:=UB s k (j+1)) [0,1,2,3,4,5,6,7,8,9,10] (mU s (j+1)) ?_ ?_ ?_ ?_ ?_ ?_) S
      ·simp [UB,mU,aa,zY,o,D,J,bN,bK,g,f,d,c,a,f74,f75]
      iterate 2· simp
      ·intro b B;omega
      iterate 2· simp (maxDischargeDepth:=8)-implicitDefEqProofs [aq,OF,UB,mU,aa,zY,o,D,J,bN,bK,g,f,d,c,a,f74,f75]
   ·obtain rfl:j=s.nx.length:=by omega
    rw [List.take_length]at D J;simp (maxSteps:=9^7)-implicitDefEqProofs [-getElem?_pos,OF,g,f,d,c,a,f74,f75,f76,bK,UB,zY,uY,aa,I]
    have Y:∀(l:List Int) (b m:Nat) {h C:PH},l.length=m→h[b]?=some (.cells 1 (l.map pi))→(Vg gf id h C (.sl 1 b 0 m m) (bO l)↔True):=fun l b m h C hm B=>⟨fun _=>trivial,fun _=>hm▸jL (jP trivial B)⟩
    have ve:∀(l:List (Int×Int)) (b:Nat) {h C:PH},h[b]?=some (.cells 2 (iY l).flatten)→(Vg gf id h C (.sl 2 b 0 l.length l.length) (.fs 2 (iY l))↔True):=fun l b h C B=>⟨fun _=>trivial,fun _=>jL (gP trivial B (by decide) (by simp) (by intro r y;simp [iY]at y;obtain ⟨_,_,_,rfl⟩:=y;rfl) (eB (by rw [OX];intro p R;obtain ⟨r,y,R⟩:=List.mem_flatten.1 R;obtain ⟨x,_,rfl⟩:=Pe.1 y;simp at R;rcases R with rfl|rfl<;>rfl)))⟩
    refine ae ?_;simp (maxDischargeDepth:=8)-implicitDefEqProofs [Y (dS (ar s) s.lab s.n.toNat) 7 k,H,Y (aX (ar s) s.st) 8,Y (aX (ar s) s.en) 9,ve]
end P
set_option maxHeartbeats 1000000
namespace P
open Go Go.RowKit
def qT:List Int→List Int→Bool
 |x::a,y::b=>if x=y then qT a b else decide (x<y)
 |_,_=>false
def fg (a b:List Int):Bool:=if a.length=b.length then qT a b else decide (a.length<b.length)
theorem tD:∀{a b:List Int},a.length=b.length→qT a b=false→qT b a=false→a=b
 |[],[],_,_,_=>rfl
 |[],y::b,h,_,_=>by simp at h
 |x::a,[],h,_,_=>by simp at h
 |x::a,y::b,h,c,h2=>by
  by_cases e:x=y
  ·subst e
   simp only [qT,if_true]at c h2;rw [tD (a:=a) (b:=b) (by simpa using h) c h2]
  ·have d:¬ y=x:=fun k=>e k.symm
   simp only [qT,if_neg e,if_neg d,decide_eq_false_iff_not]at c h2;omega
theorem jV:∀a:List Int,qT a a=false
 |[]=>rfl
 |x::a=>by simp [qT,jV a]
theorem jW (a:List Int):fg a a=false:=by simp [fg,jV]
theorem tE {a b:List Int} (c:fg a b=false) (h2:fg b a=false):a=b:=by
 unfold fg at c h2;by_cases e:a.length=b.length
 ·rw [if_pos e]at c
  rw [if_pos e.symm]at h2;exact tD e c h2
 ·rw [if_neg e]at c
  rw [if_neg (Ne.symm e)]at h2;simp at c h2;omega
theorem tF:∀{a b:List Int} (i:Nat) {x y:Int},a.take i=b.take i→a[i]?=some x→b[i]?=some y→x≠y→qT a b=decide (x<y)
 |[],_,i,_,_,_,h,_,_=>by simp at h
 |_::_,[],i,_,_,_,_,h,_=>by simp at h
 |p::a,q::b,0,x,y,_,c,h2,d=>by
  simp at c h2;subst c;subst h2;simp [qT,d]
 |p::a,q::b,i+1,x,y,h,c,h2,d=>by
  simp only [List.take_succ_cons,List.cons.injEq]at h;obtain ⟨rfl,h⟩:=h;simp only [qT,if_true];exact tF i h (by simpa using c) (by simpa using h2) d
theorem tG {a b:List Int} (t:a.length<2^60) (s:b.length<2^60):Fz E O 69 [bO a,bO b] (pb (fg a b)):=by
 refine ek.body (F:=BB) rfl rfl rfl ?_;by_cases o:a.length=b.length
 case neg=>
  have n:¬ (a.length:Int)=b.length:=by omega
  simp (maxSteps:=9^7)-implicitDefEqProofs [-getElem?_pos,OF,BB,o,n];refine ae ?_;simp [fg,o]
 have n:(a.length:Int)=b.length:=by omega
 have e:fg a b=qT a b:=by simp [fg,o]
 rw [e];simp (maxSteps:=9^7)-implicitDefEqProofs [-getElem?_pos,OF,BB,n];refine a7 (fun i j h=>h=[]∧a.take i=b.take i∧j.get 0=bO a∧j.get 1=bO b∧j.get 5=pi i) a.length ⟨rfl,by simp,by simp,by simp,by simp⟩ ?_;rintro i j h hi ⟨rfl,f,l,k,p⟩;by_cases g:i<a.length
 ·obtain ⟨x,d⟩:∃x,a[i]?=some x:=⟨_,OG g⟩
  obtain ⟨y,c⟩:∃y,b[i]?=some y:=⟨_,OG (by omega)⟩
  have q:IntKind.i64.wrap ((i:Int)+1)=((i+1:Nat):Int):=aj ⟨by omega,by omega⟩;have h2:(i:Int)<b.length:=by omega
  by_cases m:x=y
  ·subst m
   simp (maxSteps:=9^7)-implicitDefEqProofs [-getElem?_pos,OF,l,k,p,g,h2,aI,d,c,q];refine .for g ⟨rfl,?_,by simp [l],by simp [k],by simp⟩;rw [O2,O2,f,d,c]
  ·rw [tF i f d c m]
   simp (maxSteps:=9^7)-implicitDefEqProofs [-getElem?_pos,OF,l,k,p,g,h2,aI,d,c,m];refine ae ?_;simp
 ·obtain rfl:i=a.length:=by omega
  have r:a=b:=by rw [List.take_length,OO (by omega)]at f;exact f
  subst r;rw [jV];simp (maxSteps:=9^7)-implicitDefEqProofs [-getElem?_pos,OF,l,k,p];refine ae ?_;simp
def lJ (out:List (List Int)):PV:=.fs 1 (out.map fun c=>[bO c])
def NZ (l:List (List Int)) (w:List Int) (i:Nat) (fr:PF) (h:PH):Prop:=h=[]∧w∉l.take i∧fr.get 0=lJ l∧fr.get 1=bO w∧fr.get 5=pi i
theorem zP {l:List (List Int)} {w:List Int} (v:l.length<2^60) (p:w.length<2^60) (t:∀x∈l,x.length<2^60) {r:PV} (u:g9 r=true)
 (yes:∀i:Nat,l[i]?=some w→r=pi i) (no:w∉l→r=pi (-1)):Fz E O 48 [lJ l,bO w] r:=by
 refine ek.body (F:=DQ) rfl rfl rfl ?_;simp (maxSteps:=9^7)-implicitDefEqProofs [-getElem?_pos,OF,DQ,lJ];refine a7 (NZ l w) l.length ⟨rfl,by simp,by simp [lJ],by simp,by simp⟩ ?_;rintro i y h hi ⟨rfl,j,b,a,d⟩;by_cases f:i<l.length
 ·obtain ⟨x,g⟩:∃x,l[i]?=some x:=⟨_,OG f⟩
  have o:=t x (OM g);have m:IntKind.i64.wrap ((i:Int)+1)=((i+1:Nat):Int):=aj ⟨by omega,by omega⟩;have q:(l.map fun c=>[bO c])[i]?=some [bO x]:=by simp [g]
  have n:x≠w→w∉l.take (i+1):=fun s=>by
   rw [O2,g];simp only [Option.toList_some,O1,List.mem_singleton,not_or];exact ⟨j,fun e=>s e.symm⟩
  simp (maxSteps:=9^7)-implicitDefEqProofs [-getElem?_pos,OF,b,a,d,f,lJ,q];refine aD (tG o p) ?_ ?_ ?_
  iterate 2· simp (maxDischargeDepth:=8)-implicitDefEqProofs [-getElem?_pos,OF]
  cases h2:fg x w with
  |true=>
   simp (maxSteps:=9^7)-implicitDefEqProofs [-getElem?_pos,OF,b,a,d,m];exact .for f ⟨rfl,n (fun e=>by rw [e,jW]at h2;cases h2),by simp [b,lJ],by simp [a],by simp⟩
  |false=>
   simp (maxSteps:=9^7)-implicitDefEqProofs [-getElem?_pos,OF,b,a,d,f,lJ,q];refine aD (tG p o) ?_ ?_ ?_
   iterate 2· simp (maxDischargeDepth:=8)-implicitDefEqProofs [-getElem?_pos,OF]
   cases k:fg w x with
   |true=>
    simp (maxSteps:=9^7)-implicitDefEqProofs [-getElem?_pos,OF,b,a,d,m];exact .for f ⟨rfl,n (fun e=>by rw [e,jW]at k;cases k),by simp [b,lJ],by simp [a],by simp⟩
   |false=>
    obtain rfl:=tE h2 k;rw [yes i g];simp (maxSteps:=9^7)-implicitDefEqProofs [-getElem?_pos,OF,b,a,d];refine ae ?_;simp
 ·obtain rfl:i=l.length:=by omega
  rw [List.take_length]at j;rw [no j];simp (maxSteps:=9^7)-implicitDefEqProofs [-getElem?_pos,OF,b,a,d,lJ];refine ae ?_;simp
theorem jX {w:List Int} (a:w.length<2^60):Fz E O 48 [.fs 1 [[bO w]],bO w] (pi 0):=zP (l:=[w]) (by simp) a (by simp [a]) (by simp) (fun i h=>by
 cases i with
 |zero=>rfl
 |succ i=>simp at h) (fun h=>by simp at h)
theorem tH:Fz E O 23 [.agg [pi 0,pi 0,e8,e8,e8,e8]] (pb true):=by
 refine ek.body (F:=DE) rfl rfl rfl ?_;simp (maxSteps:=9^7)-implicitDefEqProofs [-getElem?_pos,OF,DE];refine ae ?_;simp
theorem v7 {l:List Int} {x:Int} (n:l.length<2^60):Fz E O 74 [bO l,pi x] (pb (decide (x∈l))):=by
 refine ek.body (F:=D1) rfl rfl rfl ?_;simp (maxSteps:=9^7)-implicitDefEqProofs [-getElem?_pos,OF,D1];refine a7 (fun i c h=>h=[]∧x∉l.take i∧c.get 0=bO l∧c.get 1=pi x∧c.get 5=pi i) l.length ⟨rfl,by simp,by simp,by simp,by simp⟩ ?_;rintro i c h hi ⟨rfl,g,f,d,j⟩;by_cases b:i<l.length
 ·obtain ⟨y,a⟩:∃y,l[i]?=some y:=⟨_,OG b⟩
  have m:IntKind.i64.wrap ((i:Int)+1)=((i+1:Nat):Int):=aj ⟨by omega,by omega⟩;by_cases e:y=x
  ·subst e
   rw [decide_eq_true (OM a)];simp (maxSteps:=9^7)-implicitDefEqProofs [-getElem?_pos,OF,f,d,j,b,aI,a];refine ae ?_;simp
  ·simp (maxSteps:=9^7)-implicitDefEqProofs [-getElem?_pos,OF,f,d,j,b,aI,a,e,m]
   refine .for b ⟨rfl,?_,by simp [f],by simp [d],by simp⟩;rw [O2,a];simp only [Option.toList_some,O1,List.mem_singleton,not_or];exact ⟨g,fun k=>e k.symm⟩
 ·obtain rfl:i=l.length:=by omega
  rw [List.take_length]at g;rw [decide_eq_false g];simp (maxSteps:=9^7)-implicitDefEqProofs [-getElem?_pos,OF,f,d,j];refine ae ?_;simp
theorem zQ {A:Nat→Prop} {a:Nat→Nat} {h f:PH} {b:Nat} {x:PV} (e:A b) (d:h[b]?=some (.cells 1 [x])) (c:AG x=true):Vg A a h f (.sl 1 b 0 1 1) (.fs 1 [[x]])↔True:=
 ⟨fun _=>trivial,fun _=>jL (gP (rows:=[[x]]) e d (by decide) rfl (by simp) (eB (by simp [c])))⟩
def N1 (s:Sy) (bs:PH) (i:Nat) (fr:PF) (h:PH):Prop:=h= .cells 6 (aa s):: .cells 6 (aa s)::bs∧fr.get 2= .ref 0 0 6∧fr.get 3= .ref 1 0 6∧fr.get 5=pi i
theorem zR {s:Sy} (ok:mH s):Fz E O 25 [.agg (aa s),.agg (aa s)] (pb true):=by
 refine ek.body (F:=DG) rfl rfl rfl ?_;have v1:∀(l:List Int) {h f:PH} {b:Nat},h[b]?=some (.cells 1 [bO l])→(Vg gf id h f (.sl 1 b 0 1 1) (.fs 1 [[bO l]])↔True):=fun l {h f b} k=>zQ trivial k rfl
 simp (maxSteps:=9^7)-implicitDefEqProofs [-getElem?_pos,OF,DG,aa];refine nW (jX ok.lab.1) ?_ ?_ ?_
 iterate 2· simp (maxDischargeDepth:=8)-implicitDefEqProofs [-getElem?_pos,OF,v1 s.lab]
 simp (maxSteps:=9^7)-implicitDefEqProofs [-getElem?_pos,OF,aa];refine nW (jX ok.st.1) ?_ ?_ ?_
 iterate 2· simp (maxDischargeDepth:=8)-implicitDefEqProofs [-getElem?_pos,OF,v1 s.st]
 simp (maxSteps:=9^7)-implicitDefEqProofs [-getElem?_pos,OF,aa];refine nW (jX ok.en.1) ?_ ?_ ?_
 iterate 2· simp (maxDischargeDepth:=8)-implicitDefEqProofs [-getElem?_pos,OF,v1 s.en]
 simp (maxSteps:=9^7)-implicitDefEqProofs [-getElem?_pos,OF,aa,bK];refine a7 (N1 s [PB.cells 1 [bO s.lab],PB.cells 1 [bO s.st],PB.cells 1 [bO s.en]]) s.nx.length ⟨by simp [aa,bK],by simp,by simp,by simp⟩ ?_;rintro i p h hi ⟨rfl,d,c,e⟩;by_cases a:i<s.nx.length
 ·obtain ⟨⟨n,m⟩,j⟩:∃x,s.nx[i]?=some x:=⟨_,OG a⟩
  have o:=ok.nx.1;have g:IntKind.i64.wrap ((i:Int)+1)=((i+1:Nat):Int):=aj ⟨by omega,by omega⟩;simp (maxSteps:=9^7)-implicitDefEqProofs [-getElem?_pos,OF,d,c,e,a,aa,bK,aG,j,g,bf,dN];exact .for a ⟨by simp [aa,bK],by simp [d],by simp [c],by simp⟩
 ·obtain rfl:i=s.nx.length:=by omega
  simp (maxSteps:=9^7)-implicitDefEqProofs [-getElem?_pos,OF,d,c,e,aa,bK];refine ae ?_;simp
set_option maxHeartbeats 2000000
open Go Go.RowKit
def fh (s:Sy) (cl:List Int) (c d:Int):Bool:=s.nx.any fun x=>decide (cl.getD x.1.toNat (-2)=c)&&decide (cl.getD x.2.toNat (-2)=d)
def N2 (s:Sy) (cl:List Int) (c d:Int) (i:Nat) (fr:PF) (h:PH):Prop:=h=[.cells 6 (aa s)]∧(s.nx.take i).any (fun x=>decide (cl.getD x.1.toNat (-2)=c)&&decide (cl.getD x.2.toNat (-2)=d))=false∧fr.get 1=bO cl∧fr.get 2=pi c∧fr.get 3=pi d∧fr.get 4= .ref 0 0 6∧fr.get 9=pi i
theorem lK {s:Sy} {cl:List Int} {c d:Int} (ok:mH s) (N:∀x∈s.nx,(0≤x.1∧x.1<s.n)∧0≤x.2∧x.2<s.n) (S:cl.length=s.n.toNat):Fz E O 75 [.agg (aa s),bO cl,pi c,pi d] (pb (fh s cl c d)):=by
 refine ek.body (F:=D2) rfl rfl rfl ?_;have R:=ok.nx.1;simp (maxSteps:=9^7)-implicitDefEqProofs [-getElem?_pos,OF,D2,aa];refine a7 (N2 s cl c d) s.nx.length ⟨by simp [aa],by simp,by simp,by simp,by simp,by simp,by simp⟩ ?_;rintro i T h hi ⟨rfl,A,j,g,f,b,z⟩;by_cases a:i<s.nx.length
 ·obtain ⟨⟨Q,P⟩,o⟩:∃x,s.nx[i]?=some x:=⟨_,OG a⟩
  have H:=OM o;obtain ⟨⟨C,L⟩,B,K⟩:=N _ H;dsimp only at C L B K;obtain ⟨q,rfl⟩:=Int.eq_ofNat_of_zero_le C;obtain ⟨r,rfl⟩:=Int.eq_ofNat_of_zero_le B;have y:q<cl.length:=by omega
  have w:r<cl.length:=by omega
  obtain ⟨u,t⟩:∃u,cl[q]?=some u:=⟨_,OG y⟩
  obtain ⟨v,p⟩:∃v,cl[r]?=some v:=⟨_,OG w⟩
  have D:IntKind.i64.wrap ((i:Int)+1)=((i+1:Nat):Int):=aj ⟨by omega,by omega⟩;have J:=aU (d:=(-2:Int)) t;have I:=aU (d:=(-2:Int)) p
  have G:¬ (u=c∧v=d)→(s.nx.take (i+1)).any (fun x=>decide (cl.getD x.1.toNat (-2)=c)&&decide (cl.getD x.2.toNat (-2)=d))=false:=fun M=>by
   rw [O2,o,List.any_append,A,Bool.false_or];simp only [Option.toList_some,List.any_cons,List.any_nil,Int.toNat_natCast,J,I,Bool.or_false];by_cases m:u=c
   ·by_cases l:v=d
    ·exact absurd ⟨m,l⟩ M
    ·simp [l]
   ·simp [m]
  by_cases m:u=c
  ·subst m
   by_cases l:v=d
   ·subst l
    have e:fh s cl u v=true:=List.any_eq_true.2 ⟨_,H,by simp only [Int.toNat_natCast,J,I];simp⟩;rw [e];simp (maxSteps:=9^7)-implicitDefEqProofs [-getElem?_pos,OF,j,g,f,b,z,a,aa,bK,aG,o,y,w,aI,t,p];refine ae ?_;simp
   ·simp (maxSteps:=9^7)-implicitDefEqProofs [-getElem?_pos,OF,j,g,f,b,z,a,aa,bK,aG,o,y,w,aI,t,p,l,D]
    exact .for a ⟨by simp [aa,bK],G (fun k=>l k.2),by simp [j],by simp [g],by simp [f],by simp [b],by simp⟩
  ·simp (maxSteps:=9^7)-implicitDefEqProofs [-getElem?_pos,OF,j,g,f,b,z,a,aa,bK,aG,o,y,w,aI,t,p,m,D]
   exact .for a ⟨by simp [aa,bK],G (fun k=>m k.1),by simp [j],by simp [g],by simp [f],by simp [b],by simp⟩
 ·obtain rfl:i=s.nx.length:=by omega
  rw [List.take_length]at A;rw [show fh s cl c d=false from A];simp (maxSteps:=9^7)-implicitDefEqProofs [-getElem?_pos,OF,j,g,f,b,z,aa,bK];refine ae ?_;simp
def mV (s:Sy) (cl:List Int) (c:Int):Nat→Int
 |0=>0
 |i+1=>if cl.getD i (-2)=c then s.lab.getD i 0 else mV s cl c i
def dC (L cl:List Int) (c:Int):Nat→Bool
 |0=>false
 |i+1=>if cl.getD i (-2)=c then dC L cl c i||decide ((i:Int)∈L)else dC L cl c i
def cd (L cl:List Int) (n:Nat):Nat→List Int
 |0=>[]
 |c+1=>cd L cl n c++if dC L cl c n=true then [(c:Int)]else []
def bd (s:Sy) (cl:List Int) (c:Int):Nat→List (Int×Int)
 |0=>[]
 |d+1=>bd s cl c d++if fh s cl c d=true then [(c,(d:Int))]else []
def dT (s:Sy) (cl:List Int) (m:Nat):Nat→List (Int×Int)
 |0=>[]
 |c+1=>dT s cl m c++bd s cl c m
def eh (s:Sy) (cl:List Int) (m c i:Nat):List Int:=(List.range m).map fun(k:Nat)=>if k<c then mV s cl k s.n.toNat else if k=c then mV s cl k i else 0
@[simp]theorem Ft (s:Sy) (cl:List Int) (m c i:Nat):(eh s cl m c i).length=m:=by simp [eh]
def mW (s:Sy) (cl:List Int) (m:Nat):Sy:={n:=m,p:=s.p,lab:=eh s cl m m 0,st:=cd s.st cl s.n.toNat m,en:=cd s.en cl s.n.toNat m,nx:=dT s cl m m}
theorem oi (L cl:List Int) (n:Nat):∀c,(cd L cl n c).length≤c
 |0=>OL _
 |c+1=>by rw [cd,OQ];have:=oi L cl n c;split<;>simp<;>omega
theorem fC (s:Sy) (cl:List Int) (c:Int):∀d,(bd s cl c d).length≤d
 |0=>OL _
 |d+1=>by rw [bd,OQ];have:=fC s cl c d;split<;>simp<;>omega
theorem tI (s:Sy) (cl:List Int) (m:Nat):∀c,(dT s cl m c).length≤c*m
 |0=>by simp [dT]
 |c+1=>by rw [dT,OQ,Nat.succ_mul];have:=tI s cl m c;have:=fC s cl c m;omega
theorem tJ (s:Sy) (cl:List Int) (m:Nat):(eh s cl m 0 0).map pi=List.replicate m (pi 0):=by
 apply List.ext_getElem?;intro j;by_cases a:j<m
 ·simp only [eh,List.map_map,Pb,List.getElem?_range a,List.getElem?_replicate,a]
  simp [mV]
 ·rw [Pn (by simp;omega),Pn (by simp;omega)]
theorem gX (s:Sy) (cl:List Int) (m c:Nat):eh s cl m c s.n.toNat=eh s cl m (c+1) 0:=by
 unfold eh;refine List.map_congr_left fun k b=>?_
 by_cases h:k<c
 ·rw [if_pos h,if_pos (by omega)]
 ·rw [if_neg h]
  by_cases e:k=c
  ·rw [if_pos e,if_pos (by omega)]
  ·rw [if_neg e,if_neg (by omega)]
   by_cases a:k=c+1
   ·rw [if_pos a];rfl
   ·rw [if_neg a]
theorem zS {s:Sy} {cl:List Int} {m c i:Nat} {v:Int} (a:cl[i]?=some v) (b:v≠c):eh s cl m c (i+1)=eh s cl m c i:=by
 unfold eh;refine List.map_congr_left fun k d=>?_
 by_cases e:k=c
 ·subst e
  rw [mV,aU a,if_neg b]
 ·rw [if_neg e,if_neg e]
theorem v8 {s:Sy} {cl:List Int} {m c i:Nat} {x:Int} (d:cl[i]?=some (c:Int)) (b:s.lab[i]?=some x) (a:c<m):(eh s cl m c i).set c x=eh s cl m c (i+1):=by
 apply List.ext_getElem?;intro j;by_cases e:c=j
 ·subst e
  rw [Pj (by simpa using a)];simp [eh,a,mV,d,b]
 ·rw [O5 e]
  by_cases f:j<m
  ·simp [eh,f,Ne.symm e]
  ·rw [Pn (by simp;omega),Pn (by simp;omega)]
theorem tK (l:List Int) (b m:Nat) {h d:PH} (a:l.length=m) (c:h[b]?=some (.cells 1 (l.map pi))):Vg gf id h d (.sl 1 b 0 m m) (bO l)↔True:=⟨fun _=>trivial,fun _=>a▸jL (jP trivial c)⟩
theorem Da (l:List (Int×Int)) (b:Nat) {h e:PH} (d:h[b]?=some (.cells 2 (iY l).flatten)):Vg gf id h e (.sl 2 b 0 l.length l.length) (.fs 2 (iY l))↔True:=⟨fun _=>trivial,fun _=>jL (gP trivial d (by decide) (by simp) (by intro r a;simp [iY]at a;obtain ⟨_,_,_,rfl⟩:=a;rfl) (eB (by rw [OX];intro p c;obtain ⟨r,a,c⟩:=List.mem_flatten.1 c;obtain ⟨x,_,rfl⟩:=Pe.1 a;simp at c;rcases c with rfl|rfl<;>rfl)))⟩
end P
set_option maxHeartbeats 4000000
namespace P
open Go Go.RowKit
def MH (s:Sy) (m:Nat) (lab st en:List Int) (nx:List (Int×Int)):PH:=[.cells 6 (aa s),.cells 6 zY,.cells 1 (lab.map pi),.cells 6 [pi m,pi s.p,.sl 1 2 0 m m,.sl 1 4 0 st.length st.length,.sl 1 5 0 en.length en.length,.sl 2 6 0 nx.length nx.length],.cells 1 (st.map pi),.cells 1 (en.map pi),.cells 2 (iY nx).flatten]
def MA (s:Sy) (cl:List Int) (m c:Nat):PH:=MH s m (eh s cl m c 0) (cd s.st cl s.n.toNat c) (cd s.en cl s.n.toNat c) (dT s cl m c)
def qU (cl:List Int) (m c:Nat):List (Nat×PV):=[(1,bO cl),(2,pi m),(3,.ref 0 0 6),(6,.ref 1 0 6),(7,.ref 3 0 6),(8,pi c)]
def KZ (s:Sy) (cl:List Int) (m c:Nat) (fr:PF) (h:PH):Prop:=h=MA s cl m c∧∀t∈qU cl m c,fr.get t.1=t.2
theorem v9 {s:Sy} {cl:List Int} {m c:Nat}:KZ s cl m c (PF.s6 (qU cl m c)) (MA s cl m c):=⟨rfl,fun t a=>by
 simp only [qU,OZ,Ph,or_false]at a
 rcases a with rfl|rfl|rfl|rfl|rfl|rfl<;>simp [qU]⟩
def MQ (s:Sy) (cl:List Int) (m c i:Nat):PH:=MH s m (eh s cl m c i) (cd s.st cl s.n.toNat c) (cd s.en cl s.n.toNat c) (dT s cl m c)
def xq (s:Sy) (cl:List Int) (m c i:Nat):List (Nat×PV):=[(1,bO cl),(2,pi m),(3,.ref 0 0 6),(6,.ref 1 0 6),(7,.ref 3 0 6),(8,pi c),(9,pb (dC s.st cl c i)),(10,pb (dC s.en cl c i)),(11,pi i)]
def N3 (s:Sy) (cl:List Int) (m c i:Nat) (fr:PF) (h:PH):Prop:=h=MQ s cl m c i∧∀t∈xq s cl m c i,fr.get t.1=t.2
def MD (s:Sy) (cl:List Int) (m c d:Nat):PH:=MH s m (eh s cl m c s.n.toNat) (cd s.st cl s.n.toNat (c+1)) (cd s.en cl s.n.toNat (c+1)) (dT s cl m c++bd s cl c d)
def eL (cl:List Int) (m c d:Nat):List (Nat×PV):=[(1,bO cl),(2,pi m),(3,.ref 0 0 6),(6,.ref 1 0 6),(7,.ref 3 0 6),(8,pi c),(12,pi d)]
def Db (s:Sy) (cl:List Int) (m c d:Nat) (fr:PF) (h:PH):Prop:=h=MD s cl m c d∧∀t∈eL cl m c d,fr.get t.1=t.2
theorem dJ {s:Sy} {cl:List Int} {m c d:Nat}:Db s cl m c d (PF.s6 (eL cl m c d)) (MD s cl m c d):=⟨rfl,fun t a=>by
 simp only [eL,OZ,Ph,or_false]at a
 rcases a with rfl|rfl|rfl|rfl|rfl|rfl|rfl<;>simp [eL]⟩
theorem zT {s:Sy} {cl:List Int} {m:Nat} (ok:mH s) (hy:mK s) (Y:∀x∈s.nx,(0≤x.1∧x.1<s.n)∧0≤x.2∧x.2<s.n) (X:cl.length=s.n.toNat) (hm:m≤256):Fz E O 60 [.agg (aa s),bO cl,pi m] (.agg (aa (mW s cl m))):=by
 refine ek.body (F:=DV) rfl rfl rfl ?_;have xl:=hy.n;have NY:=hy.len;have kc:=ok.st.1;have u5:=ok.en.1;have C8:List.replicate m (PV.v (.int .i64 0))=(eh s cl m 0 0).map pi:=(tJ _ _ _).symm;have W:max s.n 0=s.n:=by omega
 have N4:IntKind.i64.wrap (m:Int)=m:=aj ⟨by omega,by omega⟩;simp (maxSteps:=9^7)-implicitDefEqProofs [-getElem?_pos,OF,DV,aa,C8,N4];refine ⟨by omega,?_⟩;refine cT (KZ s cl m) m (a6 (h2:=MA s cl m 0) [0,1,2,3,97,98,99] (qU cl m 0) ?_ ?_ ?_ ?_ ?_ ?_) v9 ?_
 ·simp [MA,MH,qU,aa,zY,cd,dT,iY]
 iterate 2· simp
 ·intro b I;omega
 iterate 2· simp (maxDischargeDepth:=8)-implicitDefEqProofs [aq,OF,MA,MH,qU,aa,zY,cd,dT,iY]
 rintro c R h hi ⟨rfl,u⟩;simp only [qU,OZ,Ph,or_false,forall_eq_or_imp,forall_eq]at u;obtain ⟨l,k,j,g,f,a⟩:=u;have Aa:=oi s.st cl s.n.toNat c;have m5:=oi s.en cl s.n.toNat c;have OA:=tI s cl m c;have OB:c*m≤65536:=O3 (Nat.mul_le_mul hi (OL m)) (O3 (Nat.mul_le_mul hm hm) (by decide));by_cases K:c<m
 ·have T:IntKind.i64.wrap ((c:Int)+1)=((c+1:Nat):Int):=aj ⟨by omega,by omega⟩
  simp (maxSteps:=9^7)-implicitDefEqProofs [-getElem?_pos,OF,l,k,j,g,f,a,K];refine a7 (N3 s cl m c) s.n.toNat ⟨by simp [MA,MQ],by simp [xq,dC,l,k,j,g,f,a]⟩ ?_;clear l k j g f a;rintro i R h tZ ⟨rfl,u⟩;simp only [xq,OZ,Ph,or_false,forall_eq_or_imp,forall_eq]at u;obtain ⟨l,k,j,g,f,a,o,f10,f11⟩:=u;by_cases Q:i<s.n.toNat
  ·have N:(i:Int)<s.n:=by omega
   have P:i<cl.length:=by omega
   have H:IntKind.i64.wrap ((i:Int)+1)=((i+1:Nat):Int):=aj ⟨by omega,by omega⟩
   obtain ⟨v,B⟩:∃v,cl[i]?=some v:=⟨_,OG (by omega)⟩
   obtain ⟨x,M⟩:∃x,s.lab[i]?=some x:=⟨_,OG (by omega)⟩
   have gv:=aU (d:=(-2:Int)) B;by_cases e:v=c
   ·subst e
    have V:∀y,ig ((eh s cl m c i).map pi) c [y]=((eh s cl m c i).map pi).set c y:=fun y=>b5 (by simpa using K)
    have U:((eh s cl m c i).map pi).set c (pi x)=(eh s cl m c (i+1)).map pi:=by rw [←List.map_set,v8 B M K]
    cases t:dC s.st cl c i with
    |true=>
     rw [t]at o
     cases p:dC s.en cl c i with
     |true=>
      rw [p]at f10;simp (maxSteps:=9^7)-implicitDefEqProofs [-getElem?_pos,OF,l,k,j,g,f,a,o,f10,f11,N,P,MQ,MH,aa,aI,B,M,V,U,H];exact ⟨by omega,⟨by omega,by omega⟩,⟨by omega,by omega⟩,.for Q ⟨by simp [MQ,MH,aa,zY],by simp [xq,dC,B,t,p,l,k,j,g,f,a]⟩⟩
     |false=>
      rw [p]at f10;simp (maxSteps:=9^7)-implicitDefEqProofs [-getElem?_pos,OF,l,k,j,g,f,a,o,f10,f11,N,P,MQ,MH,aa,aI,B,M,V,U,H];refine ⟨by omega,⟨by omega,by omega⟩,⟨by omega,by omega⟩,?_⟩;refine aD (v7 (x:=(i:Int)) u5) ?_ ?_ ?_
      iterate 2· simp (maxDischargeDepth:=8)-implicitDefEqProofs [-getElem?_pos,OF]
      simp (maxSteps:=9^7)-implicitDefEqProofs [-getElem?_pos,OF,l,k,j,g,f,a,o,f10,f11,H];exact .for Q ⟨by simp [MQ,MH,aa,zY],by simp [xq,dC,B,t,p,l,k,j,g,f,a]⟩
    |false=>
     rw [t]at o
     cases p:dC s.en cl c i with
     |true=>
      rw [p]at f10;simp (maxSteps:=9^7)-implicitDefEqProofs [-getElem?_pos,OF,l,k,j,g,f,a,o,f10,f11,N,P,MQ,MH,aa,aI,B,M,V,U,H];refine ⟨by omega,⟨by omega,by omega⟩,⟨by omega,by omega⟩,?_⟩;refine aD (v7 (x:=(i:Int)) kc) ?_ ?_ ?_
      iterate 2· simp (maxDischargeDepth:=8)-implicitDefEqProofs [-getElem?_pos,OF]
      simp (maxSteps:=9^7)-implicitDefEqProofs [-getElem?_pos,OF,l,k,j,g,f,a,o,f10,f11,H,aa];exact .for Q ⟨by simp [MQ,MH,aa,zY],by simp [xq,dC,B,t,p,l,k,j,g,f,a]⟩
     |false=>
      rw [p]at f10;simp (maxSteps:=9^7)-implicitDefEqProofs [-getElem?_pos,OF,l,k,j,g,f,a,o,f10,f11,N,P,MQ,MH,aa,aI,B,M,V,U,H];refine ⟨by omega,⟨by omega,by omega⟩,⟨by omega,by omega⟩,?_⟩;refine aD (v7 (x:=(i:Int)) kc) ?_ ?_ ?_
      iterate 2· simp (maxDischargeDepth:=8)-implicitDefEqProofs [-getElem?_pos,OF]
      simp (maxSteps:=9^7)-implicitDefEqProofs [-getElem?_pos,OF,l,k,j,g,f,a,o,f10,f11,H,aa];refine aD (v7 (x:=(i:Int)) u5) ?_ ?_ ?_
      iterate 2· simp (maxDischargeDepth:=8)-implicitDefEqProofs [-getElem?_pos,OF]
      simp (maxSteps:=9^7)-implicitDefEqProofs [-getElem?_pos,OF,l,k,j,g,f,a,o,f10,f11,H];exact .for Q ⟨by simp [MQ,MH,aa,zY],by simp [xq,dC,B,t,p,l,k,j,g,f,a]⟩
   ·simp (maxSteps:=9^7)-implicitDefEqProofs [-getElem?_pos,OF,l,k,j,g,f,a,o,f10,f11,N,P,MQ,MH,aa,aI,B,e,H]
    exact .for Q ⟨by simp [MQ,MH,aa,zY,zS B e],by simp [xq,dC,B,e,l,k,j,g,f,a,o,f10]⟩
  ·obtain rfl:i=s.n.toNat:=by omega
   have N5:¬ ((s.n.toNat:Nat):Int)<s.n:=by omega
   cases t:dC s.st cl c s.n.toNat with
   |true=>
    rw [t]at o
    cases p:dC s.en cl c s.n.toNat with
    |true=>
     rw [p]at f10;simp (maxSteps:=9^7)-implicitDefEqProofs [-getElem?_pos,OF,l,k,j,g,f,a,o,f10,f11,MQ,MH,aa,W];apply bM
     iterate 9· first|rfl|omega|(simp-implicitDefEqProofs [-getElem?_pos,OF];first|done|rfl|omega)
     simp (maxSteps:=9^7)-implicitDefEqProofs [-getElem?_pos,OF,l,k,j,g,f,a,o,f10,f11];apply bM
     iterate 9· first|rfl|omega|(simp-implicitDefEqProofs [-getElem?_pos,OF];first|done|rfl|omega)
     simp (maxSteps:=9^7)-implicitDefEqProofs [-getElem?_pos,OF,l,k,j,g,f,a,o,f10,f11];refine cT (Db s cl m c) m (a6 (h2:=MD s cl m c 0) [0,1,2,3,4,5,6] (eL cl m c 0) ?_ ?_ ?_ ?_ ?_ ?_) dJ ?_
     ·simp [MD,MH,eL,aa,zY,cd,t,p,bd,bn,cu,l,k,j,g,f,a]
     iterate 2· simp
     ·intro b I;omega
     iterate 2· simp (maxDischargeDepth:=8)-implicitDefEqProofs [aq,OF,MD,MH,eL,aa,zY,cd,t,p,bd,bn,cu,l,k,j,g,f,a]
     clear l k j g f a o f10 f11;rintro d R h hd ⟨rfl,u⟩;simp only [eL,OZ,Ph,or_false,forall_eq_or_imp,forall_eq]at u;obtain ⟨l,k,j,g,f,a,f12⟩:=u;have Z:=fC s cl c d;have J:(dT s cl m c++bd s cl c d).length≤c*m+d:=by rw [OQ];omega
     have q:=bn (dT s cl m c++bd s cl c d);have z:=cu (dT s cl m c++bd s cl c d);by_cases h2:d<m
     ·have C:IntKind.i64.wrap ((d:Int)+1)=((d+1:Nat):Int):=aj ⟨by omega,by omega⟩
      obtain ⟨NX,r⟩:∃NX,dT s cl m c++bd s cl c d=NX:=⟨_,rfl⟩
      rw [r]at q z J;have L:MD s cl m c d=MH s m (eh s cl m c s.n.toNat) (cd s.st cl s.n.toNat (c+1)) (cd s.en cl s.n.toNat (c+1)) NX:=by rw [←r];rfl
      rw [L];simp (maxSteps:=9^7)-implicitDefEqProofs [-getElem?_pos,OF,l,k,j,g,f,a,f12,h2,MH,aa];refine aD (lK (c:=c) (d:=d) ok Y X) ?_ ?_ ?_
      iterate 2· simp (maxDischargeDepth:=8)-implicitDefEqProofs [-getElem?_pos,OF,aa]
      cases D:fh s cl c d with
      |false=>
       simp (maxSteps:=9^7)-implicitDefEqProofs [-getElem?_pos,OF,l,k,j,g,f,a,f12,C];have w:dT s cl m c++bd s cl c (d+1)=NX:=by rw [←r];simp [bd,D]
       have A:MD s cl m c (d+1)=MH s m (eh s cl m c s.n.toNat) (cd s.st cl s.n.toNat (c+1)) (cd s.en cl s.n.toNat (c+1)) NX:=by rw [←w];rfl
       exact .for h2 ⟨by rw [A];simp [MH,aa,zY],by simp [eL,l,k,j,g,f,a]⟩
      |true=>
       have w:dT s cl m c++bd s cl c (d+1)=NX++[((c:Int),(d:Int))]:=by rw [←r];simp [bd,D]
       have A:MD s cl m c (d+1)=MH s m (eh s cl m c s.n.toNat) (cd s.st cl s.n.toNat (c+1)) (cd s.en cl s.n.toNat (c+1)) (NX++[((c:Int),(d:Int))]):=by rw [←w];rfl
       have S:=dJ (s:=s) (cl:=cl) (m:=m) (c:=c) (d:=d+1);rw [A]at S;simp (maxSteps:=9^7)-implicitDefEqProofs [-getElem?_pos,OF,l,k,j,g,f,a,f12];apply bM
       iterate 9· first|rfl|omega|(simp-implicitDefEqProofs [-getElem?_pos,OF,q];first|done|rfl|omega)
       simp (maxSteps:=9^7)-implicitDefEqProofs [-getElem?_pos,OF,l,k,j,g,f,a,f12,C];refine .iL h2 (a6 (h2:=MH s m (eh s cl m c s.n.toNat) (cd s.st cl s.n.toNat (c+1)) (cd s.en cl s.n.toNat (c+1)) (NX++[((c:Int),(d:Int))])) [0,1,2,3,4,5,6] (eL cl m c (d+1)) ?_ ?_ ?_ ?_ ?_ ?_) S
       ·simp [MH,eL,aa,zY,q,z,bN,l,k,j,g,f,a]
       iterate 2· simp
       ·intro b I;omega
       iterate 2· simp (maxDischargeDepth:=8)-implicitDefEqProofs [aq,OF,MH,eL,aa,zY,q,z,bN,l,k,j,g,f,a]
     ·have G:d=m:=by omega
      rw [G];rw [G]at f12;simp (maxSteps:=9^7)-implicitDefEqProofs [-getElem?_pos,OF,l,k,j,g,f,a,f12,MD,T];exact .for K ⟨by simp [MA,gX,dT],by simp [qU,l,k,j,g,f,a]⟩
    |false=>
     rw [p]at f10;simp (maxSteps:=9^7)-implicitDefEqProofs [-getElem?_pos,OF,l,k,j,g,f,a,o,f10,f11,MQ,MH,aa,W];apply bM
     iterate 9· first|rfl|omega|(simp-implicitDefEqProofs [-getElem?_pos,OF];first|done|rfl|omega)
     simp (maxSteps:=9^7)-implicitDefEqProofs [-getElem?_pos,OF,l,k,j,g,f,a,o,f10,f11];refine cT (Db s cl m c) m (a6 (h2:=MD s cl m c 0) [0,1,2,3,4,5,6] (eL cl m c 0) ?_ ?_ ?_ ?_ ?_ ?_) dJ ?_
     ·simp [MD,MH,eL,aa,zY,cd,t,p,bd,bn,cu,l,k,j,g,f,a]
     iterate 2· simp
     ·intro b I;omega
     iterate 2· simp (maxDischargeDepth:=8)-implicitDefEqProofs [aq,OF,MD,MH,eL,aa,zY,cd,t,p,bd,bn,cu,l,k,j,g,f,a]
     clear l k j g f a o f10 f11;rintro d R h hd ⟨rfl,u⟩;simp only [eL,OZ,Ph,or_false,forall_eq_or_imp,forall_eq]at u;obtain ⟨l,k,j,g,f,a,f12⟩:=u;have Z:=fC s cl c d;have J:(dT s cl m c++bd s cl c d).length≤c*m+d:=by rw [OQ];omega
     have q:=bn (dT s cl m c++bd s cl c d);have z:=cu (dT s cl m c++bd s cl c d);by_cases h2:d<m
     ·have C:IntKind.i64.wrap ((d:Int)+1)=((d+1:Nat):Int):=aj ⟨by omega,by omega⟩
      obtain ⟨NX,r⟩:∃NX,dT s cl m c++bd s cl c d=NX:=⟨_,rfl⟩
      rw [r]at q z J;have L:MD s cl m c d=MH s m (eh s cl m c s.n.toNat) (cd s.st cl s.n.toNat (c+1)) (cd s.en cl s.n.toNat (c+1)) NX:=by rw [←r];rfl
      rw [L];simp (maxSteps:=9^7)-implicitDefEqProofs [-getElem?_pos,OF,l,k,j,g,f,a,f12,h2,MH,aa];refine aD (lK (c:=c) (d:=d) ok Y X) ?_ ?_ ?_
      iterate 2· simp (maxDischargeDepth:=8)-implicitDefEqProofs [-getElem?_pos,OF,aa]
      cases D:fh s cl c d with
      |false=>
       simp (maxSteps:=9^7)-implicitDefEqProofs [-getElem?_pos,OF,l,k,j,g,f,a,f12,C];have w:dT s cl m c++bd s cl c (d+1)=NX:=by rw [←r];simp [bd,D]
       have A:MD s cl m c (d+1)=MH s m (eh s cl m c s.n.toNat) (cd s.st cl s.n.toNat (c+1)) (cd s.en cl s.n.toNat (c+1)) NX:=by rw [←w];rfl
       exact .for h2 ⟨by rw [A];simp [MH,aa,zY],by simp [eL,l,k,j,g,f,a]⟩
      |true=>
       have w:dT s cl m c++bd s cl c (d+1)=NX++[((c:Int),(d:Int))]:=by rw [←r];simp [bd,D]
       have A:MD s cl m c (d+1)=MH s m (eh s cl m c s.n.toNat) (cd s.st cl s.n.toNat (c+1)) (cd s.en cl s.n.toNat (c+1)) (NX++[((c:Int),(d:Int))]):=by rw [←w];rfl
       have S:=dJ (s:=s) (cl:=cl) (m:=m) (c:=c) (d:=d+1);rw [A]at S;simp (maxSteps:=9^7)-implicitDefEqProofs [-getElem?_pos,OF,l,k,j,g,f,a,f12];apply bM
       iterate 9· first|rfl|omega|(simp-implicitDefEqProofs [-getElem?_pos,OF,q];first|done|rfl|omega)
       simp (maxSteps:=9^7)-implicitDefEqProofs [-getElem?_pos,OF,l,k,j,g,f,a,f12,C];refine .iL h2 (a6 (h2:=MH s m (eh s cl m c s.n.toNat) (cd s.st cl s.n.toNat (c+1)) (cd s.en cl s.n.toNat (c+1)) (NX++[((c:Int),(d:Int))])) [0,1,2,3,4,5,6] (eL cl m c (d+1)) ?_ ?_ ?_ ?_ ?_ ?_) S
       ·simp [MH,eL,aa,zY,q,z,bN,l,k,j,g,f,a]
       iterate 2· simp
       ·intro b I;omega
       iterate 2· simp (maxDischargeDepth:=8)-implicitDefEqProofs [aq,OF,MH,eL,aa,zY,q,z,bN,l,k,j,g,f,a]
     ·have G:d=m:=by omega
      rw [G];rw [G]at f12;simp (maxSteps:=9^7)-implicitDefEqProofs [-getElem?_pos,OF,l,k,j,g,f,a,f12,MD,T];exact .for K ⟨by simp [MA,gX,dT],by simp [qU,l,k,j,g,f,a]⟩
   |false=>
    rw [t]at o
    cases p:dC s.en cl c s.n.toNat with
    |true=>
     rw [p]at f10;simp (maxSteps:=9^7)-implicitDefEqProofs [-getElem?_pos,OF,l,k,j,g,f,a,o,f10,f11,MQ,MH,aa,W];apply bM
     iterate 9· first|rfl|omega|(simp-implicitDefEqProofs [-getElem?_pos,OF];first|done|rfl|omega)
     simp (maxSteps:=9^7)-implicitDefEqProofs [-getElem?_pos,OF,l,k,j,g,f,a,o,f10,f11];refine cT (Db s cl m c) m (a6 (h2:=MD s cl m c 0) [0,1,2,3,4,5,6] (eL cl m c 0) ?_ ?_ ?_ ?_ ?_ ?_) dJ ?_
     ·simp [MD,MH,eL,aa,zY,cd,t,p,bd,bn,cu,l,k,j,g,f,a]
     iterate 2· simp
     ·intro b I;omega
     iterate 2· simp (maxDischargeDepth:=8)-implicitDefEqProofs [aq,OF,MD,MH,eL,aa,zY,cd,t,p,bd,bn,cu,l,k,j,g,f,a]
     clear l k j g f a o f10 f11;rintro d R h hd ⟨rfl,u⟩;simp only [eL,OZ,Ph,or_false,forall_eq_or_imp,forall_eq]at u;obtain ⟨l,k,j,g,f,a,f12⟩:=u;have Z:=fC s cl c d;have J:(dT s cl m c++bd s cl c d).length≤c*m+d:=by rw [OQ];omega
     have q:=bn (dT s cl m c++bd s cl c d);have z:=cu (dT s cl m c++bd s cl c d);by_cases h2:d<m
     ·have C:IntKind.i64.wrap ((d:Int)+1)=((d+1:Nat):Int):=aj ⟨by omega,by omega⟩
      obtain ⟨NX,r⟩:∃NX,dT s cl m c++bd s cl c d=NX:=⟨_,rfl⟩
      rw [r]at q z J;have L:MD s cl m c d=MH s m (eh s cl m c s.n.toNat) (cd s.st cl s.n.toNat (c+1)) (cd s.en cl s.n.toNat (c+1)) NX:=by rw [←r];rfl
      rw [L];simp (maxSteps:=9^7)-implicitDefEqProofs [-getElem?_pos,OF,l,k,j,g,f,a,f12,h2,MH,aa];refine aD (lK (c:=c) (d:=d) ok Y X) ?_ ?_ ?_
      iterate 2· simp (maxDischargeDepth:=8)-implicitDefEqProofs [-getElem?_pos,OF,aa]
      cases D:fh s cl c d with
      |false=>
       simp (maxSteps:=9^7)-implicitDefEqProofs [-getElem?_pos,OF,l,k,j,g,f,a,f12,C];have w:dT s cl m c++bd s cl c (d+1)=NX:=by rw [←r];simp [bd,D]
       have A:MD s cl m c (d+1)=MH s m (eh s cl m c s.n.toNat) (cd s.st cl s.n.toNat (c+1)) (cd s.en cl s.n.toNat (c+1)) NX:=by rw [←w];rfl
       exact .for h2 ⟨by rw [A];simp [MH,aa,zY],by simp [eL,l,k,j,g,f,a]⟩
      |true=>
       have w:dT s cl m c++bd s cl c (d+1)=NX++[((c:Int),(d:Int))]:=by rw [←r];simp [bd,D]
       have A:MD s cl m c (d+1)=MH s m (eh s cl m c s.n.toNat) (cd s.st cl s.n.toNat (c+1)) (cd s.en cl s.n.toNat (c+1)) (NX++[((c:Int),(d:Int))]):=by rw [←w];rfl
       have S:=dJ (s:=s) (cl:=cl) (m:=m) (c:=c) (d:=d+1);rw [A]at S;simp (maxSteps:=9^7)-implicitDefEqProofs [-getElem?_pos,OF,l,k,j,g,f,a,f12];apply bM
       iterate 9· first|rfl|omega|(simp-implicitDefEqProofs [-getElem?_pos,OF,q];first|done|rfl|omega)
       simp (maxSteps:=9^7)-implicitDefEqProofs [-getElem?_pos,OF,l,k,j,g,f,a,f12,C];refine .iL h2 (a6 (h2:=MH s m (eh s cl m c s.n.toNat) (cd s.st cl s.n.toNat (c+1)) (cd s.en cl s.n.toNat (c+1)) (NX++[((c:Int),(d:Int))])) [0,1,2,3,4,5,6] (eL cl m c (d+1)) ?_ ?_ ?_ ?_ ?_ ?_) S
       ·simp [MH,eL,aa,zY,q,z,bN,l,k,j,g,f,a]
       iterate 2· simp
       ·intro b I;omega
       iterate 2· simp (maxDischargeDepth:=8)-implicitDefEqProofs [aq,OF,MH,eL,aa,zY,q,z,bN,l,k,j,g,f,a]
     ·have G:d=m:=by omega
      rw [G];rw [G]at f12;simp (maxSteps:=9^7)-implicitDefEqProofs [-getElem?_pos,OF,l,k,j,g,f,a,f12,MD,T];exact .for K ⟨by simp [MA,gX,dT],by simp [qU,l,k,j,g,f,a]⟩
    |false=>
     rw [p]at f10;simp (maxSteps:=9^7)-implicitDefEqProofs [-getElem?_pos,OF,l,k,j,g,f,a,o,f10,f11,MQ,MH,aa,W];refine cT (Db s cl m c) m (a6 (h2:=MD s cl m c 0) [0,1,2,3,4,5,6] (eL cl m c 0) ?_ ?_ ?_ ?_ ?_ ?_) dJ ?_
     ·simp [MD,MH,eL,aa,zY,cd,t,p,bd,bn,cu,l,k,j,g,f,a]
     iterate 2· simp
     ·intro b I;omega
     iterate 2· simp (maxDischargeDepth:=8)-implicitDefEqProofs [aq,OF,MD,MH,eL,aa,zY,cd,t,p,bd,bn,cu,l,k,j,g,f,a]
     clear l k j g f a o f10 f11;rintro d R h hd ⟨rfl,u⟩;simp only [eL,OZ,Ph,or_false,forall_eq_or_imp,forall_eq]at u;obtain ⟨l,k,j,g,f,a,f12⟩:=u;have Z:=fC s cl c d;have J:(dT s cl m c++bd s cl c d).length≤c*m+d:=by rw [OQ];omega
     have q:=bn (dT s cl m c++bd s cl c d);have z:=cu (dT s cl m c++bd s cl c d);by_cases h2:d<m
     ·have C:IntKind.i64.wrap ((d:Int)+1)=((d+1:Nat):Int):=aj ⟨by omega,by omega⟩
      obtain ⟨NX,r⟩:∃NX,dT s cl m c++bd s cl c d=NX:=⟨_,rfl⟩
      rw [r]at q z J;have L:MD s cl m c d=MH s m (eh s cl m c s.n.toNat) (cd s.st cl s.n.toNat (c+1)) (cd s.en cl s.n.toNat (c+1)) NX:=by rw [←r];rfl
      rw [L];simp (maxSteps:=9^7)-implicitDefEqProofs [-getElem?_pos,OF,l,k,j,g,f,a,f12,h2,MH,aa];refine aD (lK (c:=c) (d:=d) ok Y X) ?_ ?_ ?_
      iterate 2· simp (maxDischargeDepth:=8)-implicitDefEqProofs [-getElem?_pos,OF,aa]
      cases D:fh s cl c d with
      |false=>
       simp (maxSteps:=9^7)-implicitDefEqProofs [-getElem?_pos,OF,l,k,j,g,f,a,f12,C];have w:dT s cl m c++bd s cl c (d+1)=NX:=by rw [←r];simp [bd,D]
       have A:MD s cl m c (d+1)=MH s m (eh s cl m c s.n.toNat) (cd s.st cl s.n.toNat (c+1)) (cd s.en cl s.n.toNat (c+1)) NX:=by rw [←w];rfl
       exact .for h2 ⟨by rw [A];simp [MH,aa,zY],by simp [eL,l,k,j,g,f,a]⟩
      |true=>
       have w:dT s cl m c++bd s cl c (d+1)=NX++[((c:Int),(d:Int))]:=by rw [←r];simp [bd,D]
       have A:MD s cl m c (d+1)=MH s m (eh s cl m c s.n.toNat) (cd s.st cl s.n.toNat (c+1)) (cd s.en cl s.n.toNat (c+1)) (NX++[((c:Int),(d:Int))]):=by rw [←w];rfl
       have S:=dJ (s:=s) (cl:=cl) (m:=m) (c:=c) (d:=d+1);rw [A]at S;simp (maxSteps:=9^7)-implicitDefEqProofs [-getElem?_pos,OF,l,k,j,g,f,a,f12];apply bM
       iterate 9· first|rfl|omega|(simp-implicitDefEqProofs [-getElem?_pos,OF,q];first|done|rfl|omega)
       simp (maxSteps:=9^7)-implicitDefEqProofs [-getElem?_pos,OF,l,k,j,g,f,a,f12,C];refine .iL h2 (a6 (h2:=MH s m (eh s cl m c s.n.toNat) (cd s.st cl s.n.toNat (c+1)) (cd s.en cl s.n.toNat (c+1)) (NX++[((c:Int),(d:Int))])) [0,1,2,3,4,5,6] (eL cl m c (d+1)) ?_ ?_ ?_ ?_ ?_ ?_) S
       ·simp [MH,eL,aa,zY,q,z,bN,l,k,j,g,f,a]
       iterate 2· simp
       ·intro b I;omega
       iterate 2· simp (maxDischargeDepth:=8)-implicitDefEqProofs [aq,OF,MH,eL,aa,zY,q,z,bN,l,k,j,g,f,a]
     ·have G:d=m:=by omega
      rw [G];rw [G]at f12;simp (maxSteps:=9^7)-implicitDefEqProofs [-getElem?_pos,OF,l,k,j,g,f,a,f12,MD,T];exact .for K ⟨by simp [MA,gX,dT],by simp [qU,l,k,j,g,f,a]⟩
 ·have Fe:c=m:=by omega
  rw [Fe];rw [Fe]at a;simp (maxSteps:=9^7)-implicitDefEqProofs [-getElem?_pos,OF,l,k,j,g,f,a,MA,MH,zY,aa,mW];refine ae ?_;simp (maxDischargeDepth:=8)-implicitDefEqProofs [tK (eh s cl m m 0) 2 m,tK (cd s.st cl s.n.toNat m) 4,tK (cd s.en cl s.n.toNat m) 5,Da,bK]
open Go Go.RowKit
theorem lM {α:Type} {R:α→α→Prop} (d:∀a b,R a b→R b a→False):∀{l m:List α},l.Pairwise R→m.Pairwise R→(∀x,x∈l↔x∈m)→l=m
 |[],[],_,_,_=>rfl
 |[],b::m,_,_,h=>by have:=(h b).2 (by simp);simp at this
 |a::l,[],_,_,h=>by have:=(h a).1 (by simp);simp at this
 |a::l,b::m,p,q,h=>by
  obtain ⟨i,k⟩:=List.pairwise_cons.1 p;obtain ⟨g,j⟩:=List.pairwise_cons.1 q
  have e:a=b:=by
   rcases OZ.1 ((h a).1 (by simp))with e|e
   ·exact e
   ·rcases OZ.1 ((h b).2 (by simp))with f|f
    ·exact f.symm
    ·exact (d _ _ (g a e) (i b f)).elim
  subst e;congr 1
  refine lM d k j fun x=>⟨fun c=>?_,fun c=>?_⟩
  ·rcases OZ.1 ((h x).1 (by simp [c]))with e|e
   ·subst e;exact (d _ _ (i x c) (i x c)).elim
   ·exact e
  ·rcases OZ.1 ((h x).2 (by simp [c]))with e|e
   ·subst e;exact (d _ _ (g x c) (g x c)).elim
   ·exact e
theorem ou {α:Type} {R:α→α→Prop} (e:∀a b c,R a b→R b c→R a c):∀{l:List α},(∀(i:Nat) (x y:α),l[i]?=some x→l[i+1]?=some y→R x y)→l.Pairwise R
 |[],_=>.nil
 |a::l,h=>by
  have ih:l.Pairwise R:=ou e fun i x y j g=>h (i+1) x y (by simpa using j) (by simpa using g)
  refine List.pairwise_cons.2 ⟨fun b d=>?_,ih⟩
  cases l with
  |nil=>simp at d
  |cons c l=>
   have f:=h 0 a c rfl rfl;rcases OZ.1 d with rfl|d
   ·exact f
   ·exact e _ _ _ f ((List.pairwise_cons.1 ih).1 b d)
def ov (a b:Int×Int):Prop:=a.1<b.1∨(a.1=b.1∧a.2<b.2)
theorem tM {n:Int} {l:List Int} (h:fb n l=true):l.Pairwise (· <·):=ou (R:=(· <·)) (fun a b c (e:a<b) (h2:b<c)=>Int.lt_trans e h2) fun i x y f d=>by
 have:=cZ.1 h (i+1) (ON.1 d).1;rw [gQ,aU d,show i+1- 1=i from rfl,aU f]at this;simp at this;exact this.2
theorem Dd {s:Sy} (h:mK s):s.nx.Pairwise ov:=ou (fun a b c f h2=>by unfold ov at*;omega) fun i x y e d=>by
 have:=cZ.1 h.nx (i+1) (ON.1 d).1;rw [fG,aU d,show i+1- 1=i from rfl,aU e]at this;simp [lexB]at this;exact this.2
theorem gY {P:Nat→Bool} {q:Nat} (h:P q=true):∀{r:Nat},q<r→rk P q<rk P r
 |0,k=>by omega
 |r+1,k=>by
  rw [rk];by_cases e:q=r
  ·subst e;rw [if_pos h];omega
  ·have:=gY h (r:=r) (by omega)
   omega
theorem zV {P:Nat→Bool} {q r:Nat} (a:P q=true) (h2:P r=true) (e:rk P q=rk P r):q=r:=by
 rcases Nat.lt_trichotomy q r with k|k|k
 ·have:=gY a k;omega
 ·exact k
 ·have:=gY h2 k;omega
theorem xu {P:Nat→Bool} {k:Nat}:∀{n:Nat},k<rk P n→∃q,q<n∧P q=true∧rk P q=k
 |0,h=>by simp [rk]at h
 |n+1,h=>by
  rw [rk]at h;by_cases e:k<rk P n
  ·obtain ⟨q,a,b,c⟩:=xu e
   exact ⟨q,by omega,b,c⟩
  ·by_cases d:P n=true
   ·rw [if_pos d]at h
    exact ⟨n,by omega,d,by omega⟩
   ·rw [if_neg d]at h
    omega
theorem wa {P:Nat→Bool} {n q:Nat} (h:q<n):(kf P n)[q]?=some (if P q=true then(rk P q:Int)else-1):=by simp [kf,h]
theorem dK {P:Nat→Bool} {n q k:Nat} (h:q<n):(kf P n).getD q (-2)=(k:Int)↔P q=true∧rk P q=k:=by
 rw [aU (wa h)];by_cases e:P q=true
 ·rw [if_pos e];simp only [e,true_and];omega
 ·rw [if_neg e];simp [e]
theorem mX {P:Nat→Bool} {lab:List Int} {q:Nat} (h:P q=true):∀{i:Nat},q<i→(dS P lab i)[rk P q]?=some (lab.getD q 0)
 |0,k=>by omega
 |i+1,k=>by
  rw [dS];by_cases e:q=i
  ·subst e
   rw [if_pos h,OY (by simp),ff,Nat.sub_self];rfl
  ·have ih:=mX (lab:=lab) h (i:=i) (by omega)
   split
   ·rw [OU (ON.1 ih).1]
    exact ih
   ·exact ih
theorem pU {s:Sy} {P:Nat→Bool} {q:Nat} (h:P q=true):∀{i:Nat},q<i→i≤s.n.toNat→mV s (kf P s.n.toNat) (rk P q) i=s.lab.getD q 0
 |0,k,_=>by omega
 |i+1,k,hi=>by
  rw [mV];by_cases e:q=i
  ·subst e
   rw [if_pos ((dK (by omega)).2 ⟨h,rfl⟩)]
  ·rw [if_neg (fun c=>by
    obtain ⟨a,b⟩:=(dK (by omega)).1 c
    exact e (zV h a b.symm))]
   exact pU h (i:=i) (by omega) (by omega)
theorem jY {L cl:List Int} {c:Int}:∀{n:Nat},dC L cl c n=true↔∃q,q<n∧cl.getD q (-2)=c∧(q:Int)∈L
 |0=>by simp [dC]
 |n+1=>by
  rw [dC];have ih:=jY (L:=L) (cl:=cl) (c:=c) (n:=n)
  have f:(∃q,q<n+1∧cl.getD q (-2)=c∧(q:Int)∈L)↔(∃q,q<n∧cl.getD q (-2)=c∧(q:Int)∈L)∨(cl.getD n (-2)=c∧(n:Int)∈L):=⟨fun⟨q,a,b,d⟩=>by
   by_cases e:q=n
   ·subst e;exact .inr ⟨b,d⟩
   ·exact .inl ⟨q,by omega,b,d⟩,fun k=>k.elim (fun⟨q,a,b,d⟩=>⟨q,by omega,b,d⟩) fun⟨b,d⟩=>⟨n,by omega,b,d⟩⟩
  rw [f];by_cases e:cl.getD n (-2)=c
  ·rw [if_pos e,Bool.or_eq_true,ih,OT]
   exact ⟨fun k=>k.imp id fun d=>⟨e,d⟩,fun k=>k.imp id fun d=>d.2⟩
  ·rw [if_neg e,ih]
   exact ⟨.inl,fun k=>k.elim id fun d=>absurd d.1 e⟩
theorem lN {L cl:List Int} {n:Nat} {x:Int}:∀{c:Nat},x∈cd L cl n c↔∃k:Nat,k<c∧x=k∧dC L cl k n=true
 |0=>by simp [cd]
 |c+1=>by
  rw [cd,O1,lN];refine ⟨fun h=>?_,fun⟨k,a,b,d⟩=>?_⟩
  ·rcases h with⟨k,a,b,d⟩|h
   ·exact ⟨k,by omega,b,d⟩
   ·by_cases e:dC L cl c n=true
    ·rw [if_pos e]at h;simp at h;exact ⟨c,by omega,h,e⟩
    ·rw [if_neg e]at h;simp at h
  ·by_cases e:k=c
   ·subst e;exact .inr (by rw [if_pos d];simp [b])
   ·exact .inl ⟨k,by omega,b,d⟩
theorem tN (L cl:List Int) (n:Nat):∀c,(cd L cl n c).Pairwise (· <·)
 |0=>.nil
 |c+1=>by
  rw [cd];refine List.pairwise_append.2 ⟨tN L cl n c,by split<;>simp,fun a e b d=>?_⟩;obtain ⟨k,f,rfl,_⟩:=lN.1 e;split at d
  ·simp at d;omega
  ·simp at d
theorem gZ {s:Sy} {cl:List Int} {c:Int} {x:Int×Int}:∀{d:Nat},x∈bd s cl c d↔∃k:Nat,k<d∧x=(c,(k:Int))∧fh s cl c k=true
 |0=>by simp [bd]
 |d+1=>by
  rw [bd,O1,gZ];refine ⟨fun h=>?_,fun⟨k,a,b,e⟩=>?_⟩
  ·rcases h with⟨k,a,b,e⟩|h
   ·exact ⟨k,by omega,b,e⟩
   ·by_cases e:fh s cl c d=true
    ·rw [if_pos e]at h;simp only [List.mem_singleton]at h;exact ⟨d,by omega,h,e⟩
    ·rw [if_neg e]at h;simp at h
  ·by_cases h:k=d
   ·subst h;exact .inr (by rw [if_pos e];simp [b])
   ·exact .inl ⟨k,by omega,b,e⟩
theorem pV (s:Sy) (cl:List Int) (c:Int):∀d,(bd s cl c d).Pairwise ov
 |0=>.nil
 |d+1=>by
  rw [bd];refine List.pairwise_append.2 ⟨pV s cl c d,by split<;>simp,fun a f b e=>?_⟩;obtain ⟨k,g,rfl,_⟩:=gZ.1 f;split at e
  ·simp only [List.mem_singleton]at e;subst e;exact .inr ⟨rfl,by simp only;omega⟩
  ·simp at e
theorem lO {s:Sy} {cl:List Int} {m:Nat} {x:Int×Int}:∀{c:Nat},x∈dT s cl m c↔∃i j:Nat,i<c∧j<m∧x=((i:Int),(j:Int))∧fh s cl i j=true
 |0=>by simp [dT]
 |c+1=>by
  rw [dT,O1,lO,gZ];refine ⟨fun h=>?_,fun⟨i,j,a,b,d,e⟩=>?_⟩
  ·rcases h with⟨i,j,a,b,d,e⟩|⟨k,a,b,d⟩
   ·exact ⟨i,j,by omega,b,d,e⟩
   ·exact ⟨c,k,by omega,a,b,d⟩
  ·by_cases h:i=c
   ·subst h;exact .inr ⟨j,b,d,e⟩
   ·exact .inl ⟨i,j,by omega,b,d,e⟩
theorem tO (s:Sy) (cl:List Int) (m:Nat):∀c,(dT s cl m c).Pairwise ov
 |0=>.nil
 |c+1=>by
  rw [dT];refine List.pairwise_append.2 ⟨tO s cl m c,pV s cl c m,fun a e b d=>?_⟩;obtain ⟨i,j,g,h2,rfl,_⟩:=lO.1 e;obtain ⟨k,f,rfl,_⟩:=gZ.1 d;exact .inl (by simp only;omega)
theorem kG {P:Nat→Bool} {L:List Int} {x:Int}:x∈aX P L↔∃y∈L,P y.toNat=true∧x=rk P y.toNat:=by
 rw [aX,Pe];exact ⟨fun⟨y,a,h2⟩=>⟨y,(List.mem_filter.1 a).1,(List.mem_filter.1 a).2,h2.symm⟩,fun⟨y,a,h2,b⟩=>⟨y,List.mem_filter.2 ⟨a,h2⟩,b.symm⟩⟩
theorem tP {P:Nat→Bool} {L:List Int} (h:L.Pairwise (· <·)) (e:∀x∈L,0≤x):(aX P L).Pairwise (· <·):=by
 rw [aX,List.pairwise_map];refine (List.Pairwise.and_mem.1 (h.filter _)).imp fun{a b} ⟨c,f,g⟩=>?_
 have d:=(List.mem_filter.1 c).2;have h2:=e a (List.mem_filter.1 c).1;have:=gY (P:=P) (q:=a.toNat) d (r:=b.toNat) (by omega);omega
theorem tQ {P:Nat→Bool} {L:List Int} {n:Nat} (h:L.Pairwise (· <·)) (i:∀x∈L,0≤x∧x<n):cd L (kf P n) n (rk P n)=aX P L:=by
 refine lM (fun a b c h2=>by omega) (tN _ _ _ _) (tP h fun x j=>(i x j).1) fun x=>?_
 rw [lN,kG];refine ⟨fun⟨k,c,h2,g⟩=>?_,fun⟨y,c,h2,g⟩=>?_⟩
 ·obtain ⟨q,a,b,d⟩:=jY.1 g
  obtain ⟨e,f⟩:=(dK a).1 b;exact ⟨q,d,by simpa using e,by rw [h2];simp [f]⟩
 ·have:=i y c
  refine ⟨rk P y.toNat,gY h2 (by omega),g,jY.2 ⟨y.toNat,by omega,(dK (by omega)).2 ⟨h2,rfl⟩,by rw [Int.toNat_of_nonneg this.1];exact c⟩⟩
theorem pW {P:Nat→Bool} {L:List (Int×Int)} {x:Int×Int}:x∈mS P L↔∃y∈L,P y.1.toNat=true∧P y.2.toNat=true∧x=((rk P y.1.toNat:Int),(rk P y.2.toNat:Int)):=by
 rw [mS,Pe];refine ⟨fun⟨y,a,h2⟩=>?_,fun⟨y,a,h2,c,b⟩=>⟨y,List.mem_filter.2 ⟨a,by simp [h2,c]⟩,b.symm⟩⟩;have:=(List.mem_filter.1 a).2;rw [OK]at this;exact ⟨y,(List.mem_filter.1 a).1,this.1,this.2,h2.symm⟩
theorem zW {P:Nat→Bool} {L:List (Int×Int)} (h:L.Pairwise ov) (e:∀x∈L,0≤x.1∧0≤x.2):(mS P L).Pairwise ov:=by
 rw [mS,List.pairwise_map];refine (List.Pairwise.and_mem.1 (h.filter _)).imp fun{a b} ⟨d,g,i⟩=>?_
 have c:=(List.mem_filter.1 d).2;have h2:=e a (List.mem_filter.1 d).1;have l:=e b (List.mem_filter.1 g).1;rw [OK]at c;rcases i with k|⟨f,j⟩
 ·have:=gY (P:=P) (q:=a.1.toNat) c.1 (r:=b.1.toNat) (by omega)
  exact .inl (by simp only;omega)
 ·have:=gY (P:=P) (q:=a.2.toNat) c.2 (r:=b.2.toNat) (by omega)
  exact .inr ⟨by simp only [f],by simp only;omega⟩
theorem fk {s:Sy} (c:mK s) (P:Nat→Bool) (p:P=ar s):mW s (kf P s.n.toNat) (rk P s.n.toNat)=uY s:=by
 subst p;have g:=c.rg;have w:=c.n;unfold mW uY;congr 1
 ·apply List.ext_getElem?
  intro k;by_cases l:k<rk (ar s) s.n.toNat
  ·obtain ⟨q,a,b,rfl⟩:=xu l
   rw [mX b a];simp only [eh,Pb,List.getElem?_range l,Option.map_some,if_pos l];rw [pU b a (OL _)]
  ·rw [Pn (by simp;omega),Pn (by simp;omega)]
 ·exact tQ (tM c.st) fun x d=>by have:=g.st x d;omega
 ·exact tQ (tM c.en) fun x d=>by have:=g.en x d;omega
 ·refine lM (fun a b f h2=>by unfold ov at*;omega) (tO _ _ _ _) (zW (Dd c) fun x d=>by have:=g.nx x d;omega) fun x=>?_
  rw [lO,pW];refine ⟨fun⟨i,j,f,h2,e,m⟩=>?_,fun⟨y,f,h2,e,m⟩=>?_⟩
  ·obtain ⟨y,o,h⟩:=List.any_eq_true.1 m
   have:=g.nx y o;simp only [OK,OT]at h;obtain ⟨v,u⟩:=(dK (by omega)).1 h.1;obtain ⟨t,r⟩:=(dK (by omega)).1 h.2;exact ⟨y,o,v,t,by rw [e,u,r]⟩
  ·have:=g.nx y f
   refine ⟨rk (ar s) y.1.toNat,rk (ar s) y.2.toNat,gY h2 (by omega),gY e (by omega),m,List.any_eq_true.2 ⟨y,f,?_⟩⟩;simp only [OK,OT];exact ⟨(dK (by omega)).2 ⟨h2,rfl⟩,(dK (by omega)).2 ⟨e,rfl⟩⟩
end P
end Go.Proofs.Ytediokhgklkhnaa.A
