/- Texts that stand one behind the other: T8, T9, Ta, Tb, Tc, Tcl, Td, Te, Tf, Tg, Th, Ti, Tj, Tk. -/
import Derived.Test.YtediokhgklkhnaaG13
set_option linter.unusedVariables false
set_option linter.unusedSimpArgs false
set_option maxRecDepth 10000
set_option maxHeartbeats 1000000
namespace Go.Proofs.Ytediokhgklkhnaa.A
namespace P
open Go Go.RowKit
@[simp]theorem Dr (N:Nat):(sv N).take 4=sv N:=rfl
@[simp]theorem Ds (N:Nat):(sv N).drop 4=[]:=rfl
theorem yf:[pu 0,pu 0,pu 0,pu 0]=sv 0:=by simp [sv,lQ]
def mg {α β:Type} (f:β→α→β) (b:β) (l:List α) (i:Nat):β:=(l.take i).foldl f b
theorem oA {α β:Type} (f:β→α→β) (b:β) (l:List α):mg f b l 0=b:=rfl
theorem lS {α β:Type} {f:β→α→β} {b:β} {l:List α} {i:Nat} {x:α} (h:l[i]?=some x):mg f b l (i+1)=f (mg f b l i) x:=by
 unfold mg;rw [M4,h];simp
theorem jU {α β:Type} (f:β→α→β) (b:β) (l:List α):mg f b l l.length=l.foldl f b:=by rw [mg,List.take_length]
def dZ (N:Nat) (x:Int):Nat:=N|||2^x.toNat
def da (l:List Int):Nat:=l.foldl dZ 0
theorem bl (N:Nat) (x:Int) (q:Nat):(dZ N x).testBit q=(N.testBit q||decide (x.toNat=q)):=by rw [dZ,Nat.testBit_or,Nat.testBit_two_pow]
theorem jV:∀(l:List Int) (N q:Nat),(l.foldl dZ N).testBit q=true↔N.testBit q=true∨∃x∈l,x.toNat=q
 |[],N,q=>by simp
 |x::l,N,q=>by
  rw [List.foldl_cons,jV l,bl];simp only [Bool.or_eq_true,MU,M0,exists_eq_or_imp];exact ⟨fun h=>h.elim (fun k=>k.elim .inl fun e=>.inr (.inl e)) fun e=>.inr (.inr e),fun h=>h.elim (fun k=>.inl (.inl k)) fun e=>e.elim (fun e=>.inl (.inr e)) .inr⟩
theorem cl (l:List Int) (q:Nat):(da l).testBit q=true↔∃x∈l,x.toNat=q:=by rw [da,jV];simp
def ji (l:List Int):Prop:=∀x∈l,0≤x∧x<256
theorem rT {l:List Int} (h:ji l):Sm (da l):=Sm.of fun q b=>by
 obtain ⟨x,a,rfl⟩:=(cl l q).1 b;have:=h x a;omega
theorem kN {l:List Int} (o:l.length<2^60) (m:ji l):Fz E O 40 [dA l] (.agg (sv (da l))):=by
 refine e8.body (F:=BV) rfl rfl rfl ?_;simp (maxSteps:=9^7)-implicitDefEqProofs+contextual [-getElem?_pos,MF,BV,yf];refine ba (fun i a h=>h=[.cells 4 (sv 0),.cells 4 (sv (mg dZ 0 l i))]∧a.get 0=dA l∧a.get 2= .ref 0 0 4∧a.get 3= .ref 1 0 4∧a.get 4=pi i) l.length ?_ ?_
 ·exact ⟨by simp [sv,lQ,oA],by simp,by simp,by simp,by simp⟩
 rintro i a h hi ⟨rfl,d,c,b,g⟩;by_cases h:i<l.length
 ·obtain ⟨x,f⟩:∃x,l[i]?=some x:=⟨_,MG h⟩
  obtain ⟨j,n⟩:=m x (MN f);obtain ⟨q,rfl⟩:=Int.eq_ofNat_of_zero_le j;have k:IntKind.i64.wrap ((i:Int)+1)=((i+1:Nat):Int):=au ⟨by omega,by omega⟩;simp (maxSteps:=9^7)-implicitDefEqProofs [-getElem?_pos,MF,d,c,b,g,h,aV,f];refine aK (m5 (N:=mg dZ 0 l i) (q:=q) (by omega)) ?_ ?_ ?_
  iterate 2· simp (maxDischargeDepth:=8)-implicitDefEqProofs [-getElem?_pos,MF]
  simp (maxSteps:=9^7)-implicitDefEqProofs [-getElem?_pos,MF,d,c,b,g,k];refine .for h ⟨?_,by simp [d],by simp [c],by simp [b],by simp⟩;rw [lS f];rfl
 ·obtain rfl:i=l.length:=by omega
  have e:=jU dZ 0 l;rw [e];simp (maxSteps:=9^7)-implicitDefEqProofs [-getElem?_pos,MF,d,c,b,g];refine ak ?_;simp [da]
def kO (l:List (Int×Int)):Prop:=∀x∈l,(0≤x.1∧x.1<256)∧0≤x.2∧x.2<256
def vF (N M:Nat) (x:Int×Int):Nat:=if N.testBit x.1.toNat=true then dZ M x.2 else M
def vG (N M:Nat) (x:Int×Int):Nat:=if N.testBit x.2.toNat=true then dZ M x.1 else M
def fe (s:Sy) (N:Nat):Nat:=s.nx.foldl (vF N) 0
def fD (s:Sy) (N:Nat):Nat:=s.nx.foldl (vG N) 0
theorem oB (N:Nat):∀(l:List (Int×Int)) (M q:Nat),(l.foldl (vF N) M).testBit q=true↔M.testBit q=true∨∃x∈l,N.testBit x.1.toNat=true∧x.2.toNat=q
 |[],M,q=>by simp
 |x::l,M,q=>by
  rw [List.foldl_cons,oB N l,vF];simp only [M0,exists_eq_or_imp];by_cases h:N.testBit x.1.toNat=true
  ·rw [if_pos h,bl]
   simp only [Bool.or_eq_true,MU,h,true_and];exact ⟨fun h=>h.elim (fun k=>k.elim .inl fun e=>.inr (.inl e)) fun e=>.inr (.inr e),fun h=>h.elim (fun k=>.inl (.inl k)) fun e=>e.elim (fun e=>.inl (.inr e)) .inr⟩
  ·rw [if_neg h]
   simp [h]
theorem oC (N:Nat):∀(l:List (Int×Int)) (M q:Nat),(l.foldl (vG N) M).testBit q=true↔M.testBit q=true∨∃x∈l,N.testBit x.2.toNat=true∧x.1.toNat=q
 |[],M,q=>by simp
 |x::l,M,q=>by
  rw [List.foldl_cons,oC N l,vG];simp only [M0,exists_eq_or_imp];by_cases h:N.testBit x.2.toNat=true
  ·rw [if_pos h,bl]
   simp only [Bool.or_eq_true,MU,h,true_and];exact ⟨fun h=>h.elim (fun k=>k.elim .inl fun e=>.inr (.inl e)) fun e=>.inr (.inr e),fun h=>h.elim (fun k=>.inl (.inl k)) fun e=>e.elim (fun e=>.inl (.inr e)) .inr⟩
  ·rw [if_neg h]
   simp [h]
theorem gH (s:Sy) (N q:Nat):(fe s N).testBit q=true↔∃x∈s.nx,N.testBit x.1.toNat=true∧x.2.toNat=q:=by rw [fe,oB];simp
theorem m6 (s:Sy) (N q:Nat):(fD s N).testBit q=true↔∃x∈s.nx,N.testBit x.2.toNat=true∧x.1.toNat=q:=by rw [fD,oC];simp
theorem rU {s:Sy} (h:kO s.nx) (N:Nat):Sm (fe s N):=Sm.of fun q b=>by
 obtain ⟨x,a,_,rfl⟩:=(gH s N q).1 b;have:=h x a;omega
theorem rV {s:Sy} {N:Nat} (z:s.nx.length<2^60) (t:kO s.nx):Fz E O 41 [.agg (ah s),.agg (sv N)] (.agg (sv (fe s N))):=by
 refine e8.body (F:=BW) rfl rfl rfl ?_;simp (maxSteps:=9^7)-implicitDefEqProofs+contextual [-getElem?_pos,MF,BW];refine ba (fun i j h=>h=[.cells 6 (ah s),.cells 4 (sv N),.cells 4 (sv 0),.cells 4 (sv (mg (vF N) 0 s.nx i))]∧j.get 2= .ref 0 0 6∧j.get 3= .ref 1 0 4∧j.get 4= .ref 2 0 4∧j.get 5= .ref 3 0 4∧j.get 6=pi i) s.nx.length ?_ ?_
 ·exact ⟨by simp [sv,lQ,oA,ah],by simp [ah],by simp,by simp,by simp,by simp⟩
 rintro i j h hi ⟨rfl,g,d,c,a,k⟩;by_cases h:i<s.nx.length
 ·obtain ⟨⟨w,v⟩,l⟩:∃x,s.nx[i]?=some x:=⟨_,MG h⟩
  obtain ⟨⟨p,y⟩,o,u⟩:=t _ (MN l);obtain ⟨q,rfl⟩:=Int.eq_ofNat_of_zero_le p;obtain ⟨r,rfl⟩:=Int.eq_ofNat_of_zero_le o;have m:IntKind.i64.wrap ((i:Int)+1)=((i+1:Nat):Int):=au ⟨by omega,by omega⟩;have e:=lS (f:=vF N) (b:=0) l;rw [vF]at e;simp only [Int.toNat_natCast]at e;simp (maxSteps:=9^7)-implicitDefEqProofs [-getElem?_pos,MF,g,d,c,a,k,h,ah,cC,aO,l];refine aK (vE (N:=N) (q:=q) (by omega)) ?_ ?_ ?_
  iterate 2· simp (maxDischargeDepth:=8)-implicitDefEqProofs [-getElem?_pos,MF]
  cases n:N.testBit q with
  |true=>
   rw [n,if_pos rfl]at e;simp (maxSteps:=9^7)-implicitDefEqProofs [-getElem?_pos,MF,g,d,c,a,k,h,ah,cC,aO,l];refine aK (m5 (N:=mg (vF N) 0 s.nx i) (q:=r) (by omega)) ?_ ?_ ?_
   iterate 2· simp (maxDischargeDepth:=8)-implicitDefEqProofs [-getElem?_pos,MF]
   simp (maxSteps:=9^7)-implicitDefEqProofs [-getElem?_pos,MF,g,d,c,a,k,m];refine .for h ⟨?_,by simp [g],by simp [d],by simp [c],by simp [a],by simp⟩;rw [e];rfl
  |false=>
   rw [n,if_neg (by decide)]at e;simp (maxSteps:=9^7)-implicitDefEqProofs [-getElem?_pos,MF,g,d,c,a,k,m];refine .for h ⟨?_,by simp [g],by simp [d],by simp [c],by simp [a],by simp⟩;rw [e]
 ·obtain rfl:i=s.nx.length:=by omega
  have e:=jU (vF N) 0 s.nx;rw [e];simp (maxSteps:=9^7)-implicitDefEqProofs [-getElem?_pos,MF,g,d,c,a,k,ah,cC];refine ak ?_;simp [fe]
theorem uA {s:Sy} {N:Nat} (z:s.nx.length<2^60) (t:kO s.nx):Fz E O 80 [.agg (ah s),.agg (sv N)] (.agg (sv (fD s N))):=by
 refine e8.body (F:=B8) rfl rfl rfl ?_;simp (maxSteps:=9^7)-implicitDefEqProofs+contextual [-getElem?_pos,MF,B8];refine ba (fun i j h=>h=[.cells 6 (ah s),.cells 4 (sv N),.cells 4 (sv 0),.cells 4 (sv (mg (vG N) 0 s.nx i))]∧j.get 2= .ref 0 0 6∧j.get 3= .ref 1 0 4∧j.get 4= .ref 2 0 4∧j.get 5= .ref 3 0 4∧j.get 6=pi i) s.nx.length ?_ ?_
 ·exact ⟨by simp [sv,lQ,oA,ah],by simp [ah],by simp,by simp,by simp,by simp⟩
 rintro i j h hi ⟨rfl,g,d,c,a,k⟩;by_cases h:i<s.nx.length
 ·obtain ⟨⟨w,v⟩,l⟩:∃x,s.nx[i]?=some x:=⟨_,MG h⟩
  obtain ⟨⟨p,y⟩,o,u⟩:=t _ (MN l);obtain ⟨q,rfl⟩:=Int.eq_ofNat_of_zero_le p;obtain ⟨r,rfl⟩:=Int.eq_ofNat_of_zero_le o;have m:IntKind.i64.wrap ((i:Int)+1)=((i+1:Nat):Int):=au ⟨by omega,by omega⟩;have e:=lS (f:=vG N) (b:=0) l;rw [vG]at e;simp only [Int.toNat_natCast]at e;simp (maxSteps:=9^7)-implicitDefEqProofs [-getElem?_pos,MF,g,d,c,a,k,h,ah,cC,aO,l];refine aK (vE (N:=N) (q:=r) (by omega)) ?_ ?_ ?_
  iterate 2· simp (maxDischargeDepth:=8)-implicitDefEqProofs [-getElem?_pos,MF]
  cases n:N.testBit r with
  |true=>
   rw [n,if_pos rfl]at e;simp (maxSteps:=9^7)-implicitDefEqProofs [-getElem?_pos,MF,g,d,c,a,k,h,ah,cC,aO,l];refine aK (m5 (N:=mg (vG N) 0 s.nx i) (q:=q) (by omega)) ?_ ?_ ?_
   iterate 2· simp (maxDischargeDepth:=8)-implicitDefEqProofs [-getElem?_pos,MF]
   simp (maxSteps:=9^7)-implicitDefEqProofs [-getElem?_pos,MF,g,d,c,a,k,m];refine .for h ⟨?_,by simp [g],by simp [d],by simp [c],by simp [a],by simp⟩;rw [e];rfl
  |false=>
   rw [n,if_neg (by decide)]at e;simp (maxSteps:=9^7)-implicitDefEqProofs [-getElem?_pos,MF,g,d,c,a,k,m];refine .for h ⟨?_,by simp [g],by simp [d],by simp [c],by simp [a],by simp⟩;rw [e]
 ·obtain rfl:i=s.nx.length:=by omega
  have e:=jU (vG N) 0 s.nx;rw [e];simp (maxSteps:=9^7)-implicitDefEqProofs [-getElem?_pos,MF,g,d,c,a,k,ah,cC];refine ak ?_;simp [fD]
open Go Go.RowKit
def jy (f:Nat→Nat) (N:Nat):Nat→Nat
 |0=>N
 |k+1=>jy f N k|||f (jy f N k)
def ga (s:Sy) (k:Nat):Nat:=jy (fe s) (da s.st) k
def cH (s:Sy) (k:Nat):Nat:=jy (fD s) (da s.en) k
theorem yg {s:Sy} (ok:pE s) (j:ox s) (l:kO s.nx) (k:ji s.st):Fz E O 71 [.agg (ah s)] (.agg (sv (ga s s.n.toNat))):=by
 refine e8.body (F:=B5) rfl rfl rfl ?_;have m:=j.n;simp (maxSteps:=9^7)-implicitDefEqProofs+contextual [-getElem?_pos,MF,B5,ah,yf];refine aK (kN ok.st.1 k) ?_ ?_ ?_
 iterate 2· simp (maxDischargeDepth:=8)-implicitDefEqProofs [-getElem?_pos,MF]
 simp (maxSteps:=9^7)-implicitDefEqProofs [-getElem?_pos,MF];refine ba (fun i a h=>h=[.cells 6 (ah s),.cells 4 (sv 0),.cells 4 (sv (ga s i))]∧a.get 1= .ref 0 0 6∧a.get 2= .ref 1 0 4∧a.get 3= .ref 2 0 4∧a.get 4=pi i) s.n.toNat ?_ ?_
 ·exact ⟨by simp [sv,lQ,ah,ga,jy],by simp,by simp,by simp,by simp⟩
 rintro i a h hi ⟨rfl,d,c,b,f⟩;by_cases h:i<s.n.toNat
 ·have g:IntKind.i64.wrap ((i:Int)+1)=((i+1:Nat):Int):=au ⟨by omega,by omega⟩
  have h2:(i:Int)<s.n:=by omega
  simp (maxSteps:=9^7)-implicitDefEqProofs [-getElem?_pos,MF,d,c,b,f,h2,ah];refine aK (rV (N:=ga s i) ok.nx.1 l) ?_ ?_ ?_
  iterate 2· simp (maxDischargeDepth:=8)-implicitDefEqProofs [-getElem?_pos,MF,ah]
  simp (maxSteps:=9^7)-implicitDefEqProofs [-getElem?_pos,MF];refine aK (Bk (ga s i) (fe s (ga s i))) ?_ ?_ ?_
  iterate 2· simp (maxDischargeDepth:=8)-implicitDefEqProofs [-getElem?_pos,MF]
  simp (maxSteps:=9^7)-implicitDefEqProofs [-getElem?_pos,MF,d,c,b,f,g];exact ⟨by simp [sv],.for h ⟨rfl,by simp [d],by simp [c],by simp [b],by simp⟩⟩
 ·have h2:¬ (i:Int)<s.n:=by omega
  have e:i=s.n.toNat:=by omega
  rw [←e];simp (maxSteps:=9^7)-implicitDefEqProofs [-getElem?_pos,MF,d,c,b,f,ah,h2];refine ak ?_;simp
theorem rW {s:Sy} {n:Nat} (ok:pE s) (k:kO s.nx) (j:ji s.en) (l:n≤2^40):Fz E O 68 [.agg (ah s),pi n] (.agg (sv (cH s n))):=by
 refine e8.body (F:=B3) rfl rfl rfl ?_;simp (maxSteps:=9^7)-implicitDefEqProofs+contextual [-getElem?_pos,MF,B3,ah,yf];refine aK (kN ok.en.1 j) ?_ ?_ ?_
 iterate 2· simp (maxDischargeDepth:=8)-implicitDefEqProofs [-getElem?_pos,MF]
 simp (maxSteps:=9^7)-implicitDefEqProofs [-getElem?_pos,MF];refine ba (fun i a h=>h=[.cells 6 (ah s),.cells 4 (sv 0),.cells 4 (sv (cH s i))]∧a.get 1=pi n∧a.get 2= .ref 0 0 6∧a.get 4= .ref 1 0 4∧a.get 5= .ref 2 0 4∧a.get 6=pi i) n ?_ ?_
 ·exact ⟨by simp [sv,lQ,ah,cH,jy],by simp,by simp,by simp,by simp,by simp⟩
 rintro i a h hi ⟨rfl,e,d,c,b,f⟩;by_cases h:i<n
 ·have g:IntKind.i64.wrap ((i:Int)+1)=((i+1:Nat):Int):=au ⟨by omega,by omega⟩
  simp (maxSteps:=9^7)-implicitDefEqProofs [-getElem?_pos,MF,e,d,c,b,f,h,ah];refine aK (uA (N:=cH s i) ok.nx.1 k) ?_ ?_ ?_
  iterate 2· simp (maxDischargeDepth:=8)-implicitDefEqProofs [-getElem?_pos,MF,ah]
  simp (maxSteps:=9^7)-implicitDefEqProofs [-getElem?_pos,MF];refine aK (Bk (cH s i) (fD s (cH s i))) ?_ ?_ ?_
  iterate 2· simp (maxDischargeDepth:=8)-implicitDefEqProofs [-getElem?_pos,MF]
  simp (maxSteps:=9^7)-implicitDefEqProofs [-getElem?_pos,MF,e,d,c,b,f,g];exact ⟨by simp [sv],.for h ⟨rfl,by simp [e],by simp [d],by simp [c],by simp [b],by simp⟩⟩
 ·obtain rfl:i=n:=by omega
  simp (maxSteps:=9^7)-implicitDefEqProofs [-getElem?_pos,MF,e,d,c,b,f,ah];refine ak ?_;simp
def cJ (s:Sy):Nat:=ga s s.n.toNat&&&cH s s.n.toNat
theorem lT {s:Sy} (ok:pE s) (a:ox s) (c:kO s.nx) (d:ji s.st) (e:ji s.en):Fz E O 51 [.agg (ah s)] (.agg (sv (cJ s))):=by
 refine e8.body (F:=BZ) rfl rfl rfl ?_;have f:=a.n;have b:=rW (n:=s.n.toNat) ok c e (by omega);rw [Int.toNat_of_nonneg (by omega)]at b;simp (maxSteps:=9^7)-implicitDefEqProofs [-getElem?_pos,MF,BZ,ah];refine aK (yg ok a c d) ?_ ?_ ?_
 iterate 2· simp (maxDischargeDepth:=8)-implicitDefEqProofs [-getElem?_pos,MF,ah]
 simp (maxSteps:=9^7)-implicitDefEqProofs [-getElem?_pos,MF];refine aK (b) ?_ ?_ ?_
 iterate 2· simp (maxDischargeDepth:=8)-implicitDefEqProofs [-getElem?_pos,MF,ah]
 simp (maxSteps:=9^7)-implicitDefEqProofs [-getElem?_pos,MF];refine aK (rS (ga s s.n.toNat) (cH s s.n.toNat)) ?_ ?_ ?_
 iterate 2· simp (maxDischargeDepth:=8)-implicitDefEqProofs [-getElem?_pos,MF]
 simp (maxSteps:=9^7)-implicitDefEqProofs [-getElem?_pos,MF];refine ⟨rfl,?_⟩;refine ak ?_;simp [cJ]
end P
namespace P
open Go Go.RowKit
def lay (s:Sy):Nat→Nat
 |0=>da s.st&&&cJ s
 |k+1=>fe s (lay s k)&&&cJ s
theorem rX {N M:Nat} (h:Sm N):Sm (N&&&M):=Nat.lt_of_le_of_lt Nat.and_le_left h
theorem yh {s:Sy} (b:kO s.nx) (a:ji s.st):∀k,Sm (lay s k)
 |0=>rX (rT a)
 |k+1=>rX (rU b _)
theorem yi {N:Nat} (h:Sm N):gw true [(0,0),(1,0),(2,0),(3,0)] (.agg (sv N)) (.agg [.v (.int .u64 0),.v (.int .u64 0),.v (.int .u64 0),.v (.int .u64 0)])=some (.v (.bool (decide (N≠0)))):=by
 have e:N=0↔wd N 0=0∧wd N 1=0∧wd N 2=0∧wd N 3=0:=by
  refine ⟨fun h=>by rw [h];simp [lQ],fun⟨a,b,c,d⟩=>yd h (by decide) fun k m=>?_⟩;have:k=0∨k=1∨k=2∨k=3:=by omega
  rcases this with rfl|rfl|rfl|rfl<;>rw [lQ]<;>assumption
 generalize j:sv N=l;unfold sv at j;subst j;generalize wd N 0=a at*;generalize wd N 1=b at*;generalize wd N 2=c at*;generalize wd N 3=d at*;have ne:∀{n:Nat},¬ n=0→((n:Int)==0)=false:=fun h=>by simpa using h
 by_cases f:a=0
 ·by_cases g:b=0
  ·by_cases h2:c=0
   ·by_cases i:d=0
    ·simp [gw,iZ,e,f,g,h2,i,aR,cv]
    ·simp [gw,iZ,e,f,g,h2,i,ne i,aR,cv]
   ·simp [gw,iZ,e,f,g,h2,ne h2,aR,cv]
  ·simp [gw,iZ,e,f,g,ne g,aR,cv]
 ·simp [gw,iZ,e,f,ne f,aR,cv]
def FI (s:Sy) (i:Nat) (fr:PF) (h:PH):Prop:=h=[.cells 6 (ah s),.cells 4 (sv (cJ s)),.cells 4 (sv (lay s i))]∧(∀j,j<i→lay s j≠0)∧fr.get 1= .ref 0 0 6∧fr.get 4= .ref 1 0 4∧fr.get 5= .ref 2 0 4∧fr.get 6=pi i
theorem po {s:Sy} (ok:pE s) (t:ox s) (p:kO s.nx) (o:ji s.st) (u:ji s.en) {r:PV} (v:gD r=true)
 (yes:∀i,i≤s.n.toNat→(∀j,j<i→lay s j≠0)→lay s i=0→r= .dw [pb true,pi i]) (no:(∀j,j≤s.n.toNat→lay s j≠0)→r= .dw [pb false,pi 0]):
 Fz E O 18 [.agg (ah s)] r:=by
 refine e8.body (F:=BM) rfl rfl rfl ?_;have w:=t.n;simp (maxSteps:=9^7)-implicitDefEqProofs [-getElem?_pos,MF,BM,ah];refine aK (lT ok t p o u) ?_ ?_ ?_
 iterate 2· simp (maxDischargeDepth:=8)-implicitDefEqProofs [-getElem?_pos,MF,ah]
 simp (maxSteps:=9^7)-implicitDefEqProofs [-getElem?_pos,MF];refine aK (kN ok.st.1 o) ?_ ?_ ?_
 iterate 2· simp (maxDischargeDepth:=8)-implicitDefEqProofs [-getElem?_pos,MF]
 simp (maxSteps:=9^7)-implicitDefEqProofs [-getElem?_pos,MF];refine aK (rS (da s.st) (cJ s)) ?_ ?_ ?_
 iterate 2· simp (maxDischargeDepth:=8)-implicitDefEqProofs [-getElem?_pos,MF]
 simp (maxSteps:=9^7)-implicitDefEqProofs [-getElem?_pos,MF];refine ⟨by simp [sv],?_⟩;refine ba (FI s) s.n.toNat ⟨by simp [ah,lay],by simp,by simp,by simp,by simp,by simp⟩ ?_;rintro i y h hi ⟨rfl,m,f,d,c,g⟩;have a:=yi (yh p o i);have q:IntKind.i64.wrap ((i:Int)+1)=((i+1:Nat):Int):=au ⟨by omega,by omega⟩;by_cases b:lay s i=0
 ·have l:decide (lay s i≠0)=false:=by simp [b]
  rw [l]at a;rw [yes i hi m b];simp (maxSteps:=9^7)-implicitDefEqProofs [-getElem?_pos,MF,f,d,c,g,a,-gw];refine ak ?_;simp
 ·have l:decide (lay s i≠0)=true:=by simp [b]
  rw [l]at a;by_cases h:i<s.n.toNat
  ·have h2:¬ s.n<(i:Int)+1:=by omega
   simp (maxSteps:=9^7)-implicitDefEqProofs [-getElem?_pos,MF,f,d,c,g,a,-gw,q,ah,h2];refine aK (rV (N:=lay s i) ok.nx.1 p) ?_ ?_ ?_
   iterate 2· simp (maxDischargeDepth:=8)-implicitDefEqProofs [-getElem?_pos,MF,ah]
   simp (maxSteps:=9^7)-implicitDefEqProofs [-getElem?_pos,MF];refine aK (rS (fe s (lay s i)) (cJ s)) ?_ ?_ ?_
   iterate 2· simp (maxDischargeDepth:=8)-implicitDefEqProofs [-getElem?_pos,MF]
   simp (maxSteps:=9^7)-implicitDefEqProofs [-getElem?_pos,MF,f,d,c,g];refine ⟨by simp [sv],.for h ⟨by simp [ah,lay],fun j x=>?_,by simp [f],by simp [d],by simp [c],by simp⟩⟩;by_cases e:j=i
   ·subst e;exact b
   ·exact m j (by omega)
  ·have h2:s.n<(i:Int)+1:=by omega
   rw [no (fun j k=>by
    by_cases e:j=i
    ·subst e;exact b
    ·exact m j (by omega))]
   simp (maxSteps:=9^7)-implicitDefEqProofs [-getElem?_pos,MF,f,d,c,g,a,-gw,q,ah,h2];refine ak ?_;simp
open Go Go.RowKit
def sD (p:Nat) (c:List Int):PV:=if c=[]then ph else .sl 1 p 0 c.length c.length
def kW (pos:Nat→Nat) (out:List (List Int)):List PV:=out.mapIdx fun k c=>sD (pos k) c
@[simp]theorem yj (pos:Nat→Nat) (out:List (List Int)):(kW pos out).length=out.length:=by simp [kW]
theorem dj (pos:Nat→Nat) (out:List (List Int)) (k:Nat):(kW pos out)[k]?=(out[k]?).map (sD (pos k)):=by simp [kW]
structure NL (h:PH) (b:Nat) (bs:List Nat) (pos:Nat→Nat) (out:List (List Int)):Prop where
 top:h[b]?=some (.cells 1 (kW pos out))
 off:∀k c,out[k]?=some c→c≠[]→pos k≠b∧pos k∉bs∧h[pos k]?=some (.cells 1 (c.map pi))
 inj:∀i j c d,out[i]?=some c→out[j]?=some d→c≠[]→d≠[]→pos i=pos j→i=j
theorem uB (pos:Nat→Nat) (n:Nat):kW pos (List.replicate n [])=List.replicate n ph:=by
 apply List.ext_getElem?;intro k;rw [dj];simp only [List.getElem?_replicate];split<;>simp [sD]
theorem NL.zero {h:PH} {b n:Nat} {g:List Nat} (f:h[b]?=some (.cells 1 (List.replicate n ph))):NL h b g (fun _=>0) (List.replicate n []):=
 ⟨by rw [uB];exact f,fun k c e a=>by simp only [List.getElem?_replicate]at e;split at e<;>simp at e;exact absurd e a,fun i j c d e _ a=>by simp only [List.getElem?_replicate]at e;split at e<;>simp at e;exact absurd e a⟩
theorem NL.lt {h:PH} {b:Nat} {d:List Nat} {pos:Nat→Nat} {out:List (List Int)} (L:NL h b d pos out) {k:Nat} {c:List Int} (e:out[k]?=some c) (a:c≠[]):pos k<h.length:=(MO.1 (L.off k c e a).2.2).1
theorem NL.iA {h g:PH} {b:Nat} {i:List Nat} {pos:Nat→Nat} {out:List (List Int)} (L:NL h b i pos out) (d:∀a,(a=b∨∃k c,out[k]?=some c∧c≠[]∧a=pos k)→g[a]?=h[a]?):NL g b i pos out:=
 ⟨by rw [d b (.inl rfl)];exact L.top,fun k c e f=>by
  obtain ⟨m,l,j⟩:=L.off k c e f
  exact ⟨m,l,by rw [d _ (.inr ⟨k,c,e,f,rfl⟩)];exact j⟩,L.inj⟩
theorem NL.vH {h g:PH} {b P k:Nat} {p:List Nat} {pos:Nat→Nat} {out:List (List Int)} {x:Int} (L:NL h b p pos out) (t:out[k]?=some []) (v:∀a∈p,a<h.length) (u:∀a,a<h.length→a≠b→g[a]?=h[a]?)
 (w:g[b]?=some (.cells 1 ((kW pos out).set k (.sl 1 P 0 1 1)))) (y:g[P]?=some (.cells 1 [pi x])) (B:h.length≤P):NL g b p (fun j=>if j=k then P else pos j) (out.set k [x]):=by
 have n:=(MO.1 t).1;have C:=(MO.1 L.top).1;refine ⟨?_,fun j c e l=>?_,fun i j c d o m l r e=>?_⟩
 ·rw [w]
  congr 2;apply List.ext_getElem?;intro j;rw [dj];by_cases f:j=k
  ·subst f
   rw [Nl (by simpa using n),Nl n];simp [sD]
  ·rw [M7 (Ne.symm f),M7 (Ne.symm f),dj,if_neg f]
 ·by_cases f:j=k
  ·subst f
   rw [Nl n]at e;cases e;rw [if_pos rfl];exact ⟨by omega,fun q=>by have:=v _ q;omega,y⟩
  ·rw [M7 (Ne.symm f)]at e
   rw [if_neg f];obtain ⟨s,A,z⟩:=L.off j c e l;exact ⟨s,A,by rw [u _ (L.lt e l) s];exact z⟩
 ·by_cases hi:i=k
  ·by_cases f:j=k
   ·omega
   ·rw [M7 (Ne.symm f)]at m
    rw [if_pos hi,if_neg f]at e;have:=L.lt m r;omega
  ·rw [M7 (Ne.symm hi)]at o
   by_cases f:j=k
   ·rw [if_neg hi,if_pos f]at e
    have:=L.lt o l;omega
   ·rw [M7 (Ne.symm f)]at m
    rw [if_neg hi,if_neg f]at e;exact L.inj i j c d o m l r e
theorem NL.vI {h g:PH} {b k:Nat} {v:List Nat} {pos:Nat→Nat} {out:List (List Int)} {x:Int} {c:List Int} (L:NL h b v pos out) (n:out[k]?=some c) (s:c≠[]) (B:∀a,a<h.length→a≠b→a≠pos k→g[a]?=h[a]?)
 (C:g[b]?=some (.cells 1 ((kW pos out).set k (.sl 1 (pos k) 0 (c.length+1) (c.length+1))))) (D:g[pos k]?=some (.cells 1 ((c++[x]).map pi))):NL g b v pos (out.set k (c++[x])):=by
 have p:=(MO.1 n).1;refine ⟨?_,fun j d e l=>?_,fun i j m d F E r l e=>?_⟩
 ·rw [C]
  congr 2;apply List.ext_getElem?;intro j;rw [dj];by_cases f:j=k
  ·subst f
   rw [Nl (by simpa using p),Nl p];simp [sD]
  ·rw [M7 (Ne.symm f),M7 (Ne.symm f),dj]
 ·by_cases f:j=k
  ·subst f
   rw [Nl p]at e;cases e;obtain ⟨o,t,_⟩:=L.off j c n s;exact ⟨o,t,D⟩
  ·rw [M7 (Ne.symm f)]at e
   obtain ⟨o,t,I⟩:=L.off j d e l;exact ⟨o,t,by rw [B _ (L.lt e l) o (fun q=>f (L.inj j k d c e n l s q))];exact I⟩
 ·have key:∀{i:Nat} {m:List Int},(out.set k (c++[x]))[i]?=some m→m≠[]→∃u,out[i]?=some u∧u≠[]:=fun{i m} e r=>by
   by_cases hi:i=k
   ·subst hi;exact ⟨c,n,s⟩
   ·rw [M7 (Ne.symm hi)]at e
    exact ⟨m,e,r⟩
  obtain ⟨H,A,z⟩:=key F r;obtain ⟨G,y,w⟩:=key E l;exact L.inj i j H G A y z w e
def jW (out:List (List Int)):PV:=.fs 1 (out.map fun c=>[dA c])
@[simp]theorem Dt (out:List (List Int)):gD (jW out)=true:=rfl
theorem uC {A:Nat→Prop} {h:PH}:Vz A h ph (dA []):=fun F H b x S R=>by
 cases R;exact .fs (rows:=[]) (rs:=[]) ⟨_,_,rfl,fun i r hi=>by simp at hi⟩ (MM _) (fun d a=>by cases a) .nil
theorem NL.vz {h:PH} {b:Nat} {j:List Nat} {pos:Nat→Nat} {out:List (List Int)} {A:Nat→Prop} (L:NL h b j pos out) (g:∀x,A x):Vz A h (.sl 1 b 0 out.length out.length) (jW out):=by
 refine rA (g b) L.top (by simp) (by decide) (MM _) (MM _) (by simp) (by intro r i;obtain ⟨x,_,rfl⟩:=Nh.1 i;rfl) ?_;simp only [Nat.zero_mul,List.drop_zero,Nat.mul_one];rw [MP (by simp)]
 have key:∀(ps:List PV) (o:List (List Int)),ps.length=o.length→(∀(k:Nat) (p:PV) (c:List Int),ps[k]?=some p→o[k]?=some c→Vz A h p (dA c))→rv A h ps (o.map fun c=>[dA c]).flatten:=by
  intro ps
  induction ps with
  |nil=>intro o f _;cases o with
   |nil=>trivial
   |cons c o=>simp at f
  |cons p ps ih=>intro o f hi;cases o with
   |nil=>simp at f
   |cons c o=>exact ⟨hi 0 p c rfl rfl,ih o (by simpa using f) fun k q d a h2=>hi (k+1) q d (by simpa using a) (by simpa using h2)⟩
 refine key _ _ (by simp) fun k p c a h2=> ?_
 rw [dj,h2]at a;simp only [Option.map_some,MH]at a;subst a;unfold sD;split
 · rename_i e;subst e;exact uC
 · rename_i e
   exact x3 (g _) (L.off k c h2 e).2.2
end P
namespace P
open Go Go.RowKit
theorem cm {α:Type} {x:α}:∀{l:List α} {k:Nat},k<l.length→jC l k [x]=l.set k x
 |[],k,h=>by simp at h
 |y::l,0,_=>by simp [jC]
 |y::l,k+1,h=>by simp [jC,cm (l:=l) (k:=k) (by simpa using h)]
def gb (out:List (List Int)) (x:Int×Int):List (List Int):=out.set x.1.toNat (out.getD x.1.toNat []++[x.2])
def b6 (l:List (Int×Int)) (n i:Nat):List (List Int):=mg gb (List.replicate n []) l i
def jE (l:List (Int×Int)) (n:Nat):List (List Int):=l.foldl gb (List.replicate n [])
@[simp]theorem lU (out:List (List Int)) (x:Int×Int):(gb out x).length=out.length:=by simp [gb]
theorem bN:∀(l:List (Int×Int)) (out:List (List Int)),(l.foldl gb out).length=out.length
 |[],_=>rfl
 |x::l,out=>by rw [List.foldl_cons,bN l,lU]
@[simp]theorem Bl (l:List (Int×Int)) (n i:Nat):(b6 l n i).length=n:=by rw [b6,mg,bN,List.length_replicate]
@[simp]theorem rY (l:List (Int×Int)) (n:Nat):(jE l n).length=n:=by rw [jE,bN,List.length_replicate]
theorem jk (l:List (Int×Int)) (n:Nat):∀(k:Nat) (c:List Int),(jE l n)[k]?=some c→c.length≤l.length:=by
 have key:∀(l:List (Int×Int)) (out:List (List Int)) (m:Nat),(∀(k:Nat) (c:List Int),out[k]?=some c→c.length≤m)→∀(k:Nat) (c:List Int),(l.foldl gb out)[k]?=some c→c.length≤m+l.length:=by
  intro l
  induction l with
  |nil=>intro out m h k c e;exact h k c e
  |cons x l ih=>
   intro out m h k c e;rw [List.foldl_cons]at e
   have:=ih (gb out x) (m+1) (fun j d q=>by
    unfold gb at q;by_cases b:x.1.toNat=j
    ·subst b
     have a:x.1.toNat<out.length:=by
      have:=(MO.1 q).1
      simpa using this
     rw [Nl a]at q;cases q;have:=h _ _ (MG a);rw [List.getD_eq_getElem?_getD,MG a];simp;exact this
    ·rw [M7 b]at q
     have:=h j d q
     omega) k c e
   simp only [List.length_cons];omega
 intro k c e
 have:=key l (List.replicate n []) 0 (fun j d q=>by
  simp only [List.getElem?_replicate]at q;split at q
  ·cases q;simp
  ·cases q) k c e
 omega
theorem oD (l:List (Int×Int)) (n i:Nat) (k:Nat) (c:List Int) (h:(b6 l n i)[k]?=some c):c.length≤l.length:=by
 have:=jk (l.take i) n k c h;have:=List.length_take_le i l;have:=jk (l.take i) n k c h;rw [List.length_take]at this;omega
theorem kP {l:List (Int×Int)} {n i q:Nat} {y:Int} {c:List Int} (b:l[i]?=some ((q:Int),y)) (a:(b6 l n i)[q]?=some c):b6 l n (i+1)=(b6 l n i).set q (c++[y]):=by
 unfold b6 at a⊢;rw [lS b,gb];simp only [Int.toNat_natCast];rw [List.getD_eq_getElem?_getD,a];rfl
def NI (s:Sy) (i:Nat) (fr:PF) (h:PH):Prop:=∃pos,NL h 1 [0] pos (b6 s.nx s.n.toNat i)∧h[0]?=some (.cells 6 (ah s))∧fr.get 1= .ref 0 0 6∧fr.get 3= .sl 1 1 0 s.n.toNat s.n.toNat∧fr.get 10=cC s.nx∧fr.get 11=pi s.nx.length∧fr.get 12=pi i
theorem rZ {s:Sy} (ok:pE s) (C:ox s) (hE:∀x∈s.nx,(0≤x.1∧x.1<s.n)∧0≤x.2∧x.2<s.n):Fz E O 32 [.agg (ah s)] (jW (jE s.nx s.n.toNat)):=by
 refine e8.body (F:=BS) rfl rfl rfl ?_;have y6:=C.n;have W:IntKind.i64.wrap s.n=s.n:=au ⟨by omega,by omega⟩;have hb:((24:Nat):Int)*s.n≤2^47:=by omega
 simp (maxSteps:=9^7)-implicitDefEqProofs [-getElem?_pos,MF,BS,ah,cC,W];refine ⟨⟨by omega,by omega⟩,?_⟩;refine ba (NI s) s.nx.length ⟨fun _=>0,by rw [show b6 s.nx s.n.toNat 0=List.replicate s.n.toNat [] from rfl];exact NL.zero rfl,by simp [ah,cC],by simp,by simp,by simp [cC],by simp,by simp⟩ ?_;rintro i fr h hi ⟨pos,L,Q,t,r,f10,f11,f12⟩;have K:=(MO.1 L.top).1;by_cases f:i<s.nx.length
 ·obtain ⟨⟨x1,b⟩,v⟩:∃x,s.nx[i]?=some x:=⟨_,MG f⟩
  obtain ⟨⟨U,u⟩,y0,T⟩:=hE _ (MN v);obtain ⟨q,rfl⟩:=Int.eq_ofNat_of_zero_le U;dsimp only at u T;have o:q<s.n.toNat:=by omega
  obtain ⟨c,m⟩:∃c,(b6 s.nx s.n.toNat i)[q]?=some c:=⟨_,MG (by simpa using o)⟩
  have N:IntKind.i64.wrap ((i:Int)+1)=((i+1:Nat):Int):=au ⟨by have:=C.nl;omega,by have:=C.nl;omega⟩;have y:=dj pos (b6 s.nx s.n.toNat i) q;rw [m,Option.map_some]at y;have top:=L.top;have S:(h++[PB.cells 2 [pi q,pi b]])[1]?=some (.cells 1 (kW pos (b6 s.nx s.n.toNat i))):=by rw [MV K];exact top
  by_cases w:c=[]
  ·subst w
   rw [show sD (pos q) []=ph from rfl]at y;simp (maxSteps:=9^7)-implicitDefEqProofs [-getElem?_pos,MF,t,r,f10,f11,f12,f,cC,aO,v,o,S,y,u,List.getElem?_concat_length];refine ⟨⟨by omega,by omega⟩,?_⟩;have z:∀(A B:PB) (l:PH),(h++A::B::l)[h.length]?=some A:=fun A B l=>by rw [MZ (MM _),Nat.sub_self];rfl
   have D:∀(A B:PB) (l:PH),(h++A::B::l)[h.length+1]?=some B:=fun A B l=>by rw [MZ (by omega),Nat.add_sub_cancel_left];rfl
   rw [lJ (new:=[pi b]) (by decide) rfl (by simp [cA,D]) (by decide) (by decide) (by decide)]
   obtain ⟨P,M⟩:∃P,(h++[PB.cells 2 [pi q,pi b],PB.cells 1 [pi b]]).length=P:=⟨_,rfl⟩
   obtain ⟨g,d⟩:∃g,h++[PB.cells 2 [pi q,pi b],PB.cells 1 [pi b]]++[PB.cells 1 [pi b]]=g:=⟨_,rfl⟩
   have LM:P=h.length+2:=by rw [←M];simp
   have p:∀a,a<h.length→g[a]?=h[a]?:=fun a e=>by rw [←d,M8,MV e]
   have J:g[1]?=some (.cells 1 (kW pos (b6 s.nx s.n.toNat i))):=by rw [p 1 K];exact top
   have H:g[h.length]?=some (.cells 2 [pi q,pi b]):=by rw [←d,M8];exact z _ _ _
   have I:g[P]?=some (.cells 1 [pi b]):=by rw [←d,←M,MZ (MM _),Nat.sub_self];rfl
   have Z:g.length=h.length+3:=by rw [←d];simp
   have G:=cm (x:=PV.sl 1 P 0 1 1) (l:=kW pos (b6 s.nx s.n.toNat i)) (k:=q) (by simpa using o);rw [M,d];simp (maxSteps:=9^7)-implicitDefEqProofs [-getElem?_pos,MF,t,r,f10,f11,f12,J,H,G,o,u,z,List.getElem?_concat_length,N];refine ⟨⟨by omega,by omega⟩,⟨by omega,by omega⟩,.for f ⟨fun j=>if j=q then P else pos j,?_,?_,by simp [t],by simp [r],by simp [f10],by simp [f11],by simp⟩⟩
   ·rw [kP v m]
    refine L.vH m (fun a e=>by simp at e;omega) (fun a e f=>?_) ?_ ?_ (by omega:h.length≤P)
    ·rw [M7 (Ne.symm f)];exact p a e
    ·rw [Nl (by omega)]
    ·rw [M7 (by omega)];exact I
   ·rw [M7 (by omega),p 0 (by omega)];exact Q
  ·rw [sD,if_neg w]at y
   obtain ⟨R,a2,a3⟩:=L.off q c m w;simp (maxSteps:=9^7)-implicitDefEqProofs [-getElem?_pos,MF,t,r,f10,f11,f12,f,cC,aO,v,o,S,y,u,List.getElem?_concat_length];refine ⟨⟨by omega,by omega⟩,?_⟩;have z:∀(A B:PB) (l:PH),(h++A::B::l)[h.length]?=some A:=fun A B l=>by rw [MZ (MM _),Nat.sub_self];rfl
   have D:∀(A B:PB) (l:PH),(h++A::B::l)[h.length+1]?=some B:=fun A B l=>by rw [MZ (by omega),Nat.add_sub_cancel_left];rfl
   have X:=L.lt m w;have g8:=oD _ _ _ _ _ m;have so:=C.nl;have Gs:pos q≠0:=fun V=>a2 (by simp [V])
   refine kE (cs:=c.map pi) (new:=[pi b]) (by rw [MV X];exact a3) rfl (by simp [cA,D]) (by simp) (by decide) rfl (by simp [cW,D]) (by omega) (by omega) ?_
   obtain ⟨g,d⟩:∃g,(h++[PB.cells 2 [pi q,pi b],PB.cells 1 [pi b]]).set (pos q) (.cells 1 (c.map pi++[pi b]))=g:=⟨_,rfl⟩
   have Z:g.length=h.length+2:=by rw [←d];simp
   have p:∀a,a<h.length→a≠pos q→g[a]?=h[a]?:=fun a e Y=>by rw [←d,M7 (Ne.symm Y),MV e]
   have J:g[1]?=some (.cells 1 (kW pos (b6 s.nx s.n.toNat i))):=by rw [p 1 K (Ne.symm R)];exact top
   have H:g[h.length]?=some (.cells 2 [pi q,pi b]):=by rw [←d,M7 (by omega)];exact z _ _ _
   have I:g[pos q]?=some (.cells 1 (c.map pi++[pi b])):=by rw [←d,Nl (by simp;omega)]
   have G:=cm (x:=PV.sl 1 (pos q) 0 (c.length+1) (c.length+1)) (l:=kW pos (b6 s.nx s.n.toNat i)) (k:=q) (by simpa using o);rw [d];simp (maxSteps:=9^7)-implicitDefEqProofs [-getElem?_pos,MF,t,r,f10,f11,f12,J,H,G,o,u,z,List.getElem?_concat_length,N];refine ⟨⟨by omega,by omega⟩,⟨by omega,by omega⟩,by omega,.for f ⟨pos,?_,?_,by simp [t],by simp [r],by simp [f10],by simp [f11],by simp⟩⟩
   ·rw [kP v m]
    refine L.vI m w (fun a e f h2=>?_) ?_ ?_
    ·rw [M7 (Ne.symm f)];exact p a e h2
    ·rw [Nl (by omega)]
    ·rw [M7 (Ne.symm R),I]
     simp
   ·rw [M7 (by omega),p 0 (by omega) (Ne.symm Gs)];exact Q
 ·obtain rfl:i=s.nx.length:=by omega
  simp (maxSteps:=9^7)-implicitDefEqProofs [-getElem?_pos,MF,t,r,f10,f11,f12];have:=L.vz (A:=kC) (fun x=>trivial);rw [b6,jU,bN,List.length_replicate]at this;exact ak (rB this)
end P
section
open Go
def m8 (sz bytes:Nat):AF:=⟨1,8,[.tmp 2],.seq (.aB [o 2 (.mv (.k (.slice none 0 0)))]) (.seq (.seq (.aB [o 3 (.mv (.t 0)),o 4 (.eqk 2 false (.t 3) (.k (.slice none 0 0)))]) (.cond (.t 4) (.seq (.aB [o 2 (.mv (.k (.slice none 0 0)))]) .ret) .skip)) (.seq (.aB [o 5 (.bsl 0 sz [] []),o 6 (.mv (.t 0)),o 7 (.app sz bytes (.t 5) (.t 6)),o 2 (.mv (.t 7))]) .ret))⟩
theorem pq {f sz bytes:Nat} (u:O f=none) (y:E f=some (m8 sz bytes)) {H:AH} {v:Value} {rows:List (List Value)} (m:H.n0≤H.nx) (j:Rows H sz v rows) (d:rows.length*bytes≤2^47) (z:rows.length<2^62):
 Ca E O f [v] H (fun x q=>sA q sz x rows∧Ext H q∧∀b,bw x b→H.nx≤b):=by
 refine Ca.As u y rfl ?_;obtain ⟨a,c,i⟩:=j.len
 cases a with
 |none=>
  have t:rows=[]:=by
   obtain ⟨D,C,e,k⟩:=j.is;rw [i]at e;cases e
   cases rows with
   |nil=>rfl
   |cons r rows=>obtain ⟨b,o,e,_⟩:=k 0 r rfl;cases e
  subst t;simp (maxSteps:=9^7)-implicitDefEqProofs+contextual [-X.ev,m8,i];exact ⟨sA.nil _ _,Ext.refl _,fun b d=>absurd d (tA _ _ _)⟩
 |some a=>
  have n:mQ 0 sz [] H []=some (.slice (some ⟨H.nx,0,none⟩) 0 0,H.alloc (.cells sz [])):=rfl;have g:=Ext.alloc H (.cells sz [])
  have l:sA (H.alloc (.cells sz [])) sz (.slice (some ⟨H.nx,0,none⟩) 0 0) []:=⟨.inr ⟨H.nx,rfl,m,eJ _ _⟩,by simp⟩
  generalize H.alloc (.cells sz [])=G at n g l;obtain ⟨B,F,p,s,A,w⟩:=tB (bytes:=bytes) (g.wf m) l (j.ext g) (by simpa using d) (by simpa using z);rw [i]at p;simp (maxSteps:=9^7)-implicitDefEqProofs+contextual [-X.ev,m8,i,n,p];refine ⟨by simpa using s,g.mod A (by intro b d;rw [bQ]at d;subst d;exact MM _),fun b d=>?_⟩;rcases w b d with h|h
  ·rw [bQ]at h;subst h;exact MM _
  ·exact M5 g.nx h
def dk (l:List Int):List (List Value):=l.map fun n=>[.int .i64 n]
end
namespace P
open Go Go.RowKit
theorem Fo.rN {f:Nat} {args:List PV} {sz:Nat} {rows:List (List Value)} (B:0<sz) (k:∀F H φ vs,H.n0≤H.nx→aT ⟨F,H,φ,[]⟩ args vs→Ca E O f vs H (fun x i=>sA i sz x rows∧Ext H i∧∀b,bw x b→H.nx≤b)):Fo E O f args sz rows.length (rows.flatten.map .v):=by
 intro F H φ vs S A;refine (k F H φ vs S.wf A).mono ?_;rintro x i ⟨o,X,c⟩;have d:(rows.flatten.map PV.v).length=rows.length*sz:=by rw [List.length_map,bF o.len]
 obtain ⟨a,p⟩:∃a:Nat,(rows≠[]→x= .slice (some ⟨a,0,none⟩) rows.length rows.length∧i.get a=some (.cells sz rows.flatten)∧H.nx≤a∧i.n0≤a):=by
  rcases o.is with⟨_,rfl⟩|⟨a,rfl,w,r⟩
  ·exact ⟨0,fun h=>absurd rfl h⟩
  ·exact ⟨a,fun _=>⟨rfl,r,c a ((bQ _ _ _ _ _).2 rfl),w⟩⟩
 have one:∀{b:Nat} {P:PB},[PB.cells sz (rows.flatten.map .v)][b]?=some P→b=0∧P= .cells sz (rows.flatten.map .v):=by
  intro b P e
  cases b with
  |zero=>simp only [MF,MH]at e;exact ⟨rfl,e.symm⟩
  |succ b=>simp at e
 have m:∀{b:Nat},aA [PB.cells sz (rows.flatten.map .v)] b→b=0∧rows≠[]:=by
  intro b s;rcases dK s with⟨es,e⟩|⟨z,cs,e,n⟩
  ·have:=(one e).2;cases this
  ·obtain ⟨rfl,l⟩:=one e
   cases l;exact ⟨rfl,by rintro rfl;exact n rfl⟩
 have T:bp 0 kC ⟨F,H,φ,[]⟩ ⟨F,i,fun _=>a,[.cells sz (rows.flatten.map .v)]⟩:=⟨X.n0,X.nx,fun x g=>⟨g,X.old x (S.fz x g)⟩,fun _ _ _ h=>h,fun x g _=>X.old x g,fun b c=>.inl (p (m c).2).2.2.1,fun _=>Nb _,fun b c=>absurd c (M9 _),fun b c=>absurd c (M9 _),fun b c=>absurd c (M9 _)⟩
 refine ⟨_,_,F,fun _=>a,⟨rfl,rfl,?_,d⟩,?_,⟨X.wf S.wf,fun x g=>M6 (S.fz x g) X.nx,fun b D s q _=>by rw [(m s).1,(m q).1],fun b z cs e n=>?_,fun b es e=>?_⟩,T⟩
 ·rw [eA];simp
 ·refine .sl ?_ (by simp) (fun z cs e=>?_) (fun _=>?_)
  ·rcases o.is with⟨rfl,y⟩|⟨_,rfl,_⟩
   ·exact ⟨none,0,by rw [y];rfl⟩
   ·exact ⟨_,_,rfl⟩
  ·obtain ⟨_,l⟩:=one e
   cases l;rw [d];simp
  ·by_cases j:rows=[]
   ·subst j
    refine .inl ⟨rfl,rfl,?_⟩;rcases o.is with⟨rfl,_⟩|⟨b,rfl,_⟩
    ·exact ⟨none,rfl,by simp⟩
    ·exact ⟨_,rfl,by rintro e ⟨⟩;rfl⟩
   ·exact .inr ⟨List.length_pos_iff.2 j,by rw [(p j).1];simp⟩
 ·obtain ⟨rfl,l⟩:=one e
  cases l;have j:rows≠[]:=by rintro rfl;exact n rfl
  obtain ⟨_,h2,C,u⟩:=p j;exact ⟨rows.flatten,h2,aT.lits _,u,fun t=>by have:=S.fz _ t;dsimp only at this;omega⟩
 ·have:=(one e).2;cases this
section
variable{F:Nat→Prop} {H:AH}
theorem uD {sz:Nat} {rows:List (List PV)} {x:Value} (h:RF F H (.fs sz rows) x):∃rs,Rows H sz x rs∧eK F H rows rs∧∃a c,x= .slice a rows.length c:=by
 cases h with|fs d e f b=>exact ⟨_,d,b,_,_,rfl⟩
theorem uE {l:List Int} {x:Value} (h:RF F H (dA l) x):Rows H 1 x (dk l):=by
 obtain ⟨rs,d,e,_⟩:=uD h
 have:∀{l:List Int} {rs:List (List Value)},eK F H (ir l) rs→rs=l.map fun n=>[.int .i64 n]:=by
  intro l
  induction l with
  |nil=>intro rs h;cases h;rfl
  |cons a l ih=>
   intro rs h;simp only [ir,List.map_cons]at h
   cases h with|cons a b=>
   cases a with|cons a c=>
   cases a;cases c;rw [ih b];rfl
 rw [this e]at d;exact d
end
theorem LN {C:Cx} {sz:Nat} {rows:List (List PV)} {x:Value} (h:RV C (.fs sz rows) x):RF C.F C.H (.fs sz rows) x:=by cases h;assumption
theorem kQ (l:List Int):(dk l).flatten.map PV.v=l.map pi:=by
 induction l with
 |nil=>rfl
 |cons a l ih=>simp_all [dk]
theorem r7 {l:List Int} (g:l.length≤2^40):Fo E O 33 [dA l] 1 l.length (l.map pi):=by
 have:=Fo.rN (f:=33) (args:=[dA l]) (rows:=dk l) Nat.one_pos (fun F H d e w c=>by
  cases c with|cons a b=>
  cases b
  exact pq (sz:=1) (bytes:=8) rfl rfl w (rows:=dk l) (uE (LN a)) (by simp [dk];omega) (by simp [dk];omega))
 rw [kQ]at this
 simpa [dk]using this
end P
namespace P
open Go Go.RowKit
@[simp]theorem Du (l:List Int):bM (l.map pi)=true:=by rw [eA];simp
def gd (P:Nat→Bool) (n:Nat):List PV:=(List.range n).map fun q=>pb (P q)
@[simp]theorem Dv (P:Nat→Bool) (n:Nat):(gd P n).length=n:=by simp [gd]
theorem cn (P:Nat→Bool) {n q:Nat} (h:q<n):(gd P n)[q]?=some (pb (P q)):=by simp [gd,h]
theorem oE {P:Nat→Bool} {S n:Nat} {x:Int} {q:Nat} (b:x.toNat=q) (c:∀j,P j=S.testBit j):(gd P n).set q (pb true)=gd (dZ S x).testBit n:=by
 apply List.ext_getElem?;intro j;by_cases a:j<n
 ·rw [cn _ a,bl,b]
  by_cases e:q=j
  ·subst e
   rw [Nl (by simpa using a)];simp
  ·rw [M7 e,cn _ a,c]
   simp [e]
 ·rw [Np (by simp;omega),Np (by simp;omega)]
theorem r8 (P:Nat→Bool):∀n,c8 (gd P n)=true:=by
 intro n
 have:∀l:List Nat,c8 (l.map fun q=>pb (P q))=true:=by
  intro l
  induction l with
  |nil=>rfl
  |cons a l ih=>simp [c8,gX,ih]
 exact this _
@[simp]theorem Dw (P:Nat→Bool) (n:Nat):bM (gd P n)=true:=by rw [eA];simp [gd]
theorem r9 (n:Nat):List.replicate n (pb false)=gd (0:Nat).testBit n:=by
 apply List.ext_getElem?;intro j;by_cases a:j<n
 ·rw [cn _ a,List.getElem?_replicate,if_pos a,Nat.zero_testBit]
 ·rw [Np (by simp;omega),Np (by simp;omega)]
def MI (l:List Int) (n i:Nat) (fr:PF) (h:PH):Prop:=h=[.cells 1 (gd (mg dZ 0 l i).testBit n)]∧fr.get 5= .sl 1 0 0 n n∧fr.get 10=dA l∧fr.get 11=pi l.length∧fr.get 12=pi i
theorem uF {l:List Int} {n:Nat} (r:l.length<2^60) (p:n≤2^40) (g:∀x∈l,0≤x∧x<n):Fo E O 37 [dA l,pi n] 1 n (gd (da l).testBit n):=by
 refine Fo.body (F:=BU) rfl rfl rfl (by simp) (by simp) ?_;have f:IntKind.i64.wrap (n:Int)=n:=au ⟨by omega,by omega⟩;simp (maxSteps:=9^7)-implicitDefEqProofs [-getElem?_pos,MF,BU,f];refine ⟨by omega,?_⟩;refine ba (MI l n) l.length ⟨by rw [oA,←r9],by simp,by simp,by simp,by simp⟩ ?_;rintro i s h hi ⟨rfl,b,f10,f11,f12⟩;by_cases h:i<l.length
 ·obtain ⟨x,a⟩:∃x,l[i]?=some x:=⟨_,MG h⟩
  obtain ⟨d,o⟩:=g x (MN a);obtain ⟨q,rfl⟩:=Int.eq_ofNat_of_zero_le d;have c:q<n:=by omega
  have e:IntKind.i64.wrap ((i:Int)+1)=((i+1:Nat):Int):=au ⟨by omega,by omega⟩;have m:=cm (x:=pb true) (l:=gd (mg dZ 0 l i).testBit n) (k:=q) (by simpa using c);simp (maxSteps:=9^7)-implicitDefEqProofs [-getElem?_pos,MF,b,f10,f11,f12,h,aV,a,c,m,e];refine ⟨by omega,by omega,.for h ⟨?_,by simp [b],by simp [f10],by simp [f11],by simp⟩⟩;rw [lS a,oE (x:=(q:Int)) (by simp) (fun j=>rfl)]
 ·obtain rfl:i=l.length:=by omega
  simp (maxSteps:=9^7)-implicitDefEqProofs [-getElem?_pos,MF,b,f10,f11,f12,jU,da]
def un (S:Nat):Nat→Nat
 |0=>0
 |n+1=>un S n+if S.testBit n=true then 0 else 1
theorem sa (S:Nat):∀n,un S n≤n
 |0=>MM _
 |n+1=>by rw [un];have:=sa S n;split<;>omega
theorem Bm {S n:Nat} {x:Int} (h:n≤x.toNat):un (dZ S x) n=un S n:=by
 induction n with
 |zero=>rfl
 |succ n ih=>
  rw [un,un,ih (by omega),bl,show decide (x.toNat=n)=false from decide_eq_false (by omega),Bool.or_false]
theorem sb {S:Nat} {x:Int} (h:S.testBit x.toNat=false):∀{n:Nat},x.toNat<n→un (dZ S x) n+1=un S n
 |0,k=>by omega
 |n+1,k=>by
  by_cases e:x.toNat=n
  ·rw [un,un,Bm (by omega),←e,bl,h]
   simp
  ·rw [un,un,bl,show decide (x.toNat=n)=false from decide_eq_false e,Bool.or_false]
   have:=sb (n:=n) h (by omega);omega
inductive uG (to:List (List Int)) (fr:List Int):Nat→Prop
 |base {x:Int}:x∈fr→uG to fr x.toNat
 |step {q:Nat} {c:List Int} {y:Int}:uG to fr q→to[q]?=some c→y∈c→uG to fr y.toNat
open Classical in
noncomputable def dL (to:List (List Int)) (fr:List Int) (q:Nat):Bool:=decide (uG to fr q)
theorem lV {to:List (List Int)} {a:List Int} {q:Nat}:dL to a q=true↔uG to a q:=by simp [dL]
structure RQ (to:List (List Int)) (fr:List Int) (n:Nat) (S:Nat) (Q:List Int):Prop where
 ok:∀x∈Q,(0≤x∧x<n)∧uG to fr x.toNat∧S.testBit x.toNat=true
 on:∀q,S.testBit q=true→∃x∈Q,x.toNat=q
 st:∀x∈fr,S.testBit x.toNat=true
 len:Q.length+un S n≤fr.length+n
theorem RQ.add {to:List (List Int)} {f:List Int} {n S:Nat} {Q:List Int} (h:RQ to f n S Q) {y:Int} (g:0≤y∧y<n) (i:uG to f y.toNat) (j:S.testBit y.toNat=false):RQ to f n (dZ S y) (Q++[y])where
 ok:=fun x d=>by
  rcases M3.1 d with q|q
  ·obtain ⟨a,b,c⟩:=h.ok x q
   exact ⟨a,b,by rw [bl,c];rfl⟩
  ·simp at q;subst q
   exact ⟨g,i,by rw [bl];simp⟩
 on:=fun q e=>by
  rw [bl]at e;simp only [Bool.or_eq_true,MU]at e;rcases e with k|k
  ·obtain ⟨x,l,h2⟩:=h.on q k
   exact ⟨x,by simp [l],h2⟩
  ·exact ⟨y,by simp,k⟩
 st:=fun x d=>by rw [bl,h.st x d];rfl
 len:=by
  have:=sb j (n:=n) (by omega);have:=h.len;simp;omega
def Dn (to:List (List Int)) (S:Nat) (Q:List Int) (i:Nat):Prop:=∀j x c y,j<i→Q[j]?=some x→to[x.toNat]?=some c→y∈c→S.testBit y.toNat=true
theorem RQ.fin {to:List (List Int)} {c:List Int} {n S:Nat} {Q:List Int} (h:RQ to c n S Q) (d:Dn to S Q Q.length) (q:Nat):S.testBit q=dL to c q:=by
 rw [Ng,lV];refine ⟨fun k=>?_,fun k=>?_⟩
 ·obtain ⟨x,a,rfl⟩:=h.on q k
  exact (h.ok x a).2.1
 ·induction k with
  |base a=>exact h.st _ a
  |step _ g f ih=>
   obtain ⟨x,a,e⟩:=h.on _ ih;obtain ⟨j,b⟩:=List.getElem?_of_mem a;exact d j x _ _ (MO.1 b).1 b (by rw [e];exact g) f
end P
namespace P
open Go Go.RowKit
theorem Dn.mono {to:List (List Int)} {S S':Nat} {Q b:List Int} {i:Nat} (h:Dn to S Q i) (g:∀q,S.testBit q=true→S'.testBit q=true) (k:∀j,j<i→b[j]?=Q[j]?):Dn to S' b i:=
 fun j x c y a e f d=>g _ (h j x c y a (by rw [←k j a];exact e) f d)
def QH (S n:Nat) (Q:List Int):PH:=[.cells 1 (gd S.testBit n),.cells 1 (Q.map pi)]
def OI (to:List (List Int)) (from_:List Int) (n i:Nat) (fr:PF) (h:PH):Prop:=∃S Q,h=QH S n Q∧RQ to from_ n S Q∧Dn to S Q i∧i≤Q.length∧fr.get 0=jW to∧fr.get 5= .sl 1 0 0 n n∧fr.get 6= .sl 1 1 0 Q.length Q.length∧fr.get 7=pi i
def II (to:List (List Int)) (from_:List Int) (n i:Nat) (x:Int) (c:List Int) (j:Nat) (fr:PF) (h:PH):Prop:=∃S Q,h=QH S n Q∧RQ to from_ n S Q∧Dn to S Q i∧Q[i]?=some x∧(∀jj y,jj<j→c[jj]?=some y→S.testBit y.toNat=true)∧fr.get 0=jW to∧fr.get 5= .sl 1 0 0 n n∧fr.get 6= .sl 1 1 0 Q.length Q.length∧fr.get 7=pi i∧fr.get 28=dA c∧fr.get 29=pi c.length∧fr.get 30=pi j
theorem oF (to:List (List Int)) (q:Nat):(to.map fun c=>[dA c])[q]?=(to[q]?).map fun c=>[dA c]:=by simp
theorem oG {to:List (List Int)} {from_:List Int} {n:Nat} (hn:n≤2^30) (N:to.length=n) (jI:from_.length≤2^30) (W:∀x∈from_,0≤x∧x<n) (Gu:∀(q:Nat) (c:List Int),to[q]?=some c→c.length≤2^40∧∀y∈c,0≤y∧y<n):Fo E O 70 [jW to,dA from_] 1 n (gd (dL to from_) n):=by
 refine Fo.body (F:=B4) rfl rfl rfl (by simp) (by simp) ?_;simp (maxSteps:=9^7)-implicitDefEqProofs [-getElem?_pos,MF,B4,jW,N];refine oe (uF (n:=n) (by omega) (by omega) W) ?_ ?_ ?_
 iterate 2· simp (maxDischargeDepth:=8)-implicitDefEqProofs [-getElem?_pos,MF]
 simp (maxSteps:=9^7)-implicitDefEqProofs [-getElem?_pos,MF,jW];refine oe (r7 (l:=from_) (by omega)) ?_ ?_ ?_
 iterate 2· simp (maxDischargeDepth:=8)-implicitDefEqProofs [-getElem?_pos,MF]
 simp (maxSteps:=9^7)-implicitDefEqProofs [-getElem?_pos,MF,jW];refine ba (OI to from_ n) (from_.length+n) ⟨da from_,from_,rfl,⟨fun x d=>⟨W x d,.base d,(cl _ _).2 ⟨x,d,rfl⟩⟩,fun q u=>(cl _ _).1 u,fun x d=>(cl _ _).2 ⟨x,d,rfl⟩,by have:=sa (da from_) n;omega⟩,fun j _ _ _ V=>by omega,by omega,by simp [jW],by simp,by simp,by simp⟩ ?_;rintro i fr h hi ⟨S,Q,rfl,R,D,G,m,g,f,o⟩;have Y:=R.len;by_cases h:i<Q.length
 ·obtain ⟨x,d⟩:∃x,Q[i]?=some x:=⟨_,MG h⟩
  have M:=MN d;obtain ⟨⟨x0,x1⟩,P,hs⟩:=R.ok x M;obtain ⟨q,rfl⟩:=Int.eq_ofNat_of_zero_le x0;rw [Int.toNat_natCast]at P;have u:q<n:=by omega
  obtain ⟨c,A⟩:∃c,to[q]?=some c:=⟨_,MG (by omega)⟩
  obtain ⟨g8,LO⟩:=Gu q c A;have w4:IntKind.i64.wrap ((i:Int)+1)=((i+1:Nat):Int):=au ⟨by omega,by omega⟩;have Mx:q<to.length:=by omega
  simp (maxSteps:=9^7)-implicitDefEqProofs [-getElem?_pos,MF,m,g,f,o,h,QH,d,jW,N,u,oF,A];refine ⟨by omega,?_⟩;refine ba (II to from_ n i q c) c.length ⟨S,Q,rfl,R,D,d,fun p y V=>by omega,by simp [m],by simp [g],by simp [f],by simp [o],by simp,by simp,by simp⟩ ?_;clear m g f o R D d M Y h hs G;rintro j fr h V ⟨S,Q,rfl,R,D,d,C,m,g,f,o,f28,f29,f30⟩;have Y:=R.len;have G:=(MO.1 d).1;by_cases h2:j<c.length
  ·obtain ⟨y,t⟩:∃y,c[j]?=some y:=⟨_,MG h2⟩
   have K:=MN t;obtain ⟨I,Z⟩:=LO y K;obtain ⟨r,rfl⟩:=Int.eq_ofNat_of_zero_le I;have w:r<n:=by omega
   have J:IntKind.i64.wrap ((j:Int)+1)=((j+1:Nat):Int):=au ⟨by omega,by omega⟩;have z:=cn S.testBit w
   cases v:S.testBit r with
   |true=>
    rw [v]at z;simp (maxSteps:=9^7)-implicitDefEqProofs [-getElem?_pos,MF,m,g,f,o,f28,f29,f30,h2,aV,t,w,z,QH,J];refine ⟨by omega,.for h2 ⟨S,Q,rfl,R,D,d,fun p y Ep s=>?_,by simp [m],by simp [g],by simp [f],by simp [o],by simp [f28],by simp [f29],by simp⟩⟩;by_cases e:p=j
    ·subst e
     rw [t]at s;cases s;exact v
    ·exact C p y (by omega) s
   |false=>
    rw [v]at z;have T:=cm (x:=pb true) (l:=gd S.testBit n) (k:=r) (by simpa using w);rw [oE (x:=(r:Int)) (by simp) (fun j=>rfl)]at T;simp (maxSteps:=9^7)-implicitDefEqProofs [-getElem?_pos,MF,m,g,f,o,f28,f29,f30,h2,aV,t,w,z,QH,T];refine ⟨by omega,⟨by omega,by omega⟩,?_⟩;apply kE
    iterate 9· first|rfl|omega|(simp-implicitDefEqProofs [-getElem?_pos,MF];first|done|rfl|omega)
    simp (maxSteps:=9^7)-implicitDefEqProofs [-getElem?_pos,MF,m,g,f,o,f28,f29,f30,J];have X:∀q,S.testBit q=true→(dZ S r).testBit q=true:=fun q u=>by rw [bl,u];rfl
    refine .xQ h2 (kK (h2:=QH (dZ S r) n (Q++[(r:Int)])) [0,1] [(0,jW to),(5,.sl 1 0 0 n n),(6,.sl 1 1 0 (Q.length+1) (Q.length+1)),(7,pi i),(28,dA c),(29,pi c.length),(30,pi (j+1:Nat))] ?_ ?_ ?_ ?_ ?_ ?_) ⟨dZ S r,Q++[(r:Int)],rfl,R.add ⟨I,Z⟩ (by have:=uG.step P A K;exact this) (by simpa using v),D.mono X (fun a ha=>MV (by omega)),by rw [MV G];exact d,fun p y Ep s=>?_,by simp,by simp,by simp,by simp,by simp,by simp,by simp⟩
    ·simp [QH,jW,m,g,f,o,f28,f29,f30]
    iterate 2· simp
    ·intro b v;omega
    iterate 2· simp (maxDischargeDepth:=8)-implicitDefEqProofs [eB,MF,QH,jW,m,g,f,o,f28,f29,f30]
    by_cases e:p=j
    ·subst e
     rw [t]at s;cases s;rw [bl];simp
    ·exact X _ (C p y (by omega) s)
  ·obtain rfl:j=c.length:=by omega
   simp (maxSteps:=9^7)-implicitDefEqProofs [-getElem?_pos,MF,m,g,f,o,f28,f29,f30,w4];refine .for (by omega) ⟨S,Q,rfl,R,fun a x c' y ha B H L=>?_,by omega,by simp [m],by simp [g],by simp [f],by simp⟩;by_cases e:a=i
   ·subst e
    rw [d]at B;cases B;rw [Int.toNat_natCast,A]at H;cases H;obtain ⟨p,U⟩:=List.getElem?_of_mem L;exact C p y (MO.1 U).1 U
   ·exact D a x c' y (by omega) B H L
 ·obtain rfl:i=Q.length:=by omega
  have e:gd S.testBit n=gd (dL to from_) n:=by
   congr 1;funext q;exact R.fin D q
  simp (maxSteps:=9^7)-implicitDefEqProofs [-getElem?_pos,MF,m,g,f,o,QH,e]
open Go Go.RowKit
def mh (s:Sy):List (Int×Int):=s.nx.map fun x=>(x.2,x.1)
def jl (s:Sy):List (List Int):=jE s.nx s.n.toNat
def eC (s:Sy):List (List Int):=jE (mh s) s.n.toNat
noncomputable def cB (s:Sy) (q:Nat):Bool:=dL (jl s) s.st q&&dL (eC s) s.en q
def UI (s:Sy) (i:Nat) (fr:PF) (h:PH):Prop:=∃pos,NL h 1 [0] pos (b6 (mh s) s.n.toNat i)∧h[0]?=some (.cells 6 (ah s))∧fr.get 1= .ref 0 0 6∧fr.get 3=jW (jl s)∧fr.get 4= .sl 1 1 0 s.n.toNat s.n.toNat∧fr.get 16=cC s.nx∧fr.get 17=pi s.nx.length∧fr.get 18=pi i
theorem oH:∀(l:List (Int×Int)) (out:List (List Int)) (k:Nat) (c:List Int) (y:Int),(l.foldl gb out)[k]?=some c→(y∈c↔(∃c0,out[k]?=some c0∧y∈c0)∨∃x∈l,x.1.toNat=k∧x.2=y)
 |[],out,k,c,y,h=>by
  rw [List.foldl_nil]at h;rw [h];simp
 |x::l,out,k,c,y,h=>by
  rw [List.foldl_cons]at h;rw [oH l _ k c y h]
  have a:k<out.length:=by
   have:=(MO.1 h).1;rw [bN,lU]at this;exact this
  obtain ⟨c0,b⟩:∃c0,out[k]?=some c0:=⟨_,MG a⟩
  simp only [M0,exists_eq_or_imp];by_cases e:x.1.toNat=k
  ·have:(gb out x)[k]?=some (c0++[x.2]):=by
    rw [gb,e,Nl a,List.getD_eq_getElem?_getD,b];rfl
   rw [this,b];simp only [MH,exists_eq_left',M3,List.mem_singleton,e,true_and];exact ⟨fun h=>h.elim (fun h=>h.elim .inl fun h=>.inr (.inl h.symm)) fun h=>.inr (.inr h),fun h=>h.elim (fun h=>.inl (.inl h)) fun h=>h.elim (fun h=>.inl (.inr h.symm)) .inr⟩
  ·have:(gb out x)[k]?=out[k]?:=by rw [gb,M7 e]
   rw [this];simp [e]
theorem dU {l:List (Int×Int)} {n k:Nat} {c:List Int} {y:Int} (h:(jE l n)[k]?=some c):y∈c↔∃x∈l,x.1.toNat=k∧x.2=y:=by
 rw [oH l _ k c y h];refine ⟨fun h=>h.elim (fun⟨b,a,h2⟩=>?_) id,.inr⟩;simp only [List.getElem?_replicate]at a;split at a
 ·cases a;simp at h2
 ·cases a
theorem sd {s:Sy} (ok:pE s) (J:ox s) (X:∀x∈s.nx,(0≤x.1∧x.1<s.n)∧0≤x.2∧x.2<s.n) (hS:∀x∈s.st,0≤x∧x<s.n) (hF:∀x∈s.en,0≤x∧x<s.n) (lF:s.st.length≤2^30) (Ax:s.en.length≤2^30):Fo E O 49 [.agg (ah s)] 1 s.n.toNat (gd (cB s) s.n.toNat):=by
 refine Fo.body (F:=BX) rfl rfl rfl (by simp) (by simp) ?_;have y6:=J.n;have hw:IntKind.i64.wrap s.n=s.n:=au ⟨by omega,by omega⟩;have hb:((24:Nat):Int)*s.n≤2^47:=by omega
 have Gw:(mh s).length=s.nx.length:=by simp [mh]
 have so:=J.nl;simp (maxSteps:=9^7)-implicitDefEqProofs [-getElem?_pos,MF,BX,ah,cC,hw];refine ⟨⟨by omega,by omega⟩,?_⟩;refine aK (rZ ok J X) ?_ ?_ ?_
 iterate 2· simp (maxDischargeDepth:=8)-implicitDefEqProofs [-getElem?_pos,MF,ah,cC]
 simp (maxSteps:=9^7)-implicitDefEqProofs [-getElem?_pos,MF,ah,cC]
 refine ⟨by
  obtain ⟨m,hm⟩:∃m,s.n.toNat=m+1:=⟨s.n.toNat- 1,by omega⟩
  rw [hm,List.replicate_succ]
  simp,?_⟩
 refine ba (UI s) s.nx.length ⟨fun _=>0,by rw [show b6 (mh s) s.n.toNat 0=List.replicate s.n.toNat [] from rfl];exact NL.zero rfl,by simp [ah,cC],by simp,by simp [jl],by simp,by simp [cC],by simp,by simp⟩ ?_;rintro i K h hi ⟨pos,L,Y,H,G,D,f16,f17,f18⟩;have W:=(MO.1 L.top).1;by_cases d:i<s.nx.length
 ·obtain ⟨⟨f,x2⟩,t⟩:∃x,s.nx[i]?=some x:=⟨_,MG d⟩
  obtain ⟨⟨x0,uy⟩,y0,M⟩:=X _ (MN t);have V:(mh s)[i]?=some (x2,f):=by simp [mh,t]
  obtain ⟨q,rfl⟩:=Int.eq_ofNat_of_zero_le y0;dsimp only at uy M;have z:q<s.n.toNat:=by omega
  obtain ⟨c,r⟩:∃c,(b6 (mh s) s.n.toNat i)[q]?=some c:=⟨_,MG (by simpa using z)⟩
  have N:IntKind.i64.wrap ((i:Int)+1)=((i+1:Nat):Int):=au ⟨by have:=J.nl;omega,by have:=J.nl;omega⟩;have R:=dj pos (b6 (mh s) s.n.toNat i) q;rw [r,Option.map_some]at R;have top:=L.top;have T1:(h++[PB.cells 2 [pi f,pi q]])[1]?=some (.cells 1 (kW pos (b6 (mh s) s.n.toNat i))):=by rw [MV W];exact top
  by_cases Q:c=[]
  ·subst Q
   rw [show sD (pos q) []=ph from rfl]at R;simp (maxSteps:=9^7)-implicitDefEqProofs [-getElem?_pos,MF,H,G,D,f16,f17,f18,d,cC,aO,t,z,T1,R,M,List.getElem?_concat_length];refine ⟨⟨by omega,by omega⟩,?_⟩;have w:∀(A B:PB) (l:PH),(h++A::B::l)[h.length]?=some A:=fun A B l=>by rw [MZ (MM _),Nat.sub_self];rfl
   have C:∀(A B:PB) (l:PH),(h++A::B::l)[h.length+1]?=some B:=fun A B l=>by rw [MZ (by omega),Nat.add_sub_cancel_left];rfl
   rw [lJ (new:=[pi f]) (by decide) rfl (by simp [cA,C]) (by decide) (by decide) (by decide)]
   obtain ⟨P,hP⟩:∃P,(h++[PB.cells 2 [pi f,pi q],PB.cells 1 [pi f]]).length=P:=⟨_,rfl⟩
   obtain ⟨g,v⟩:∃g,h++[PB.cells 2 [pi f,pi q],PB.cells 1 [pi f]]++[PB.cells 1 [pi f]]=g:=⟨_,rfl⟩
   have LM:P=h.length+2:=by rw [←hP];simp
   have I:∀a,a<h.length→g[a]?=h[a]?:=fun a o=>by rw [←v,M8,MV o]
   have yl:g[1]?=some (.cells 1 (kW pos (b6 (mh s) s.n.toNat i))):=by rw [I 1 W];exact top
   have ym:g[h.length]?=some (.cells 2 [pi f,pi q]):=by rw [←v,M8];exact w _ _ _
   have yn:g[P]?=some (.cells 1 [pi f]):=by rw [←v,←hP,MZ (MM _),Nat.sub_self];rfl
   have Gr:g.length=h.length+3:=by rw [←v];simp
   have u:=cm (x:=PV.sl 1 P 0 1 1) (l:=kW pos (b6 (mh s) s.n.toNat i)) (k:=q) (by simpa using z);rw [hP,v];simp (maxSteps:=9^7)-implicitDefEqProofs [-getElem?_pos,MF,H,G,D,f16,f17,f18,yl,ym,u,z,M,w,List.getElem?_concat_length,N];refine ⟨⟨by omega,by omega⟩,⟨by omega,by omega⟩,.for d ⟨fun j=>if j=q then P else pos j,?_,?_,by simp [H],by simp [G],by simp [D],by simp [f16],by simp [f17],by simp⟩⟩
   ·rw [kP V r]
    refine L.vH r (fun a o=>by simp at o;omega) (fun a o d=>?_) ?_ ?_ (by omega:h.length≤P)
    ·rw [M7 (Ne.symm d)];exact I a o
    ·rw [Nl (by omega)]
    ·rw [M7 (by omega)];exact yn
   ·rw [M7 (by omega),I 0 (by omega)];exact Y
  ·rw [sD,if_neg Q]at R
   obtain ⟨a1,a2,a3⟩:=L.off q c r Q;simp (maxSteps:=9^7)-implicitDefEqProofs [-getElem?_pos,MF,H,G,D,f16,f17,f18,d,cC,aO,t,z,T1,R,M,List.getElem?_concat_length];refine ⟨⟨by omega,by omega⟩,?_⟩;have w:∀(A B:PB) (l:PH),(h++A::B::l)[h.length]?=some A:=fun A B l=>by rw [MZ (MM _),Nat.sub_self];rfl
   have C:∀(A B:PB) (l:PH),(h++A::B::l)[h.length+1]?=some B:=fun A B l=>by rw [MZ (by omega),Nat.add_sub_cancel_left];rfl
   have zn:=L.lt r Q;have g8:=oD _ _ _ _ _ r;have so:=J.nl;have Gs:pos q≠0:=fun q0=>a2 (by simp [q0])
   refine kE (cs:=c.map pi) (new:=[pi f]) (by rw [MV zn];exact a3) rfl (by simp [cA,C]) (by simp) (by decide) rfl (by simp [cW,C]) (by omega) (by omega) ?_
   obtain ⟨g,v⟩:∃g,(h++[PB.cells 2 [pi f,pi q],PB.cells 1 [pi f]]).set (pos q) (.cells 1 (c.map pi++[pi f]))=g:=⟨_,rfl⟩
   have Gr:g.length=h.length+2:=by rw [←v];simp
   have I:∀a,a<h.length→a≠pos q→g[a]?=h[a]?:=fun a o dB=>by rw [←v,M7 (Ne.symm dB),MV o]
   have yl:g[1]?=some (.cells 1 (kW pos (b6 (mh s) s.n.toNat i))):=by rw [I 1 W (Ne.symm a1)];exact top
   have ym:g[h.length]?=some (.cells 2 [pi f,pi q]):=by rw [←v,M7 (by omega)];exact w _ _ _
   have yn:g[pos q]?=some (.cells 1 (c.map pi++[pi f])):=by rw [←v,Nl (by simp;omega)]
   have u:=cm (x:=PV.sl 1 (pos q) 0 (c.length+1) (c.length+1)) (l:=kW pos (b6 (mh s) s.n.toNat i)) (k:=q) (by simpa using z);rw [v];simp (maxSteps:=9^7)-implicitDefEqProofs [-getElem?_pos,MF,H,G,D,f16,f17,f18,yl,ym,u,z,M,w,List.getElem?_concat_length,N];refine ⟨⟨by omega,by omega⟩,⟨by omega,by omega⟩,by omega,.for d ⟨pos,?_,?_,by simp [H],by simp [G],by simp [D],by simp [f16],by simp [f17],by simp⟩⟩
   ·rw [kP V r]
    refine L.vI r Q (fun a o d h2=>?_) ?_ ?_
    ·rw [M7 (Ne.symm d)];exact I a o h2
    ·rw [Nl (by omega)]
    ·rw [M7 (Ne.symm a1),yn]
     simp
   ·rw [M7 (by omega),I 0 (by omega) (Ne.symm Gs)];exact Y
 ·obtain rfl:i=s.nx.length:=by omega
  have Gu:∀(q:Nat) (c:List Int),(jl s)[q]?=some c→c.length≤2^40∧∀y∈c,0≤y∧y<(s.n.toNat:Int):=fun q c r=>⟨by have:=jk _ _ q c r;omega,fun y Z=>by
   obtain ⟨x,t,_,rfl⟩:=(dU r).1 Z;have:=X x t
   omega⟩
  have LP:∀(q:Nat) (c:List Int),(eC s)[q]?=some c→c.length≤2^40∧∀y∈c,0≤y∧y<(s.n.toNat:Int):=fun q c r=>⟨by have:=jk _ _ q c r;omega,fun y Z=>by
   obtain ⟨x,t,_,rfl⟩:=(dU r).1 Z;obtain ⟨x',V,rfl⟩:=Nh.1 t;have:=X x' V;dsimp only
   omega⟩
  have LQ:=oG (to:=jl s) (from_:=s.st) (n:=s.n.toNat) (by omega) (by simp [jl]) lF (fun x t=>by have:=hS x t;omega) Gu;have om:=oG (to:=eC s) (from_:=s.en) (n:=s.n.toNat) (by omega) (by simp [eC]) Ax (fun x t=>by have:=hF x t;omega) LP
  have L2:=L.iA (g:=h++[PB.cells 1 (gd (dL (jl s) s.st) s.n.toNat)]) (fun a o=>by
   rcases o with rfl|⟨k,c,e1,e2,rfl⟩
   ·rw [MV W]
   ·rw [MV (L.lt e1 e2)])
  have Gx:=L2.vz (A:=kC) (fun x=>trivial);rw [show b6 (mh s) s.n.toNat s.nx.length=eC s from by rw [b6,←Gw,jU];rfl]at Gx;rw [show(eC s).length=s.n.toNat by simp [eC]]at Gx;simp (maxSteps:=9^7)-implicitDefEqProofs [-getElem?_pos,MF,H,G,D,f16,f17,f18,Y,ah];refine oe (LQ) ?_ ?_ ?_
  iterate 2· simp (maxDischargeDepth:=8)-implicitDefEqProofs [-getElem?_pos,MF]
  simp (maxSteps:=9^7)-implicitDefEqProofs [-getElem?_pos,MF];refine x5 om ?_ (r8 _ _) ?_
  ·simp
   exact rB Gx
  have w:∀(A B:PB),(h++[A,B])[h.length]?=some A:=fun A B=>by rw [MZ (MM _),Nat.sub_self];rfl
  have C:∀(A B:PB),(h++[A,B])[h.length+1]?=some B:=fun A B=>by rw [MZ (by omega),Nat.add_sub_cancel_left];rfl
  have wj:max s.n 0=s.n:=by omega
  have LR:h[0]?=some (.cells 6 [pi s.n,pi s.p,dA s.fb,dA s.st,dA s.en,cC s.nx]):=Y;simp (maxSteps:=9^7)-implicitDefEqProofs [-getElem?_pos,MF,w,C,List.getElem?_concat_length,LR,wj];refine ba (fun i K h'=>h'=h++[.cells 1 (gd (fun q=>if q<i then cB s q else dL (jl s) s.st q) s.n.toNat),.cells 1 (gd (dL (eC s) s.en) s.n.toNat)]∧K.get 7= .sl 1 h.length 0 s.n.toNat s.n.toNat∧K.get 8= .sl 1 (h.length+1) 0 s.n.toNat s.n.toNat∧K.get 45=pi s.n∧K.get 46=pi i) s.n.toNat ⟨by simp,by simp,by simp,by simp,by simp⟩ ?_;clear H G D f16 f17 f18;rintro i K h' hi ⟨rfl,U,T,f45,f46⟩;by_cases d:i<s.n.toNat
  ·have h2:(i:Int)<s.n:=by omega
   have N:IntKind.i64.wrap ((i:Int)+1)=((i+1:Nat):Int):=au ⟨by omega,by omega⟩;have S:=cn (fun q=>if q<i then cB s q else dL (jl s) s.st q) d;have g2:=cn (dL (eC s) s.en) d;simp only [Nat.lt_irrefl,if_false]at S;have u:=fun b=>cm (x:=pb b) (l:=gd (fun q=>if q<i then cB s q else dL (jl s) s.st q) s.n.toNat) (k:=i) (by simpa using d)
   have Bo:∀b,b=cB s i→(gd (fun q=>if q<i then cB s q else dL (jl s) s.st q) s.n.toNat).set i (pb b)=gd (fun q=>if q<i+1 then cB s q else dL (jl s) s.st q) s.n.toNat:=fun b hb=>by
    apply List.ext_getElem?;intro j;by_cases hj:j<s.n.toNat
    ·rw [cn _ hj]
     by_cases e:i=j
     ·subst e
      rw [Nl (by simpa using hj),hb,if_pos (by omega)]
     ·rw [M7 e,cn _ hj]
      by_cases h4:j<i
      ·rw [if_pos h4,if_pos (by omega)]
      ·rw [if_neg h4,if_neg (by omega)]
    ·rw [Np (by simp;omega),Np (by simp;omega)]
   have Jb:∀(A A' B:PB),(h++[A,B]).set h.length A'=h++[A',B]:=fun A A' B=>by rw [List.set_append_right _ _ (MM _),Nat.sub_self];rfl
   cases o:dL (jl s) s.st i with
   |true=>
    rw [o]at S;have hu:=Bo (dL (eC s) s.en i) (by rw [cB,o];rfl);have u:=u (dL (eC s) s.en i);rw [hu]at u;simp (maxSteps:=9^7)-implicitDefEqProofs [-getElem?_pos,MF,U,T,f45,f46,h2,d,w,C,S,g2,u,Jb,N];exact ⟨⟨by omega,by omega⟩,⟨by omega,by omega⟩,.for d ⟨rfl,by simp [U],by simp [T],by simp [f45],by simp⟩⟩
   |false=>
    rw [o]at S;have hu:=Bo false (by rw [cB,o];rfl);have u:=u false;rw [hu]at u;simp (maxSteps:=9^7)-implicitDefEqProofs [-getElem?_pos,MF,U,T,f45,f46,h2,d,w,C,S,g2,u,Jb,N];exact ⟨⟨by omega,by omega⟩,⟨by omega,by omega⟩,.for d ⟨rfl,by simp [U],by simp [T],by simp [f45],by simp⟩⟩
  ·have h2:¬ (i:Int)<s.n:=by omega
   have e:i=s.n.toNat:=by omega
   have Gy:gd (fun q=>if q<i then cB s q else dL (jl s) s.st q) s.n.toNat=gd (cB s) s.n.toNat:=by
    unfold gd;apply List.map_congr_left;intro q z;dsimp only;rw [if_pos (by have:=List.mem_range.1 z;omega)]
   rw [Gy];simp (maxSteps:=9^7)-implicitDefEqProofs [-getElem?_pos,MF,U,T,f45,f46,h2,w,C]
end P
namespace P
open Go Go.RowKit
def pG (P:Int→Bool):List Int→Nat
 |[]=>0
 |x::l=>pG P l+if P x=true then 1 else 0
theorem kR (P:Int→Bool):∀l,pG P l≤l.length
 |[]=>MM _
 |x::l=>by rw [pG,List.length_cons];have:=kR P l;split<;>omega
theorem iu (P:Int→Bool):∀{l:List Int} {k:Nat} {a v:Int},l[k]?=some a→pG P (l.set k v)+(if P a=true then 1 else 0)=pG P l+(if P v=true then 1 else 0)
 |[],k,a,v,h=>by simp at h
 |x::l,0,a,v,h=>by
  simp at h;subst h;simp only [List.set_cons_zero,pG];omega
 |x::l,k+1,a,v,h=>by
  have:=iu P (l:=l) (k:=k) (a:=a) (v:=v) (by simpa using h);simp only [List.set_cons_succ,pG];omega
theorem jm (P:Int→Bool):∀{l m:List Int},l.length=m.length→(∀(k:Nat) (a b:Int),l[k]?=some a→m[k]?=some b→P a=true→P b=true)→pG P l≤pG P m
 |[],m,_,_=>Nb _
 |x::l,[],h,_=>by simp at h
 |x::l,y::m,h,k=>by
  have f:=jm P (l:=l) (m:=m) (by simpa using h) (fun i a b d c=>k (i+1) a b (by simpa using d) (by simpa using c));have h2:=k 0 x y rfl rfl;simp only [pG];by_cases e:P x=true
  ·rw [if_pos e,if_pos (h2 e)];omega
  ·rw [if_neg e];omega
def zr (l:List Int):Nat:=pG (fun x=>decide (x=0)) l
def bk (l:List Int):Nat:=pG (fun x=>decide (0<x)) l
def Ed (s:Sy) (q r:Nat):Prop:=∃c y,(jl s)[q]?=some c∧y∈c∧y.toNat=r∧cB s r=true
inductive pH (s:Sy) (q:Nat):Nat→Prop
 |nil:pH s q q
 |snoc {r t:Nat}:pH s q r→Ed s r t→pH s q t
theorem pH.trans {s:Sy} {q r t:Nat} (a:pH s q r) (b:pH s r t):pH s q t:=by
 induction b with
 |nil=>exact a
 |snoc _ e ih=>exact .snoc ih e
def Bp (s:Sy) (q r:Nat):Prop:=∃t,pH s q t∧Ed s t r
theorem Bp.LS {s:Sy} {q r:Nat} (h:Bp s q r):pH s q r:=by
 obtain ⟨t,a,b⟩:=h;exact .snoc a b
def vJ (s:Sy) (q:Nat):Prop:=∃m,pH s q m∧Bp s m m
theorem vJ.pre {s:Sy} {q r:Nat} (h:Ed s q r) (c:vJ s r):vJ s q:=by
 obtain ⟨m,a,b⟩:=c;exact ⟨m,(pH.snoc .nil h).trans a,b⟩
structure Rk (s:Sy) (L:List Int):Prop where
 dn:∀(q:Nat) (v:Int),L[q]?=some v→0<v→∀r,Ed s q r→∃w,L[r]?=some w∧0<w∧w<v
 at_:∀(q:Nat) (v:Int),L[q]?=some v→0<v→v=1∨∃r,Ed s q r∧L[r]?=some (v- 1)
 le:∀(q:Nat) (v:Int),L[q]?=some v→v≤bk L
 ge:∀(q:Nat) (v:Int),L[q]?=some v→-1≤v
def gf (L L':List Int):Prop:=L'.length=L.length∧∀(k:Nat) (a:Int),L[k]?=some a→a≠0→L'[k]?=some a
theorem gf.refl (L:List Int):gf L L:=⟨rfl,fun _ _ h _=>h⟩
theorem gf.trans {a b c:List Int} (h:gf a b) (k:gf b c):gf a c:=⟨k.1.trans h.1,fun i v e n=>k.2 i v (h.2 i v e n) n⟩
theorem gf.zr {L d:List Int} (h:gf L d):zr d≤zr L:=by
 refine jm _ h.1 fun k a b c e p=>?_
 simp only [MU]at p⊢;refine Decidable.byContradiction fun n=>?_
 have:=h.2 k b e n;rw [this]at c;cases c;exact n p
theorem gf.bk {L L':List Int} (h:gf L L'):bk L≤bk L':=by
 refine jm _ h.1.symm fun k a b d c p=>?_
 simp only [MU]at p⊢;have:=h.2 k a d (by omega);rw [this]at c;cases c;exact p
def Jc (L L':List Int):Prop:=∀k:Nat,L'[k]?=some (-1)→L[k]?=some (-1)
structure LU (s:Sy) (L:List Int) (q:Nat) (L':List Int):Prop where
 st:gf L L'
 gr:Jc L L'
 rk:Rk s L'
 on:∃v,L'[q]?=some v∧0<v
theorem Rk.Gz {s:Sy} {L:List Int} {q:Nat} (h:Rk s L) (d:L[q]?=some 0):Rk s (L.set q (-1)):=by
 have f:=(MO.1 d).1
 have i:bk (L.set q (-1))=bk L:=by
  have:=iu (fun x=>decide (0<x)) (v:=-1) d
  simpa [bk]using this
 have ne:∀{k:Nat} {v:Int},(L.set q (-1))[k]?=some v→0≤v→k≠q∧L[k]?=some v:=fun{k v} e a=>by
  by_cases b:q=k
  ·subst b
   rw [Nl f]at e;cases e;omega
  ·rw [M7 b]at e
   exact ⟨Ne.symm b,e⟩
 have up:∀{k:Nat} {v:Int},L[k]?=some v→0<v→(L.set q (-1))[k]?=some v:=fun{k v} e a=>by
  have:q≠k:=fun h=>by subst h;rw [d]at e;cases e;omega
  rw [M7 this];exact e
 refine ⟨fun k v e a r g=>?_,fun k v e a=>?_,fun k v e=>?_,fun k v e=>?_⟩
 ·obtain ⟨w,c,h2,j⟩:=h.dn k v (ne e (by omega)).2 a r g
  exact ⟨w,up c h2,h2,j⟩
 ·rcases h.at_ k v (ne e (by omega)).2 a with c|⟨r,c,h2⟩
  ·exact .inl c
  ·by_cases l:v=1
   ·exact .inl l
   ·exact .inr ⟨r,c,up h2 (by omega)⟩
 ·rw [i]
  by_cases a:0≤v
  ·exact h.le k v (ne e a).2
  ·omega
 ·by_cases a:0≤v
  ·omega
  ·by_cases b:q=k
   ·subst b;rw [Nl f]at e;cases e;omega
   ·rw [M7 b]at e;exact h.ge k v e
theorem Rk.set {s:Sy} {L:List Int} {q:Nat} {v:Int} (h:Rk s L) (c:L[q]?=some (-1)) (j:0<v) (m:∀r,Ed s q r→∃w,L[r]?=some w∧0<w∧w<v) (o:v=1∨∃r,Ed s q r∧L[r]?=some (v- 1)) (p:v≤bk L+1):Rk s (L.set q v):=by
 have l:=(MO.1 c).1
 have n:bk (L.set q v)=bk L+1:=by
  have:=iu (fun x=>decide (0<x)) (v:=v) c
  simpa [bk,j]using this
 have up:∀{k:Nat} {v':Int},L[k]?=some v'→0<v'→(L.set q v)[k]?=some v':=fun{k v'} e b=>by
  have:q≠k:=fun h=>by subst h;rw [c]at e;cases e;omega
  rw [M7 this];exact e
 have two:∀{k:Nat} {v':Int},(L.set q v)[k]?=some v'→(k=q∧v'=v)∨L[k]?=some v':=fun{k v'} e=>by
  by_cases i:q=k
  ·subst i;rw [Nl l]at e;cases e;exact .inl ⟨rfl,rfl⟩
  ·rw [M7 i]at e;exact .inr e
 refine ⟨fun k v' e b r g=>?_,fun k v' e b=>?_,fun k v' e=>?_,fun k v' e=>?_⟩
 ·rcases two e with⟨rfl,rfl⟩|e
  ·obtain ⟨w,a,h2,f⟩:=m r g
   exact ⟨w,up a h2,h2,f⟩
  ·obtain ⟨w,a,h2,f⟩:=h.dn k v' e b r g
   exact ⟨w,up a h2,h2,f⟩
 ·rcases two e with⟨rfl,rfl⟩|e
  ·rcases o with a|⟨r,a,h2⟩
   ·exact .inl a
   ·by_cases d:v'=1
    ·exact .inl d
    ·exact .inr ⟨r,a,up h2 (by omega)⟩
  ·rcases h.at_ k v' e b with a|⟨r,a,h2⟩
   ·exact .inl a
   ·by_cases d:v'=1
    ·exact .inl d
    ·exact .inr ⟨r,a,up h2 (by omega)⟩
 ·rw [n]
  rcases two e with⟨rfl,rfl⟩|e
  ·omega
  ·have:=h.le k v' e;omega
 ·rcases two e with⟨rfl,rfl⟩|e
  ·omega
  ·exact h.ge k v' e
open Go Go.RowKit
theorem me.Jd {E:Env} {O:dD} {f:Nat} {args:List PV} {h:PH} {R:PV→PH→Prop} (k:e8 E O f args h R):me E O f args h (· ∈List.range h.length) R:=fun F H g i S n=>(k F H g i S n).mono (by
 rintro x p ⟨r,m,o,d,a,b,c,T⟩
 exact ⟨r,m,o,d,a,b,c,{T with out:=fun x l j=>T.out x l fun⟨b,_,s,e⟩=>j ⟨b,List.mem_range.2 (aN s),s,e⟩}⟩)
def jn:List PV:=[.ref 5 0 1,.ref 3 0 1,.ref 2 0 1,.ref 6 0 1]
noncomputable def WH (s:Sy) (L:List Int):PH:=[.cells 6 (ah s),.cells 1 (gd (cB s) s.n.toNat),.cells 1 [.sl 1 1 0 s.n.toNat s.n.toNat],.cells 1 [jW (jl s)],.cells 1 (L.map pi),.cells 1 [.sl 1 4 0 s.n.toNat s.n.toNat],.cells 1 [.fn 50 [] jn]]
def WR (s:Sy) (L:List Int) (q:Nat) (r:PV) (h:PH):Prop:=∃b L',r=pb b∧h=WH s L'∧L'.length=s.n.toNat∧(b=true→LU s L q L')∧(b=false→vJ s q)
structure WI (s:Sy) (L:List Int) (q:Nat) (c:List Int) (j:Nat) (eD:Int) (L1:List Int):Prop where
 st:gf (L.set q (-1)) L1
 gr:Jc (L.set q (-1)) L1
 rk:Rk s L1
 b1:1≤eD
 dn:∀(jj:Nat) (y:Int),jj<j→c[jj]?=some y→cB s y.toNat=true→∃w,L1[y.toNat]?=some w∧0<w∧w<eD
 at_:eD=1∨∃r,Ed s q r∧L1[r]?=some (eD- 1)
 le:eD≤bk L1+1
def WJ (s:Sy) (L:List Int) (q:Nat) (c:List Int) (j:Nat) (fr:PF) (h:PH):Prop:=∃eD L1,h=WH s L1∧WI s L q c j eD L1∧fr.get 0=pi q∧fr.get 1= .ref 5 0 1∧fr.get 3= .ref 2 0 1∧fr.get 4= .ref 6 0 1∧fr.get 7=pi eD∧fr.get 26=dA c∧fr.get 27=pi c.length∧fr.get 28=pi j
theorem yp {s:Sy} (hy:ox s) (hE:∀x∈s.nx,(0≤x.1∧x.1<s.n)∧0≤x.2∧x.2<s.n):∀(z:Nat) (L:List Int) (q:Nat),L.length=s.n.toNat→q<s.n.toNat→zr L≤z→Rk s L→(∀g:Nat,L[g]?=some (-1)→Bp s g q)→
 e8 E O 50 (pi q::jn) (WH s L) (WR s L q):=by
 intro z
 induction z using Nat.strongRecOn with
 |_ z ih=>
  intro L q A u hz hR hg;refine e8.body (F:=yN) rfl rfl rfl ?_;have y6:=hy.n;have so:=hy.nl
  obtain ⟨v,t⟩:∃v,L[q]?=some v:=⟨_,MG (by omega)⟩
  have hm:(L.map pi)[q]?=some (pi v):=by simp [t]
  by_cases v0:v=0
  case neg=>
   have u3:=hR.ge q v t;by_cases v1:0<v
   ·simp (maxSteps:=9^7)-implicitDefEqProofs [-getElem?_pos,MF,yN,jn,WH,u,hm,v0,v1,A]
    exact ⟨⟨by omega,by omega⟩,_,_,kV.refl _ _ _,true,L,rfl,rfl,A,fun _=>⟨gf.refl L,fun k h=>h,hR,v,t,v1⟩,fun h=>by cases h⟩
   ·simp (maxSteps:=9^7)-implicitDefEqProofs [-getElem?_pos,MF,yN,jn,WH,u,hm,v0,v1,A]
    exact ⟨⟨by omega,by omega⟩,_,_,kV.refl _ _ _,false,L,rfl,rfl,A,(fun h=>by cases h),fun _=>⟨q,.nil,hg q (by rw [t];congr 1;omega)⟩⟩
  subst v0;have iq:=cm (x:=pi (-1)) (l:=L.map pi) (k:=q) (by simpa [A]using u);rw [←List.map_set]at iq
  obtain ⟨c,P⟩:∃c,(jl s)[q]?=some c:=⟨_,MG (by simpa [jl]using u)⟩
  have g8:=jk _ _ q c P;have Dx:(jl s).length=s.n.toNat:=by simp [jl]
  have LW:=hR.Gz t;have LX:(L.set q (-1)).length=s.n.toNat:=by rw [List.length_set];exact A
  have My:zr (L.set q (-1))+1=zr L:=by
   have:=iu (fun x=>decide (x=0)) (v:=-1) t
   simpa [zr]using this
  simp (maxSteps:=9^7)-implicitDefEqProofs [-getElem?_pos,MF,yN,jn,WH,u,hm,A,iq,jW,oF,P,Dx];refine ⟨⟨by omega,by omega⟩,⟨by omega,by omega⟩,by omega,?_⟩;refine ba (WJ s L q c) c.length ⟨1,L.set q (-1),by simp [WH,jW,jn],⟨gf.refl _,fun k h=>h,LW,by omega,fun m y h=>by omega,.inl rfl,by omega⟩,by simp,by simp,by simp,by simp,by simp,by simp,by simp,by simp⟩ ?_;rintro j fr h hj ⟨o,i,rfl,I,J,H,G,D,Q,f26,f27,f28⟩;have d:i.length=s.n.toNat:=by rw [I.st.1];exact LX
  have LY:i[q]?=some (-1):=I.st.2 q (-1) (Nl (by omega)) (by omega);by_cases h2:j<c.length
  ·obtain ⟨y,K⟩:∃y,c[j]?=some y:=⟨_,MG h2⟩
   have uH:=MN K
   have LZ:0≤y∧y<s.n:=by
    obtain ⟨x,hx,_,rfl⟩:=(dU P).1 uH;exact (hE x hx).2
   obtain ⟨r,rfl⟩:=Int.eq_ofNat_of_zero_le LZ.1;have N:r<s.n.toNat:=by omega
   have w5:IntKind.i64.wrap ((j:Int)+1)=((j+1:Nat):Int):=au ⟨by omega,by omega⟩;have V:=cn (cB s) N
   cases T:cB s r with
   |false=>
    rw [T]at V;simp (maxSteps:=9^7)-implicitDefEqProofs [-getElem?_pos,MF,J,H,G,D,Q,f26,f27,f28,h2,aV,K,N,V,WH,w5];refine ⟨⟨by omega,by omega⟩,.for h2 ⟨o,i,rfl,{I with dn:=fun m Z U p M=>?_},by simp [J],by simp [H],by simp [G],by simp [D],by simp [Q],by simp [f26],by simp [f27],by simp⟩⟩;by_cases e:m=j
    ·subst e
     rw [K]at p;cases p;rw [Int.toNat_natCast,T]at M;cases M
    ·exact I.dn m Z (by omega) p M
   |true=>
    rw [T]at V
    have X:Ed s q r:=⟨c,r,P,uH,by simp,T⟩
    simp (maxSteps:=9^7)-implicitDefEqProofs [-getElem?_pos,MF,J,H,G,D,Q,f26,f27,f28,h2,aV,K,N,V,WH,w5];refine ⟨⟨by omega,by omega⟩,?_⟩;have Mz:=I.st.zr
    have GA:∀g:Nat,i[g]?=some (-1)→Bp s g r:=fun g L0=>by
     have f:=I.gr g L0;by_cases e:q=g
     ·subst e;exact ⟨q,.nil,X⟩
     ·rw [M7 e]at f
      exact ⟨q,(hg g f).LS,X⟩
    refine jS (W:=List.range (WH s i).length) (first:=[]) (cap:=jn) (args:=pi r::jn) (by simp) (by simp) ((me.Jd (ih (z- 1) (by omega) i r d N (by omega) I.rk GA)).mono ?_);rintro r' h' ⟨b,R,rfl,rfl,Bq,ht,hf⟩
    cases b with
    |false=>
     simp (maxSteps:=9^7)-implicitDefEqProofs [-getElem?_pos,MF,WH];exact ⟨_,_,kV.refl _ _ _,false,R,rfl,rfl,Bq,(fun h=>by cases h),fun _=>vJ.pre X (hf rfl)⟩
    |true=>
     obtain ⟨st,gr,rk,v,S,GB⟩:=ht rfl;have m2:(R.map pi)[r]?=some (pi v):=by simp [S]
     have MA:=rk.le r v S;have gT:bk R≤R.length:=kR _ _;have w6:IntKind.i64.wrap (v+1)=v+1:=au ⟨by omega,by omega⟩;simp (maxSteps:=9^7)-implicitDefEqProofs [-getElem?_pos,MF,J,H,G,D,Q,f26,f27,f28,N,WH,m2,Bq,w6,w5,vo,pK];refine ⟨⟨by omega,by omega⟩,.for h2 ⟨if o<v+1 then v+1 else o,R,rfl,⟨I.st.trans st,fun k h=>I.gr k (gr k h),rk,by have:=I.b1;split<;>omega,fun m Z U p M=>?_,?_,?_⟩,by simp [J],by simp [H],by simp [G],by simp [D],by simp,by simp [f26],by simp [f27],by simp⟩⟩
     ·by_cases e:m=j
      ·subst e
       rw [K]at p;cases p;exact ⟨v,by simpa using S,GB,by split<;>omega⟩
      ·obtain ⟨w,f,C,Y⟩:=I.dn m Z (by omega) p M
       exact ⟨w,st.2 _ w f (by omega),C,by split<;>omega⟩
     ·by_cases hb:o<v+1
      ·rw [if_pos hb]
       exact .inr ⟨r,X,by rw [S];congr 1;omega⟩
      ·rw [if_neg hb]
       have:=I.b1;rcases I.at_ with f|⟨r3,f,C⟩
       ·exact .inl f
       ·by_cases Y:o=1
        ·exact .inl Y
        ·exact .inr ⟨r3,f,st.2 _ _ C (by omega)⟩
     ·have f:=I.le
      have C:=st.bk;split<;>omega
  ·obtain rfl:j=c.length:=by omega
   have Br:=cm (x:=pi o) (l:=i.map pi) (k:=q) (by simpa [d]using u);rw [←List.map_set]at Br;simp (maxSteps:=9^7)-implicitDefEqProofs [-getElem?_pos,MF,J,H,G,D,Q,f26,f27,f28,u,WH,d,Br];have Je:q<i.length:=by omega
   refine ⟨⟨by omega,by omega⟩,⟨by omega,by omega⟩,_,_,kV.refl _ _ _,true,i.set q o,rfl,by simp [WH],by rw [List.length_set];exact d,fun _=>⟨⟨by rw [List.length_set];omega,fun k a e n=>?_⟩,fun k e=>?_,I.rk.set LY (by have:=I.b1;omega) (fun r hr=>?_) I.at_ I.le,o,Nl Je,by have:=I.b1;omega⟩,fun h=>by cases h⟩
   ·have B:q≠k:=fun h=>by subst h;rw [t]at e;cases e;exact n rfl
    rw [M7 B];exact I.st.2 k a (by rw [M7 B];exact e) n
   ·by_cases B:q=k
    ·subst B
     rw [Nl Je]at e;have:=I.b1;simp at e;omega
    ·rw [M7 B]at e
     have:=I.gr k e;rw [M7 B]at this;exact this
   ·obtain ⟨c',y,f,C,rfl,Y⟩:=hr
    rw [P]at f;cases f;obtain ⟨m,U⟩:=List.getElem?_of_mem C;exact I.dn m y (MO.1 U).1 U Y
end P
namespace P
open Go Go.RowKit
structure FS (s:Sy) (i:Nat) (L:List Int) (bt:Int):Prop where
 len:L.length=s.n.toNat
 rk:Rk s L
 gr:∀k:Nat,L[k]?≠some (-1)
 m0:0≤bt
 on:∀(j:Nat) (x:Int),j<i→s.st[j]?=some x→cB s x.toNat=true→∃w,L[x.toNat]?=some w∧0<w∧w≤bt
 at_:bt=0∨∃x∈s.st,cB s x.toNat=true∧L[x.toNat]?=some bt
def FJ (s:Sy) (i:Nat) (fr:PF) (h:PH):Prop:=∃L bt,h=WH s L∧FS s i L bt∧fr.get 1= .ref 0 0 6∧fr.get 6= .ref 2 0 1∧fr.get 8= .ref 5 0 1∧fr.get 9= .ref 6 0 1∧fr.get 10=pi bt∧fr.get 27=dA s.st∧fr.get 28=pi s.st.length∧fr.get 29=pi i
theorem uI (s:Sy) (n:Nat):Rk s (List.replicate n 0):=by
 have e:∀{k:Nat} {v:Int},(List.replicate n (0:Int))[k]?=some v→v=0:=fun{k v} h=>by
  simp only [List.getElem?_replicate]at h;split at h
  ·cases h;rfl
  ·cases h
 exact ⟨fun q v h a=>by have:=e h;omega,fun q v h a=>by have:=e h;omega,fun q v h=>by have:=e h;omega,fun q v h=>by have:=e h;omega⟩
theorem pr {s:Sy} (ok:pE s) (a:pF s=false):Fz E O 17 [.agg (ah s)] (.dw [pb false,pi 0,pi 250]):=by
 refine e8.body (F:=yM) rfl rfl rfl ?_;have e:jD s=250:=by simp [jD,a]
 simp (maxSteps:=9^7)-implicitDefEqProofs [-getElem?_pos,MF,yM,ah];refine aK (oy ok) ?_ ?_ ?_
 iterate 2· simp (maxDischargeDepth:=8)-implicitDefEqProofs [-getElem?_pos,MF,ah]
 simp (maxSteps:=9^7)-implicitDefEqProofs [-getElem?_pos,MF,e];refine ak ?_;simp
theorem sf {s:Sy} (ok:pE s) (o:ox s) (H:∀x∈s.nx,(0≤x.1∧x.1<s.n)∧0≤x.2∧x.2<s.n) (N:∀x∈s.st,0≤x∧x<s.n) (hF:∀x∈s.en,0≤x∧x<s.n) (Z:s.st.length≤2^30) (Ax:s.en.length≤2^30) {r:PV} (hr:gD r=true)
 (no:(∃x∈s.st,cB s x.toNat=true∧vJ s x.toNat)→r= .dw [pb false,pi 0,pi 0]) (yes:∀L a,FS s s.st.length L a→r= .dw [pb true,pi a,pi 0]):
 Fz E O 17 [.agg (ah s)] r:=by
 refine e8.body (F:=yM) rfl rfl rfl ?_;have y6:=o.n;have V:IntKind.i64.wrap s.n=s.n:=au ⟨by omega,by omega⟩;have e:jD s=0:=by simp [jD,fZ.2 o]
 simp (maxSteps:=9^7)-implicitDefEqProofs [-getElem?_pos,MF,yM,ah];refine aK (oy ok) ?_ ?_ ?_
 iterate 2· simp (maxDischargeDepth:=8)-implicitDefEqProofs [-getElem?_pos,MF,ah]
 simp (maxSteps:=9^7)-implicitDefEqProofs [-getElem?_pos,MF,e,ah];refine oe (sd ok o H N hF Z Ax) ?_ ?_ ?_
 iterate 2· simp (maxDischargeDepth:=8)-implicitDefEqProofs [-getElem?_pos,MF,ah]
 simp (maxSteps:=9^7)-implicitDefEqProofs [-getElem?_pos,MF,ah];refine aK (rZ ok o H) ?_ ?_ ?_
 iterate 2· simp (maxDischargeDepth:=8)-implicitDefEqProofs [-getElem?_pos,MF,ah,cC]
 simp (maxSteps:=9^7)-implicitDefEqProofs [-getElem?_pos,MF,ah,V,jW];refine ⟨⟨by omega,by omega⟩,?_⟩;refine ba (FJ s) s.st.length ⟨List.replicate s.n.toNat 0,0,by simp [WH,jn,ah,jl,jW],⟨by simp,uI _ _,fun k=>by simp only [List.getElem?_replicate];split<;>simp,by omega,fun j x h=>by omega,.inl rfl⟩,by simp,by simp,by simp,by simp,by simp,by simp,by simp,by simp⟩ ?_;rintro i fr h hi ⟨L,a,rfl,I,m,l,f,d,f10,f27,f28,f29⟩;have gT:bk L≤L.length:=kR _ _;have z:=I.len;by_cases B:i<s.st.length
 ·obtain ⟨x,p⟩:∃x,s.st[i]?=some x:=⟨_,MG B⟩
  have D:=MN p;obtain ⟨S,x1⟩:=N x D;obtain ⟨q,rfl⟩:=Int.eq_ofNat_of_zero_le S;have y:q<s.n.toNat:=by omega
  have K:IntKind.i64.wrap ((i:Int)+1)=((i+1:Nat):Int):=au ⟨by omega,by omega⟩;have C:=cn (cB s) y
  cases u:cB s q with
  |false=>
   rw [u]at C;simp (maxSteps:=9^7)-implicitDefEqProofs [-getElem?_pos,MF,m,l,f,d,f10,f27,f28,f29,B,aV,p,y,C,WH,K];refine ⟨⟨by omega,by omega⟩,.for B ⟨L,a,rfl,{I with on:=fun j x hj c t=>?_},by simp [m],by simp [l],by simp [f],by simp [d],by simp [f10],by simp [f27],by simp [f28],by simp⟩⟩;by_cases e:j=i
   ·subst e
    rw [p]at c;cases c;rw [Int.toNat_natCast,u]at t;cases t
   ·exact I.on j x (by omega) c t
  |true=>
   rw [u]at C;simp (maxSteps:=9^7)-implicitDefEqProofs [-getElem?_pos,MF,m,l,f,d,f10,f27,f28,f29,B,aV,p,y,C,WH];refine ⟨⟨by omega,by omega⟩,?_⟩;refine jS (W:=List.range (WH s L).length) (first:=[]) (cap:=jn) (args:=pi q::jn) (by simp) (by simp) ((me.Jd (yp o H (zr L) L q z y (MM _) I.rk (fun g h=>absurd h (I.gr g)))).mono ?_);rintro r' h' ⟨b,R,rfl,rfl,P,Y,hf⟩
   cases b with
   |false=>
    simp (maxSteps:=9^7)-implicitDefEqProofs [-getElem?_pos,MF,WH];rw [no ⟨q,D,by simpa using u,by simpa using hf rfl⟩];exact ⟨_,_,ak (by simp),rfl,rfl,by simp⟩
   |true=>
    obtain ⟨st,gr,T,v,G,X⟩:=Y rfl;have U:(R.map pi)[q]?=some (pi v):=by simp [G]
    simp (maxSteps:=9^7)-implicitDefEqProofs [-getElem?_pos,MF,m,l,f,d,f10,f27,f28,f29,y,WH,U,P,K,vo,pK];refine ⟨⟨by omega,by omega⟩,.for B ⟨R,if a<v then v else a,rfl,⟨P,T,fun k h=>I.gr k (gr k h),by first|(have:=I.m0;split<;>omega),fun j x hj c t=>?_,?_⟩,by simp [m],by simp [l],by simp [f],by simp [d],by simp,by simp [f27],by simp [f28],by simp⟩⟩
    ·by_cases e:j=i
     ·subst e
      rw [p]at c;cases c;exact ⟨v,by simpa using G,X,by split<;>omega⟩
     ·obtain ⟨w,A,J,Q⟩:=I.on j x (by omega) c t
      exact ⟨w,st.2 _ w A (by omega),J,by split<;>omega⟩
    ·by_cases M:a<v
     ·rw [if_pos M]
      exact .inr ⟨q,D,by simpa using u,by simpa using G⟩
     ·rw [if_neg M]
      have:=I.m0;rcases I.at_ with A|⟨x,A,J,Q⟩
      ·exact .inl A
      ·by_cases h6:a=0
       ·exact .inl h6
       ·exact .inr ⟨x,A,J,st.2 _ _ Q (by omega)⟩
 ·obtain rfl:i=s.st.length:=by omega
  rw [yes L a I];simp (maxSteps:=9^7)-implicitDefEqProofs [-getElem?_pos,MF,m,l,f,d,f10,f27,f28,f29];refine ak ?_;simp
open Go Go.RowKit
structure Rg (s:Sy):Prop where
 nx:∀x∈s.nx,(0≤x.1∧x.1<s.n)∧0≤x.2∧x.2<s.n
 st:∀x∈s.st,0≤x∧x<s.n
 en:∀x∈s.en,0≤x∧x<s.n
 sl:s.st.length≤2^30
 el:s.en.length≤2^30
theorem na {n:Int} {l:List Int} (h:eU n l=true):∀(i:Nat) (x:Int),l[i]?=some x→(i:Int)≤x∧x<n
 |0,x,e=>by
  have:=dT.1 h 0 (MO.1 e).1;rw [gY,bJ e]at this;simp at this;omega
 |i+1,x,e=>by
  have b:=(MO.1 e).1;have:=dT.1 h (i+1) b;rw [gY,bJ e]at this
  obtain ⟨y,a⟩:∃y,l[i]?=some y:=⟨_,MG (by omega)⟩
  have h2:=na h i y a;rw [show i+1- 1=i from rfl,bJ a]at this;simp at this;omega
theorem oI {n:Int} {l:List Int} (h:eU n l=true):∀x∈l,0≤x∧x<n:=fun x a=>by
 obtain ⟨i,hi⟩:=List.getElem?_of_mem a;have:=na h i x hi;omega
theorem oJ {n:Int} {l:List Int} (h:eU n l=true) (a:n≤256):l.length≤2^30:=by
 refine Decidable.byContradiction fun k=>?_
 have:=na h 256 _ (MG (by omega));omega
theorem ox.rg {s:Sy} (h:ox s):Rg s where
 nx:=fun x a=>by
  obtain ⟨i,hi⟩:=List.getElem?_of_mem a;have:=dT.1 h.nx i (MO.1 hi).1;rw [fC,bJ hi]at this;simp only [MK,MU]at this;exact this.1
 st:=oI h.st
 en:=oI h.en
 sl:=oJ h.st h.n.2
 el:=oJ h.en h.n.2
theorem Rg.GD {s:Sy} (h:Rg s) (y:ox s):kO s.nx:=fun x a=>by
 have:=h.nx x a;have:=y.n;omega
theorem Rg.GF {s:Sy} (h:Rg s) (y:ox s):ji s.st:=fun x a=>by
 have:=h.st x a;have:=y.n;omega
theorem Rg.GG {s:Sy} (h:Rg s) (y:ox s):ji s.en:=fun x a=>by
 have:=h.en x a;have:=y.n;omega
theorem oK {S S':Nat} (h:∀q,S.testBit q=true→S'.testBit q=true):∀n,un S' n≤un S n
 |0=>MM _
 |n+1=>by
  have:=oK h n;rw [un,un];by_cases e:S.testBit n=true
  ·rw [if_pos e,if_pos (h n e)];omega
  ·rw [if_neg e];split<;>omega
theorem vK {S S':Nat} (h:∀q,S.testBit q=true→S'.testBit q=true) {q:Nat} (a:S'.testBit q=true) (h2:¬ S.testBit q=true):∀{n:Nat},q<n→un S' n+1≤un S n
 |0,k=>by omega
 |n+1,k=>by
  rw [un,un];by_cases e:q=n
  ·subst e
   have:=oK h q;rw [if_pos a,if_neg h2];omega
  ·have:=vK h a h2 (n:=n) (by omega)
   by_cases e:S.testBit n=true
   ·rw [if_pos e,if_pos (h n e)];omega
   ·rw [if_neg e];split<;>omega
theorem oL {S:Nat}:∀{n:Nat},un S n=0→∀q,q<n→S.testBit q=true
 |0,_,q,k=>by omega
 |n+1,h,q,k=>by
  rw [un]at h;by_cases e:q=n
  ·subst e
   refine Decidable.byContradiction fun c=>?_
   rw [if_neg c]at h;omega
  ·exact oL (n:=n) (by omega) q (by omega)
theorem sg (f:Nat→Nat) (N k q:Nat) (h:(jy f N k).testBit q=true):(jy f N (k+1)).testBit q=true:=by
 rw [jy,Nat.testBit_or,h];rfl
structure sE (E:List (Int×Int)) (n:Nat) (f:Nat→Nat):Prop where
 bit:∀N q,(f N).testBit q=true↔∃x∈E,N.testBit x.1.toNat=true∧x.2.toNat=q
 rg:∀x∈E,x.1.toNat<n∧x.2.toNat<n
theorem sE.sound {E:List (Int×Int)} {n:Nat} {f:Nat→Nat} (h:sE E n f) (a:List Int):∀(k q:Nat),(jy f (da a) k).testBit q=true→uG (jE E n) a q
 |0,q,e=>by
  obtain ⟨x,b,rfl⟩:=(cl a q).1 e;exact .base b
 |k+1,q,e=>by
  rw [jy,Nat.testBit_or,Bool.or_eq_true]at e;rcases e with e|e
  ·exact h.sound a k q e
  ·obtain ⟨x,b,g,rfl⟩:=(h.bit _ _).1 e
   obtain ⟨c,d⟩:∃c,(jE E n)[x.1.toNat]?=some c:=⟨_,MG (by simpa using(h.rg x b).1)⟩
   exact .step (h.sound a k _ g) d ((dU d).2 ⟨x,b,rfl,rfl⟩)
def Bs (f:Nat→Nat) (N:Nat):Prop:=∀q,(f N).testBit q=true→N.testBit q=true
theorem Bs.it {f:Nat→Nat} {N k:Nat} (h:Bs f (jy f N k)):jy f N (k+1)=jy f N k:=Nat.eq_of_testBit_eq fun i=>by
 rw [Ng];refine ⟨fun e=>?_,sg f N k i⟩;rw [jy,Nat.testBit_or,Bool.or_eq_true]at e;exact e.elim id (h i)
theorem sE.Jf {E:List (Int×Int)} {n:Nat} {f:Nat→Nat} (h:sE E n f) (N:Nat):∀k,Bs f (jy f N k)∨un (jy f N k) n+k≤n
 |0=>.inr (by rw [Nat.add_zero];exact sa _ _)
 |k+1=>by
  by_cases c:Bs f (jy f N k)
  ·exact .inl (by rw [c.it];exact c)
  ·rcases h.Jf N k with b|b
   ·exact absurd b c
   ·refine .inr ?_
    obtain ⟨q,g⟩:=Classical.not_forall.1 c;obtain ⟨a,h2⟩:=Classical.not_imp.1 g
    have e:q<n:=by
     obtain ⟨x,d,_,rfl⟩:=(h.bit _ _).1 a;exact (h.rg x d).2
    have:=vK (sg f N k) (by rw [jy,Nat.testBit_or,a,Bool.or_true]) h2 e;omega
theorem sE.fin {E:List (Int×Int)} {n:Nat} {f:Nat→Nat} (h:sE E n f) (N:Nat):Bs f (jy f N n):=by
 rcases h.Jf N n with c|c
 ·exact c
 ·intro q e
  obtain ⟨x,a,_,rfl⟩:=(h.bit _ _).1 e;exact oL (n:=n) (by omega) _ (h.rg x a).2
theorem oM (f:Nat→Nat) (N q:Nat) (h:N.testBit q=true):∀k,(jy f N k).testBit q=true
 |0=>h
 |k+1=>sg f N k q (oM f N q h k)
theorem sE.Jg {E:List (Int×Int)} {n:Nat} {f:Nat→Nat} (h:sE E n f) (b:List Int) (q:Nat):(jy f (da b) n).testBit q=dL (jE E n) b q:=by
 rw [Ng,lV];refine ⟨h.sound b n q,fun k=>?_⟩
 induction k with
 |base a=>exact oM _ _ _ ((cl _ _).2 ⟨_,a,rfl⟩) _
 |step _ d c ih=>
  obtain ⟨x,a,rfl,rfl⟩:=(dU d).1 c;exact h.fin _ _ ((h.bit _ _).2 ⟨x,a,ih,rfl⟩)
theorem Rg.next {s:Sy} (h:Rg s):sE s.nx s.n.toNat (fe s):=⟨gH s,fun x a=>by have:=h.nx x a;omega⟩
theorem Rg.ahead {s:Sy} (h:Rg s):sE (mh s) s.n.toNat (fD s):=⟨fun N q=>by
 rw [m6]
 exact ⟨fun⟨x,c,h2,b⟩=>⟨_,Nh.2 ⟨x,c,rfl⟩,h2,b⟩,fun⟨y,c,h2,b⟩=>by
  obtain ⟨x,a,rfl⟩:=Nh.1 c
  exact ⟨x,a,h2,b⟩⟩,fun x a=>by
 obtain ⟨y,d,rfl⟩:=Nh.1 a;have:=h.nx y d;simp only
 omega⟩
theorem lW {s:Sy} (h:Rg s) (q:Nat):(cJ s).testBit q=cB s q:=by
 rw [cJ,Nat.testBit_and,ga,cH,h.next.Jg,h.ahead.Jg];rfl
theorem si {s:Sy} (h:Rg s) {r q:Nat}:Ed s r q↔(∃x∈s.nx,x.1.toNat=r∧x.2.toNat=q)∧cB s q=true:=by
 refine ⟨fun⟨c,y,a,h2,d,b⟩=>⟨?_,b⟩,fun⟨⟨x,a,h2,d⟩,b⟩=>?_⟩
 ·obtain ⟨x,g,e,rfl⟩:=(dU a).1 h2
  exact ⟨x,g,e,d⟩
 ·subst h2
  obtain ⟨c,f⟩:∃c,(jl s)[x.1.toNat]?=some c:=⟨_,MG (by rw [jl,rY];have:=h.nx x a;omega)⟩
  exact ⟨c,x.2,f,(dU f).2 ⟨x,a,rfl,rfl⟩,d,b⟩
theorem sj {s:Sy} (h:Rg s) (q:Nat):(lay s 0).testBit q=true↔(∃x∈s.st,x.toNat=q)∧cB s q=true:=by
 rw [lay,Nat.testBit_and,MK,cl,lW h]
theorem lX {s:Sy} (h:Rg s) (k q:Nat):(lay s (k+1)).testBit q=true↔∃r,(lay s k).testBit r=true∧Ed s r q:=by
 rw [lay,Nat.testBit_and,MK,gH,lW h];refine ⟨fun⟨⟨x,c,h2,b⟩,a⟩=>⟨_,h2,(si h).2 ⟨⟨x,c,rfl,b⟩,a⟩⟩,fun⟨r,c,h2⟩=>?_⟩;obtain ⟨⟨x,b,rfl,d⟩,a⟩:=(si h).1 h2;exact ⟨⟨x,b,c,d⟩,a⟩
theorem nc {N q:Nat} (h:N.testBit q=true):N≠0:=fun e=>by rw [e,Nat.zero_testBit]at h;cases h
theorem sk {N:Nat} (h:N≠0):∃q,N.testBit q=true:=by
 refine Classical.byContradiction fun k=>h (Nat.eq_of_testBit_eq fun i=>?_)
 rw [Nat.zero_testBit]
 cases e:N.testBit i with
 |false=>rfl
 |true=>exact absurd ⟨i,e⟩ k
theorem lY {s:Sy} (h:Rg s) {k:Nat}:∀{j:Nat},k≤j→lay s j≠0→lay s k≠0
 |0,c,e=>by obtain rfl:k=0:=by omega
            exact e
 |j+1,c,e=>by
  by_cases d:k=j+1
  · subst d;exact e
  · obtain ⟨q,b⟩:=sk e
    obtain ⟨r,a,_⟩:=(lX h j q).1 b;exact lY h (j:=j) (by omega) (nc a)
theorem oN {s:Sy} (h:Rg s) {q r j:Nat} (p:pH s q r) (a:(lay s j).testBit q=true):∃k,j≤k∧(lay s k).testBit r=true:=by
 induction p with
 |nil=>exact ⟨j,MM _,a⟩
 |snoc _ e ih=>
  obtain ⟨k,b,h2⟩:=ih;exact ⟨k+1,by omega,(lX h k _).2 ⟨_,h2,e⟩⟩
theorem uJ {s:Sy} (h:Rg s) {q:Nat} (c:vJ s q) (f:(lay s 0).testBit q=true) (k:Nat):lay s k≠0:=by
 obtain ⟨m,a,t,b,e⟩:=c
 have key:∀k,∃j,k≤j∧(lay s j).testBit m=true:=by
  intro k
  induction k with
  |zero=>
   obtain ⟨j,_,h2⟩:=oN h a f;exact ⟨j,Nb _,h2⟩
  |succ k ih=>
   obtain ⟨j,d,h2⟩:=ih;obtain ⟨i,l,g⟩:=oN h b h2;exact ⟨i+1,by omega,(lX h i _).2 ⟨_,g,e⟩⟩
 obtain ⟨j,d,h2⟩:=key k;exact lY h d (nc h2)
theorem FS.dn {s:Sy} (h:Rg s) {L:List Int} {b:Int} (f:FS s s.st.length L b):∀(k q:Nat),(lay s k).testBit q=true→∃w,L[q]?=some w∧0<w∧w+k≤b
 |0,q,e=>by
  obtain ⟨⟨x,c,rfl⟩,d⟩:=(sj h q).1 e;obtain ⟨i,hi⟩:=List.getElem?_of_mem c;obtain ⟨w,a,h2,n⟩:=f.on i x (MO.1 hi).1 hi d;exact ⟨w,a,h2,by omega⟩
 |k+1,q,e=>by
  obtain ⟨r,g,j⟩:=(lX h k q).1 e;obtain ⟨w,a,h2,n⟩:=f.dn h k r g;obtain ⟨v,m,l,o⟩:=f.rk.dn r w a h2 q j;exact ⟨v,m,l,by omega⟩
theorem FS.up {s:Sy} (h:Rg s) {L:List Int} {c:Int} (f:FS s s.st.length L c):∀(k:Nat),(k:Int)<c→∃q,(lay s k).testBit q=true∧L[q]?=some (c- k)
 |0,e=>by
  rcases f.at_ with b|⟨x,b,h2,a⟩
  ·omega
  ·exact ⟨x.toNat,(sj h _).2 ⟨⟨x,b,rfl⟩,h2⟩,by rw [a];congr 1;omega⟩
 |k+1,e=>by
  obtain ⟨q,b,h2⟩:=f.up h k (by omega);rcases f.rk.at_ q _ h2 (by omega)with a|⟨r,a,d⟩
  ·omega
  ·exact ⟨r,(lX h k r).2 ⟨q,b,a⟩,by rw [d];congr 1;omega⟩
theorem FS.zero {s:Sy} (h:Rg s) {L:List Int} {a:Int} (f:FS s s.st.length L a):lay s a.toNat=0:=by
 refine Classical.byContradiction fun k=>?_
 obtain ⟨q,b⟩:=sk k;obtain ⟨w,_,c,h2⟩:=f.dn h _ _ b;have:=f.m0;omega
theorem FS.le {s:Sy} (h:Rg s) {L:List Int} {a:Int} (f:FS s s.st.length L a):a.toNat≤s.n.toNat:=by
 have e:bk L≤L.length:=kR _ _;have d:=f.len;rcases f.at_ with c|⟨x,c,h2,b⟩
 ·omega
 ·have:=f.rk.le _ _ b
  omega
theorem least {P:Nat→Prop}:∀{n:Nat},P n→∃i,i≤n∧P i∧∀j,j<i→¬ P j:=by
 intro n
 induction n using Nat.strongRecOn with
 |_ n ih=>
  intro h;by_cases c:∃j,j<n∧P j
  ·obtain ⟨j,g,h2⟩:=c
   obtain ⟨i,a,b,d⟩:=ih j g h2;exact ⟨i,by omega,b,d⟩
  ·exact ⟨n,MM _,h,fun j f e=>c ⟨j,f,e⟩⟩
theorem uK {s:Sy} (h:Rg s):∃(b:Bool) (m:Int),((∃x∈s.st,cB s x.toNat=true∧vJ s x.toNat)→b=false∧m=0)∧(∀L bt,FS s s.st.length L bt→b=true∧m=bt)∧
 (∀i,i≤s.n.toNat→(∀j,j<i→lay s j≠0)→lay s i=0→b=true∧m=i)∧((∀j,j≤s.n.toNat→lay s j≠0)→b=false∧m=0):=by
 by_cases c:∃i,i≤s.n.toNat∧lay s i=0
 ·obtain ⟨D,B,o⟩:=c
  obtain ⟨i,a,b,d⟩:=least (P:=fun i=>lay s i=0) o;refine ⟨true,i,fun⟨x,r,t,w⟩=>absurd b (uJ h w ((sj h _).2 ⟨⟨x,r,rfl⟩,t⟩) i),fun L bt f=>⟨rfl,?_⟩,fun i' h2 l g=>⟨rfl,?_⟩,fun h2=>absurd o (h2 _ B)⟩
  ·have z:=f.zero h
   have C:=f.m0;have A:¬ bt.toNat<i:=fun k=>d _ k z
   have y:¬ (i:Int)<bt:=fun k=>by
    obtain ⟨q,u,_⟩:=f.up h i k;exact nc u b
   omega
  ·have A:¬ i'<i:=fun k=>d _ k g
   have y:¬ i<i':=fun k=>l _ k b
   omega
 ·have p:∀j,j≤s.n.toNat→lay s j≠0:=fun j v e=>c ⟨j,v,e⟩
  exact ⟨false,0,fun _=>⟨rfl,rfl⟩,fun L bt f=>absurd (f.zero h) (p _ (f.le h)),fun i h2 l g=>absurd g (p i h2),fun _=>⟨rfl,rfl⟩⟩
end P
namespace P
open Go Go.RowKit
theorem lZ {s:Sy} (ok:pE s):Fz E O 6 [.agg (ah s)] (pb true):=by
 refine e8.body (F:=a6) rfl rfl rfl ?_
 cases h:pF s with
 |false=>
  simp (maxSteps:=9^7)-implicitDefEqProofs [-getElem?_pos,MF,a6,ah];refine aK (pr ok h) ?_ ?_ ?_
  iterate 2· simp (maxDischargeDepth:=8)-implicitDefEqProofs [-getElem?_pos,MF,ah]
  simp (maxSteps:=9^7)-implicitDefEqProofs [-getElem?_pos,MF,ah];refine aK (Be ok) ?_ ?_ ?_
  iterate 2· simp (maxDischargeDepth:=8)-implicitDefEqProofs [-getElem?_pos,MF,ah]
  simp (maxSteps:=9^7)-implicitDefEqProofs [-getElem?_pos,MF,h];refine aK (oz) ?_ ?_ ?_
  iterate 2· simp (maxDischargeDepth:=8)-implicitDefEqProofs [-getElem?_pos,MF]
  simp (maxSteps:=9^7)-implicitDefEqProofs [-getElem?_pos,MF];refine ak ?_;simp
 |true=>
  have a:=fZ.1 h;have g:=a.rg;obtain ⟨b,m,no,yes,d,e⟩:=uK g;simp (maxSteps:=9^7)-implicitDefEqProofs [-getElem?_pos,MF,a6,ah];refine aK (sf (r:=.dw [pb b,pi m,pi 0]) ok a g.nx g.st g.en g.sl g.el (by simp) (fun c=>by obtain ⟨rfl,rfl⟩:=no c;rfl) (fun L j f=>by obtain ⟨rfl,rfl⟩:=yes L j f;rfl)) ?_ ?_ ?_
  iterate 2· simp (maxDischargeDepth:=8)-implicitDefEqProofs [-getElem?_pos,MF,ah]
  simp (maxSteps:=9^7)-implicitDefEqProofs [-getElem?_pos,MF,ah];refine aK (Be ok) ?_ ?_ ?_
  iterate 2· simp (maxDischargeDepth:=8)-implicitDefEqProofs [-getElem?_pos,MF,ah]
  simp (maxSteps:=9^7)-implicitDefEqProofs [-getElem?_pos,MF,h];refine aK (po (r:=.dw [pb b,pi m]) ok a (g.GD a) (g.GF a) (g.GG a) (by simp) (fun i n h2 l=>by obtain ⟨rfl,rfl⟩:=d i n h2 l;rfl) (fun c=>by obtain ⟨rfl,rfl⟩:=e c;rfl)) ?_ ?_ ?_
  iterate 2· simp (maxDischargeDepth:=8)-implicitDefEqProofs [-getElem?_pos,MF,ah]
  have k:ca 0 (.bool b) (.bool b)=some true:=by cases b<;>rfl
  simp (maxSteps:=9^7)-implicitDefEqProofs [-getElem?_pos,MF,h,k];refine aK (oz) ?_ ?_ ?_
  iterate 2· simp (maxDischargeDepth:=8)-implicitDefEqProofs [-getElem?_pos,MF]
  simp (maxSteps:=9^7)-implicitDefEqProofs [-getElem?_pos,MF];refine ak ?_;simp
end P
end Go.Proofs.Ytediokhgklkhnaa.A
