/- Texts that stand one behind the other: Tr. -/
import Derived.Test.YtediokhgklkhnaaG14
set_option linter.unusedVariables false
set_option linter.unusedSimpArgs false
set_option maxRecDepth 10000
set_option maxHeartbeats 2000000
namespace Go.Proofs.Ytediokhgklkhnaa.A.P
open Go Go.RowKit
def RU (s:Sy) (i:Nat):PH:=[.cells 6 (aa s),.cells 6 zY,.cells 4 (sv (aC s)),.cells 1 ((cc (aC s).testBit s.n.toNat i).map pi)]
def De (s:Sy) (i:Nat):List (Nat×PV):=[(1,.ref 0 0 6),(2,.ref 1 0 6),(4,.ref 2 0 4),(5,.sl 1 3 0 s.n.toNat s.n.toNat),(6,pi (rk (aC s).testBit i)),(7,pi i)]
def N6 (s:Sy) (i:Nat) (fr:PF) (h:PH):Prop:=h=RU s i∧∀t∈De s i,fr.get t.1=t.2
theorem zX {A:Nat→Prop} (l:List Int) (b m:Nat) {h e:PH} (d:A b) (a:l.length=m) (c:h[b]?=some (.cells 1 (l.map pi))):Vg A id h e (.sl 1 b 0 m m) (bO l)↔True:=⟨fun _=>trivial,fun _=>a▸jL (jP d c)⟩
theorem kH {s:Sy} (ok:mH s) (c:mK s) {r:PV} (S:g9 r=true) (A:rk (aC s).testBit s.n.toNat=0→r= .dB [.agg zY,pb false])
 (B:rk (aC s).testBit s.n.toNat≠0→r= .dB [.agg (aa (mW s (kf (aC s).testBit s.n.toNat) (rk (aC s).testBit s.n.toNat))),pb true]):Fz E O 24 [.agg (aa s)] r:=by
 refine ek.body (F:=DF) rfl rfl rfl ?_;have g:=c.rg;have U:=c.n;have G:max s.n 0=s.n:=by omega
 have K:IntKind.i64.wrap s.n=s.n:=aj ⟨by omega,by omega⟩;have J:List.replicate s.n.toNat (PV.v (.int .i64 0))=(cc (aC s).testBit s.n.toNat 0).map pi:=(kF _ _).symm;simp (maxSteps:=9^7)-implicitDefEqProofs [-getElem?_pos,OF,DF,aa];refine aD (mN ok c (g.Iw c) (g.Ix c) (g.Iy c)) ?_ ?_ ?_
 iterate 2· simp (maxDischargeDepth:=8)-implicitDefEqProofs [-getElem?_pos,OF,aa]
 simp (maxSteps:=9^7)-implicitDefEqProofs [-getElem?_pos,OF,aa,K,J];refine ⟨⟨by omega,by omega⟩,?_⟩;refine a7 (N6 s) s.n.toNat ⟨by simp [RU,aa,zY],by simp [De,rk]⟩ ?_;rintro i W h hi ⟨rfl,H⟩;simp only [De,OZ,Ph,or_false,forall_eq_or_imp,forall_eq]at H;obtain ⟨f,b,e,d,a,p⟩:=H;have C:=jU (aC s).testBit i;by_cases o:i<s.n.toNat
 ·have Q:(i:Int)<s.n:=by omega
  have z:IntKind.i64.wrap ((i:Int)+1)=((i+1:Nat):Int):=aj ⟨by omega,by omega⟩;have D:∀(l:List PV) (v:PV),l.length=s.n.toNat→ig l i [v]=l.set i v:=fun l v V=>b5 (by omega)
  obtain ⟨k,j⟩:∃k,rk (aC s).testBit i=k:=⟨_,rfl⟩
  rw [j]at a C;have P:∀v,ig ((cc (aC s).testBit s.n.toNat i).map pi) i [v]=((cc (aC s).testBit s.n.toNat i).map pi).set i v:=fun v=>D _ _ (by simp)
  have M:∀v w,ig (((cc (aC s).testBit s.n.toNat i).map pi).set i w) i [v]=(((cc (aC s).testBit s.n.toNat i).map pi).set i w).set i v:=fun v w=>D _ _ (by simp)
  simp (maxSteps:=9^7)-implicitDefEqProofs [-getElem?_pos,OF,f,b,e,d,a,p,o,Q,RU,aa,P];refine ⟨⟨by omega,by omega⟩,⟨by omega,by omega⟩,?_⟩;refine aD (tj (N:=aC s) (q:=i) (by omega)) ?_ ?_ ?_
  iterate 2· simp (maxDischargeDepth:=8)-implicitDefEqProofs [-getElem?_pos,OF]
  cases t:(aC s).testBit i with
  |false=>
   have y:rk (aC s).testBit (i+1)=k:=by rw [rk,t,j];simp
   have x:((cc (aC s).testBit s.n.toNat i).map pi).set i (pi (-1))=(cc (aC s).testBit s.n.toNat (i+1)).map pi:=by rw [←List.map_set,gW o (by simp [t])]
   simp (maxSteps:=9^7)-implicitDefEqProofs [-getElem?_pos,OF,f,b,e,d,a,p,z,x];exact .for o ⟨by simp [RU,aa],by simp [De,y,f,b,e,d,a]⟩
  |true=>
   have y:rk (aC s).testBit (i+1)=k+1:=by rw [rk,t,j];simp
   have x:((((cc (aC s).testBit s.n.toNat i).map pi).set i (pi (-1))).set i (pi k))=(cc (aC s).testBit s.n.toNat (i+1)).map pi:=by rw [List.set_set,←List.map_set,gW o (by simp [t,j])]
   have I:IntKind.i64.wrap ((k:Int)+1)=((k+1:Nat):Int):=aj ⟨by omega,by omega⟩;simp (maxSteps:=9^7)-implicitDefEqProofs [-getElem?_pos,OF,f,b,e,d,a,p,z,I,o,M,x];refine ⟨⟨by omega,by omega⟩,⟨by omega,by omega⟩,.for o ⟨by simp [RU,aa],by simp [De,y,f,b,e,d]⟩⟩
 ·obtain rfl:i=s.n.toNat:=by omega
  have T:¬ ((s.n.toNat:Nat):Int)<s.n:=by omega
  obtain ⟨k,j⟩:∃k,rk (aC s).testBit s.n.toNat=k:=⟨_,rfl⟩
  rw [j]at a C A B;by_cases u:k=0
  ·rw [A u]
   simp (maxSteps:=9^7)-implicitDefEqProofs [-getElem?_pos,OF,f,b,e,d,a,p,RU,aa,G,u,zY];refine ae ?_;simp
  ·rw [B u]
   have R:¬ (k:Int)=0:=by omega
   have L:=mT (aC s).testBit s.n.toNat;simp (maxSteps:=9^7)-implicitDefEqProofs [-getElem?_pos,OF,f,b,e,d,a,p,RU,aa,G,u,R,L];refine s8 [3] (zT (cl:=kf (aC s).testBit s.n.toNat) (m:=k) ok c g.nx (by simp) (by omega)) ?_ ?_
   ·simp (maxDischargeDepth:=8)-implicitDefEqProofs [-getElem?_pos,OF,aa,zX (kf (aC s).testBit s.n.toNat) 3 s.n.toNat]
   simp (maxSteps:=9^7)-implicitDefEqProofs [-getElem?_pos,OF,b,bY,zY,aa];refine ae ?_;simp
theorem lP {P:Nat→Bool} {lab:List Int} (h:∀x∈lab,m7 x):∀i,∀x∈dS P lab i,m7 x
 |0,x,a=>by simp [dS]at a
 |i+1,x,a=>by
  rw [dS]at a;split at a
  ·rcases O1.1 a with k|k
   ·exact lP h i x k
   ·simp only [List.mem_singleton]at k
    subst k;rw [List.getD_eq_getElem?_getD]
    cases e:lab[i]? with
    |none=>exact ⟨by decide,by decide⟩
    |some y=>exact h y (OM e)
  ·exact lP h i x a
theorem Df {s:Sy} (ok:mH s) (b:mK s):mH (uY s):=by
 have g:=b.n;have f:=jU (ar s) s.n.toNat;have a:=b.rg
 have small:∀(k:Nat),k≤256→m7 (k:Int):=fun k i=>⟨by omega,by omega⟩
 have key:∀L:List Int,(∀x∈L,0≤x∧x<s.n)→L.length≤2^30→ta (aX (ar s) L):=fun L e h=>⟨by have:=mQ (ar s) L;omega,fun x c=>by
  obtain ⟨y,d,h2,rfl⟩:=kG.1 c;have:=jU (ar s) y.toNat;have:=e y d
  exact small _ (by omega)⟩
 exact ⟨small _ (by omega),ok.p,⟨by simp [uY];omega,lP ok.lab.2 _⟩,key _ a.st a.sl,key _ a.en a.el,by have:=tB (ar s) s.nx;have:=b.nl;simp only [uY];omega,fun x c=>by
  obtain ⟨y,d,h2,j,rfl⟩:=pW.1 c;have:=jU (ar s) y.1.toNat;have:=jU (ar s) y.2.toNat;have:=a.nx y d
  exact ⟨small _ (by omega),small _ (by omega)⟩⟩
theorem mY {s:Sy} (ok:mH s):Fz E O 8 [.agg (aa s)] (pb true):=by
 refine ek.body (F:=a8) rfl rfl rfl ?_
 cases h:qQ s with
 |false=>
  simp (maxSteps:=9^7)-implicitDefEqProofs [-getElem?_pos,OF,a8,aa];refine aD (qE ok h) ?_ ?_ ?_
  iterate 2· simp (maxDischargeDepth:=8)-implicitDefEqProofs [-getElem?_pos,OF,aa]
  simp (maxSteps:=9^7)-implicitDefEqProofs [-getElem?_pos,OF,aa,zY];refine aD (zw ok) ?_ ?_ ?_
  iterate 2· simp (maxDischargeDepth:=8)-implicitDefEqProofs [-getElem?_pos,OF,aa]
  simp (maxSteps:=9^7)-implicitDefEqProofs [-getElem?_pos,OF,h];refine aD (tH) ?_ ?_ ?_
  iterate 2· simp (maxDischargeDepth:=8)-implicitDefEqProofs [-getElem?_pos,OF]
  simp (maxSteps:=9^7)-implicitDefEqProofs [-getElem?_pos,OF];refine aD (lC) ?_ ?_ ?_
  iterate 2· simp (maxDischargeDepth:=8)-implicitDefEqProofs [-getElem?_pos,OF]
  simp (maxSteps:=9^7)-implicitDefEqProofs [-getElem?_pos,OF];refine ae ?_;simp
 |true=>
  have a:=gT.1 h;have g:=a.rg;have c:(aC s).testBit=ar s:=funext (tz g);have d:=tC ok a g.nx g.st g.en g.sl g.el;simp (maxSteps:=9^7)-implicitDefEqProofs [-getElem?_pos,OF,a8,aa];refine aD (d) ?_ ?_ ?_
  iterate 2· simp (maxDischargeDepth:=8)-implicitDefEqProofs [-getElem?_pos,OF,aa]
  by_cases b:rk (ar s) s.n.toNat=0
  ·simp (maxSteps:=9^7)-implicitDefEqProofs [-getElem?_pos,OF,aa,zY,b]
   refine aD (zw ok) ?_ ?_ ?_
   iterate 2· simp (maxDischargeDepth:=8)-implicitDefEqProofs [-getElem?_pos,OF,aa]
   simp (maxSteps:=9^7)-implicitDefEqProofs [-getElem?_pos,OF,h];refine aD (kH ok a (r:=.dB [.agg zY,pb false]) (by simp [zY]) (fun _=>rfl) (fun k=>absurd (by rw [c];exact b) k)) ?_ ?_ ?_
   iterate 2· simp (maxDischargeDepth:=8)-implicitDefEqProofs [-getElem?_pos,OF,aa]
   simp (maxSteps:=9^7)-implicitDefEqProofs [-getElem?_pos,OF,zY];refine aD (tH) ?_ ?_ ?_
   iterate 2· simp (maxDischargeDepth:=8)-implicitDefEqProofs [-getElem?_pos,OF]
   simp (maxSteps:=9^7)-implicitDefEqProofs [-getElem?_pos,OF];refine aD (lC) ?_ ?_ ?_
   iterate 2· simp (maxDischargeDepth:=8)-implicitDefEqProofs [-getElem?_pos,OF]
   simp (maxSteps:=9^7)-implicitDefEqProofs [-getElem?_pos,OF];refine ae ?_;simp
  ·simp (maxSteps:=9^7)-implicitDefEqProofs [-getElem?_pos,OF,aa,b]
   refine aD (zw ok) ?_ ?_ ?_
   iterate 2· simp (maxDischargeDepth:=8)-implicitDefEqProofs [-getElem?_pos,OF,aa]
   simp (maxSteps:=9^7)-implicitDefEqProofs [-getElem?_pos,OF,h];refine aD (kH ok a (r:=.dB [.agg (aa (uY s)),pb true]) (by simp) (fun k=>absurd (by rw [←c];exact k) b) (fun _=>by rw [fk a _ c])) ?_ ?_ ?_
   iterate 2· simp (maxDischargeDepth:=8)-implicitDefEqProofs [-getElem?_pos,OF,aa]
   simp (maxSteps:=9^7)-implicitDefEqProofs [-getElem?_pos,OF,aa];refine aD (zR (Df ok a)) ?_ ?_ ?_
   iterate 2· simp (maxDischargeDepth:=8)-implicitDefEqProofs [-getElem?_pos,OF,aa]
   simp (maxSteps:=9^7)-implicitDefEqProofs [-getElem?_pos,OF];refine aD (lC) ?_ ?_ ?_
   iterate 2· simp (maxDischargeDepth:=8)-implicitDefEqProofs [-getElem?_pos,OF]
   simp (maxSteps:=9^7)-implicitDefEqProofs [-getElem?_pos,OF];refine ae ?_;simp
end Go.Proofs.Ytediokhgklkhnaa.A.P
