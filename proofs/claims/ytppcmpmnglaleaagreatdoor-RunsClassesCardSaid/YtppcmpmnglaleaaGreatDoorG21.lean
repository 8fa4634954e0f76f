/- Texts that stand one behind the other: Pm13, Pm14, Pm15, Q1, Q2, Q3, Q4, Q5, Q6, Q7, Q8, Q9, Q10, Q11, Q13, Q14, Q15, U1, U2. -/
import Derived.Test.YtppcmpmnglaleaaGreatDoorG20
set_option linter.unusedVariables false
set_option linter.unusedSimpArgs false
namespace Go.Proofs.YtppcmpmnglaleaaGreatDoor.A
namespace P
open Go Go.RowKit
variable{E:Env} {O:kG}
mutual
def Cv (τ:Nat→Nat):PV→PV
 | .ref b o t=>.ref (τ b) o t
 | .sl sz b o n c=>.sl sz (τ b) o n c
 | .mp b=>.mp (τ b)
 | .agg cs=>.agg (nA τ cs)
 | .hZ cs=>.hZ (nA τ cs)
 | .fn f a b=>.fn f (nA τ a) (nA τ b)
 | .rG t p=>.rG t (Cv τ p)
 | .v x=>.v x
 | .fs sz rows=>.fs sz rows
 | .fp cells=>.fp cells
 | .any=>.any
def nA (τ:Nat→Nat):List PV→List PV
 |[]=>[]
 |p::ps=>Cv τ p::nA τ ps
end
attribute [simp] Cv nA
mutual
theorem Ez (c:Nat→Nat):∀{p:PV},rJ p=true→Cv c p=p
 | .v _,_=>rfl
 | .fs _ _,_=>rfl
 | .fp _,_=>rfl
 | .agg cs,h=>by rw [Cv,lN c (by simpa using h)]
 | .hZ cs,h=>by rw [Cv,lN c (by simpa using h)]
 | .fn f a b,h=>by
  simp only [rJ,avj]at h;rw [Cv,lN c h.1,lN c h.2]
 | .rG t p,h=>by rw [Cv,Ez c (by simpa using h)]
theorem lN (a:Nat→Nat):∀{l:List PV},dN l=true→nA a l=l
 |[],_=>rfl
 |p::l,h=>by
  simp only [dN,avj]at h;rw [nA,Ez a h.1,lN a h.2]
end
@[simp]theorem XM {a:Nat→Nat} {l:List PV} (h:dN l=true):nA a l=l:=lN a h
def PI (τ:Nat→Nat):PB→PB
 | .cells z cs=>.cells z (nA τ cs)
 | .map es=>.map (es.map fun e=>(e.1,Cv τ e.2))
 | .dead=>.dead
theorem jv (a:Nat→Nat):∀l:List PV,(nA a l).length=l.length
 |[]=>rfl
 |_::l=>by simp [nA,jv a l]
theorem Ar (a:Nat→Nat):∀es:List (Value×PV),(es.map fun e=>(e.1,Cv a e.2)).map (·.2)=nA a (es.map (·.2))
 |[]=>rfl
 |_::l=>by simp only [List.map_cons,nA,Ar a l]
structure Gx (τ:Nat→Nat) (bs h:PH):Prop where
 get:∀i,i<bs.length→h[τ i]?=(bs[i]?).map (PI τ)
section
variable{τ:Nat→Nat} {bs h:PH}
theorem Gx.at (M:Gx τ bs h) {i t:Nat} (hi:i<bs.length):At h (τ i) t↔At bs i t:=by
 unfold At;rw [M.get i hi];constructor
 ·rintro ⟨z,cs,e,rfl⟩
  obtain ⟨P,a,e⟩:=avq.1 e
  cases P with
  |cells c b=>cases e;exact ⟨_,b,a,(jv _ _).symm⟩
  |_=>cases e
 ·rintro ⟨z,cs,e,rfl⟩
  exact ⟨z,nA τ cs,by rw [e];rfl,jv _ _⟩
theorem Gx.le (M:Gx τ bs h) {i t:Nat} (hi:i<bs.length):Le h (τ i) t↔Le bs i t:=by
 unfold Le;rw [M.get i hi];constructor
 ·intro k z cs e
  have:=k z (nA τ cs) (by rw [e];rfl);rwa [jv]at this
 ·intro k z cs e
  obtain ⟨P,a,e⟩:=avq.1 e
  cases P with
  |cells c b=>cases e;rw [jv];exact k _ b a
  |_=>cases e
theorem Gx.dh (M:Gx τ bs h) {i:Nat} (hi:i<bs.length):P.dh h (τ i)↔P.dh bs i:=by
 unfold P.dh;rw [M.get i hi];constructor
 ·rintro ⟨es,e⟩
  obtain ⟨P,b,e⟩:=avq.1 e
  cases P with
  |map a=>exact ⟨a,b⟩
  |_=>cases e
 ·rintro ⟨es,e⟩
  exact ⟨_,by rw [e];rfl⟩
theorem Gx.aY (M:Gx τ bs h) {i:Nat} (hi:i<bs.length):P.aY h (τ i)↔P.aY bs i:=by
 unfold P.aY;simp only [M.dh hi,M.at hi]
theorem Gx.lt (M:Gx τ bs h) {i:Nat} (hi:i<bs.length):τ i<h.length:=by
 have:=M.get i hi;rw [avg hi]at this;exact (avm.1 this).1
mutual
theorem Cw (M:Gx τ bs h) {F:Nat→Prop} {H:AH} {j ψ:Nat→Nat} (e:∀i,i<bs.length→j (τ i)=ψ i):∀{p:PV} {x:Value},RV ⟨F,H,ψ,bs⟩ p x→RV ⟨F,H,j,h⟩ (Cv τ p) x
 |_,_, .v x=> .v x
 |_,_, .ref a d g f=> .ref a (M.lt d) ((M.le d).2 g) fun k=>by
  have:=f ((M.at d).1 k);dsimp only at this⊢;rwa [e _ d]
 |_,_, .sl a d g f=> .sl a (M.lt d) ((M.le d).2 g) fun k=>by
  have:=f ((M.at d).1 k);dsimp only at this⊢;rwa [e _ d]
 |_,_, .mp a d f=> .mp a (M.lt d) fun k=>by
  have:=f ((M.dh d).1 k);dsimp only at this⊢;rwa [e _ d]
 |_,_, .fs k=> .fs k
 |_,_, .fp a b c=> .fp a b c
 |_,_, .agg k=> .agg (mm M e k)
 |_,_, .hZ k=> .hZ (mm M e k)
 |_,_, .fn a b=> .fn (mm M e a) (mm M e b)
 |_,_, .rG a=> .rG (Cw M e a)
 |_,_, .any x=> .any x
theorem mm (M:Gx τ bs h) {F:Nat→Prop} {H:AH} {c ψ:Nat→Nat} (d:∀i,i<bs.length→c (τ i)=ψ i):∀{p:List PV} {x:List Value},dA ⟨F,H,ψ,bs⟩ p x→dA ⟨F,H,c,h⟩ (nA τ p) x
 |_,_, .nil=> .nil
 |_,_, .cons a b=> .cons (Cw M d a) (mm M d b)
end
end
def iV:PH→List Nat→PH→PH
 |h,[],_=>h
 |h,_::_,[]=>h
 |h,b::L,P::Ps=>iV (h.set b P) L Ps
theorem fy:∀(L:List Nat) (a h:PH),(iV h L a).length=h.length
 |[],_,h=>by simp [iV]
 |_::_,[],h=>by simp [iV]
 |b::L,P::a,h=>by rw [iV,fy L a];simp
theorem pR:∀(L:List Nat) (a h:PH) (c:Nat),c∉L→(iV h L a)[c]?=h[c]?
 |[],_,h,c,_=>by simp [iV]
 |_::_,[],h,c,_=>by simp [iV]
 |b::L,P::a,h,c,d=>by
  rw [iV,pR L a _ c (fun q=>d (List.mem_cons_of_mem _ q)),fW (fun q=>d (avy.2 (.inl q)))]
theorem wD:∀(L:List Nat) (a h:PH),L.Nodup→L.length=a.length→(∀b∈L,b<h.length)→∀(i b:Nat),L[i]?=some b→(iV h L a)[b]?=a[i]?
 |[],_,h,_,_,_,i,b,e=>by simp at e
 |_::_,[],h,_,f,_,i,b,e=>by simp at f
 |c::L,P::a,h,d,f,g,i,b,e=>by
  rw [List.nodup_cons]at d;rw [iV]
  cases i with
  |zero=>
   simp only [avf,avh]at e;subst e;rw [pR L a _ c d.1,fF (g c (by simp))];rfl
  |succ i=>
   have:=wD L a (h.set c P) d.2 (by simpa using f) (fun q j=>by simpa using g q (by simp [j])) i b (by simpa using e);rw [this];rfl
def qM (L:List Nat) (m:Nat):Nat→Nat:=fun i=>if i<L.length then L.getD i 0 else m+(i- L.length)
def merge (h:PH) (L:List Nat) (hs:PH):PH:=iV h L ((hs.take L.length).map (PI (qM L h.length)))++(hs.drop L.length).map (PI (qM L h.length))
theorem Gy {h hs:PH} {L:List Nat} (e:L.Nodup) (d:∀b∈L,b<h.length) (g:L.length≤hs.length):Gx (qM L h.length) hs (merge h L hs):=by
 refine ⟨fun i hi=>?_⟩;unfold merge;by_cases a:i<L.length
 ·have c:L[i]?=some (qM L h.length i):=by
   unfold qM;rw [if_pos a,List.getD_eq_getElem?_getD,avg a];rfl
  have f:=d _ (avl c);rw [avt (by rw [fy];exact f),wD L _ h e (by simp;omega) d i _ c,avK,avP,if_pos a]
 ·have c:qM L h.length i=h.length+(i- L.length):=by unfold qM;rw [if_neg a]
  rw [c,avx (by rw [fy];omega),fy,show h.length+(i- L.length)- h.length=i- L.length by omega,avK,avU,show L.length+(i- L.length)=i by omega]
theorem fA {h hs:PH} {L:List Nat} {b:Nat} (a:b<h.length) (c:b∉L):(merge h L hs)[b]?=h[b]?:=by
 unfold merge;rw [avt (by rw [fy];exact a),pR _ _ _ _ c]
def RZ (L:List Nat) (m:Nat) (φ ψ:Nat→Nat):Nat→Nat:=fun b=>match L.idxOf? b with
 |some i=>ψ i
 |none=>if b<m then φ b else ψ (b- m+L.length)
theorem VH {L:List Nat} {m:Nat} {φ ψ:Nat→Nat} (c:L.Nodup) (d:∀b∈L,b<m) (i:Nat):RZ L m φ ψ (qM L m i)=ψ i:=by
 unfold RZ qM;by_cases a:i<L.length
 ·rw [if_pos a,List.getD_eq_getElem?_getD,avg a,Option.getD_some]
  have:L.idxOf? L[i]=some i:=by
   clear d
   induction L generalizing i with
   |nil=>simp at a
   |cons x L ih=>
    rw [List.nodup_cons]at c;rw [List.idxOf?_cons]
    cases i with
    |zero=>simp
    |succ i=>
     have f:(x==(x::L)[i+1])=false:=by
      simp only [List.getElem_cons_succ,beq_eq_false_iff_ne];intro e;exact c.1 (e▸List.getElem_mem _)
     rw [f];simp only [List.getElem_cons_succ];rw [ih c.2 i (by simpa using a)];rfl
  rw [this]
 ·rw [if_neg a]
  have:L.idxOf? (m+(i- L.length))=none:=by
   rw [List.idxOf?_eq_none_iff];intro g;have:=d _ g;omega
  rw [this];simp only;rw [if_neg (by omega),show m+(i- L.length)- m+L.length=i by omega]
theorem jS {L:List Nat} {m b:Nat} {φ ψ:Nat→Nat} (a:b<m) (c:b∉L):RZ L m φ ψ b=φ b:=by
 unfold RZ;rw [List.idxOf?_eq_none_iff.2 c];simp only;rw [if_pos a]
theorem Cy {F r:Nat→Prop} {H H':AH} {φ ψ:Nat→Nat} {h hs f:PH} {L:List Nat} (S:eK ⟨F,H,φ,h⟩) (nd:L.Nodup) (cO:∀b∈L,b<h.length) (hl:L.length=hs.length)
 (VJ:∀i,aY hs i→aY h (L.getD i 0)) (iD:∀i b,L[i]?=some b→dk h b=dk hs i∧(dh hs i→dh h b)∧(dh h b→dh hs i)) (U:eK ⟨r,H',ψ,f⟩) (T:dR hs.length qZ ⟨F,H,fun i=>φ (L.getD i 0),hs⟩ ⟨r,H',ψ,f⟩):
 eK ⟨r,H',RZ L h.length φ ψ,merge h L f⟩∧dR h.length (· ∈L) ⟨F,H,φ,h⟩ ⟨r,H',RZ L h.length φ ψ,merge h L f⟩∧∀p x,RV ⟨r,H',ψ,f⟩ p x→RV ⟨r,H',RZ L h.length φ ψ,merge h L f⟩ (Cv (qM L h.length) p) x:=by
 have hls:hs.length≤f.length:=T.len (avk _);have M:=Gy (h:=h) (hs:=f) nd cO (by omega);have m:=fun i=>VH (φ:=φ) (ψ:=ψ) nd cO i
 have get?:∀i,i<L.length→L[i]?=some (qM L h.length i):=fun i d=>by
  unfold qM;rw [if_pos d,List.getD_eq_getElem?_getD,avg d];rfl
 have B:∀i,i<L.length→L.getD i 0=qM L h.length i:=fun i d=>by unfold qM;rw [if_pos d]
 have J:(merge h L f).length=h.length+(f.length- L.length):=by unfold merge;rw [avp,fy,List.length_map,List.length_drop]
 have cases:∀b,b<(merge h L f).length→(∃i,i<f.length∧b=qM L h.length i)∨(b<h.length∧b∉L):=by
  intro b g;by_cases d:b∈L
  ·obtain ⟨i,hi⟩:=List.mem_iff_getElem?.1 d
   have l:=(avm.1 hi).1;left;refine ⟨i,by omega,?_⟩;have:=get? i l;rw [hi]at this;exact avi this
  ·by_cases h2:b<h.length
   ·exact .inr ⟨h2,d⟩
   ·left
    refine ⟨b- h.length+L.length,by rw [J]at g;omega,?_⟩;unfold qM;rw [if_neg (by omega)];omega
 have VK:∀b,b∉L→aY h b→¬ im ⟨F,H,fun i=>φ (L.getD i 0),hs⟩ qZ (φ b):=by
  rintro b g s ⟨i,_,G,e⟩;have hi:i<L.length:=by have:=aW G;dsimp only at this;omega
  have s1:=VJ _ G;have:=S.inj _ _ s1 s e;rw [B i hi]at this;exact g (this▸avl (get? i hi))
 have D:∀{x:Nat},im ⟨F,H,fun i=>φ (L.getD i 0),hs⟩ qZ x→im ⟨F,H,φ,h⟩ (· ∈L) x:=by
  rintro x ⟨i,_,G,e⟩;have hi:i<L.length:=by have:=aW G;dsimp only at this;omega
  exact ⟨_,by rw [B i hi];exact avl (get? i hi),VJ _ G,e⟩
 have same:∀b,b∉L→aY h b→H'.get (φ b)=H.get (φ b):=fun b g s=>T.out _ (S.lt s) (VK b g s)
 have fo:∀b,b∉L→aY h b→r (φ b)→F (φ b):=fun b g s q=>T.fo _ (S.lt s) (VK b g s) q
 have shape:∀i,i<L.length→(∀t,At h (qM L h.length i) t↔At hs i t)∧(dh h (qM L h.length i)↔dh hs i):=by
  intro i hi;obtain ⟨a,b,c⟩:=iD i _ (get? i hi);refine ⟨fun t=>?_,c,b⟩
  have tl:∀{h:PH} {b t:Nat},At h b t↔dk h b=some t:=by
   intro h b t;constructor
   ·rintro ⟨z,cs,e,rfl⟩;unfold dk;rw [e]
   ·intro e;exact (mg e).2 rfl
  rw [tl,tl,a]
 have I:∀i,i<L.length→∀t,Le h (qM L h.length i) t→Le hs i t:=by
  intro i hi t k z cs e;obtain ⟨a,_⟩:=iD i _ (get? i hi);have e2:dk h (qM L h.length i)=some cs.length:=by rw [a];unfold dk;rw [e]
  exact (mi e2).1 k
 have T2:dR h.length (· ∈L) ⟨F,H,φ,h⟩ ⟨r,H',RZ L h.length φ ψ,merge h L f⟩:=by
  refine ⟨T.n0,T.nx,fun x K=>T.fz x K,fun x K hi q=>T.fo x K (fun w=>hi (let⟨b,_,c⟩:=D w;⟨b,trivial,c⟩)) q,fun x K hi=>T.out x K fun w=>hi (D w),fun b s=>?_,fun _=>by rw [J];omega,fun b _ g t V=>?_,fun b _ g t V N=>?_,fun b _ g N=>?_⟩
  ·rcases cases b (aW s)with⟨i,hi,rfl⟩|⟨d,h2⟩
   ·dsimp only
    rw [m];rcases T.loc i ((M.aY hi).1 s)with q|⟨q,e⟩
    ·exact .inl q
    ·right
     have l:i<L.length:=by have:=aW q;dsimp only at this;omega
     refine ⟨?_,?_⟩
     ·rw [←B i l];exact VJ _ q
     ·rw [←B i l];exact e
   ·right
    dsimp only;rw [jS d h2];exact ⟨(dC (fA d h2)).1 s,rfl⟩
  ·by_cases n:b∈L
   ·obtain ⟨i,hi⟩:=List.mem_iff_getElem?.1 n
    have l:=(avm.1 hi).1;obtain rfl:b=qM L h.length i:=avi (hi.symm.trans (get? i l));exact (M.le (by omega)).2 (T.le i (show i<hs.length by omega) (show i<hs.length by omega) t (I i l t V))
   ·exact (sB (fA g n)).2 V
  ·by_cases n:b∈L
   ·obtain ⟨i,hi⟩:=List.mem_iff_getElem?.1 n
    have l:=(avm.1 hi).1;obtain rfl:b=qM L h.length i:=avi (hi.symm.trans (get? i l));obtain ⟨Y,R⟩:=T.vP i (show i<hs.length by omega) (show i<hs.length by omega) t (I i l t V) ((M.at (by omega)).1 N);dsimp only at R⊢;rw [m,R,B i l];exact ⟨((shape i l).1 t).2 Y,rfl⟩
   ·exact ⟨(sA (fA g n)).1 N,jS g n⟩
  ·by_cases n:b∈L
   ·obtain ⟨i,hi⟩:=List.mem_iff_getElem?.1 n
    have l:=(avm.1 hi).1;obtain rfl:b=qM L h.length i:=avi (hi.symm.trans (get? i l));obtain ⟨Y,R⟩:=T.wz i (show i<hs.length by omega) (show i<hs.length by omega) ((M.dh (by omega)).1 N);dsimp only at R⊢;rw [m,R,B i l];exact ⟨(shape i l).2.2 Y,rfl⟩
   ·exact ⟨(fV (fA g n)).1 N,jS g n⟩
 have R3:∀i b,i<f.length→aY f i→b∉L→aY h b→ψ i≠φ b:=by
  intro i b hi s g o e;rcases T.loc i s with q|⟨q,e'⟩
  ·have Y:φ b<H.nx:=S.lt o
   dsimp only at q;omega
  ·dsimp only at e'
   exact VK b g o ⟨i,trivial,q,e'.symm.trans e⟩
 refine ⟨⟨U.wf,U.fz,fun b b' s o e=>?_,fun b z cs e X=>?_,fun b es e=>?_⟩,T2,fun p x hr=>Cw M (fun i _=>m i) hr⟩
 ·dsimp only at e
  rcases cases b (aW s)with⟨i,hi,rfl⟩|⟨d,h2⟩
  ·rcases cases b' (aW o)with⟨j,W,rfl⟩|⟨Q,C⟩
   ·rw [m,m]at e
    rw [U.inj _ _ ((M.aY hi).1 s) ((M.aY W).1 o) e]
   ·rw [m,jS Q C]at e
    exact absurd e (R3 i b' hi ((M.aY hi).1 s) C ((dC (fA Q C)).1 o))
  ·rcases cases b' (aW o)with⟨j,W,rfl⟩|⟨Q,C⟩
   ·rw [m,jS d h2]at e
    exact absurd e.symm (R3 j b W ((M.aY W).1 o) h2 ((dC (fA d h2)).1 s))
   ·rw [jS d h2,jS Q C]at e
    exact S.inj _ _ ((dC (fA d h2)).1 s) ((dC (fA Q C)).1 o) e
 ·rcases cases b (aW (cz e X))with⟨i,hi,rfl⟩|⟨d,h2⟩
  ·dsimp only
   rw [m];rw [show(merge h L f)[qM L h.length i]?=_ from M.get i hi]at e;obtain ⟨P,hP,e⟩:=avq.1 e
   cases P with
   |cells z' dL=>
    cases e;obtain ⟨vs,A,y,v,u⟩:=U.aX i _ dL hP (by rintro rfl;exact X rfl);exact ⟨vs,A,mm M (fun i _=>m i) y,v,u⟩
   |_=>cases e
  ·dsimp only
   rw [jS d h2];rw [show(merge h L f)[b]?=_ from fA d h2]at e;have s:=cz e X;obtain ⟨vs,A,y,v,u⟩:=S.aX b z cs e X;exact ⟨vs,(same b h2 s).trans A,y.step T2,T.n0▸v,fun q=>u (fo b h2 s q)⟩
 ·rcases cases b (aW (fx e))with⟨i,hi,rfl⟩|⟨d,h2⟩
  ·dsimp only
   rw [m];rw [show(merge h L f)[qM L h.length i]?=_ from M.get i hi]at e;obtain ⟨P,hP,e⟩:=avq.1 e
   cases P with
   |map es'=>
    cases e;obtain ⟨Z,A,y,v,u,k5⟩:=U.Ae i es' hP;refine ⟨Z,A,?_,?_,u,k5⟩
    ·rw [←y];simp [List.map_map,Function.comp_def]
    ·rw [Ar];exact mm M (fun i _=>m i) v
   |_=>cases e
  ·dsimp only
   rw [jS d h2];rw [show(merge h L f)[b]?=_ from fA d h2]at e;have s:=fx e;obtain ⟨Z,A,y,v,u,k5⟩:=S.Ae b es e;exact ⟨Z,(same b h2 s).trans A,y,v.step T2,T.n0▸u,fun q=>k5 (fo b h2 s q)⟩
theorem fM.frame {f:Nat} {args p:List PV} {h hs:PH} (L Z:List Nat) {R:PV→PH→Prop} (k:fM E O f p hs R) (m:L.Nodup) (g:∀b∈L,b<h.length∧b∉Z) (n:L.length=hs.length)
 (K:kC (· ∈Z) (fun i=>L.getD i 0) h hs 0 hs) (z:∀i b,L[i]?=some b→dk h b=dk hs i∧(dh hs i→dh h b)∧(dh h b→dh hs i)) (y:mC (· ∈Z) (fun i=>L.getD i 0) h hs args p):
 Gw E O f args h (· ∈L) (fun r D=>∃d a,R d a∧L.length≤a.length∧r=Cv (qM L h.length) d∧D=merge (bR h Z) L a):=by
 intro F H X w S U;have v:=iU.at (A:=(· ∈Z)) L n m (fun b c=>(g b c).2) K;have Q:=v.ok S;obtain ⟨P,M⟩:=wB S Z;have o:=iA Z h;have same:∀b,b∈L→(bR h Z)[b]?=h[b]?:=fun b c=>by rw [lM,if_neg (fun q=>(g b c).2 q.1)]
 refine (k _ H _ w Q (y.ok S U)).mono ?_;rintro x Y ⟨d,a,V,W,C,B,N,T⟩
 have mem:∀i,i<L.length→L.getD i 0∈L:=fun i hi=>by
  rw [List.getD_eq_getElem?_getD,avg hi];exact List.getElem_mem _
 obtain ⟨t,s,u⟩:=Cy (h:=bR h Z) (hs:=hs) (L:=L) P m (fun b c=>by rw [o];exact (g b c).1) n (fun i l=>(dC (same _ (mem i (by have:=aW l;omega)))).2 (v.aY l)) (fun i b e=>by
  have j:=same b (avl e);obtain ⟨J,I,G⟩:=z i b e;refine ⟨?_,fun q=>(fV j).2 (I q),fun q=>G ((fV j).1 q)⟩
  rw [←J];unfold dk;rw [j]) N T
 rw [o]at t s u;exact ⟨_,_,V,_,⟨d,a,C,by have:=T.len (avk _);dsimp only at this;omega,rfl,rfl⟩,u _ _ B,t,M.trans s (avk _) (fun _ q=>q.elim) (fun _ q=>q)⟩
def KU:Option PB→Option PB→Prop
 |some (.cells _ cs),some (.cells _ dL)=>cs.length=dL.length
 |some (.map _),some (.map _)=>True
 |_,_=>False
@[simp]theorem ak5 (z b:Nat) (cs a:List PV):KU (some (.cells z cs)) (some (.cells b a))↔cs.length=a.length:=Iff.rfl
@[simp]theorem ak6 (es es':List (Value×PV)):KU (some (.map es)) (some (.map es'))↔True:=Iff.rfl
def R7 (h hs:PH):Nat→List Nat→Prop
 |_,[]=>True
 |i,b::L=>KU h[b]? hs[i]?∧R7 h hs (i+1) L
@[simp]theorem aeV (h hs:PH) (i:Nat):R7 h hs i []↔True:=Iff.rfl
@[simp]theorem abx (h hs:PH) (i b:Nat) (L:List Nat):R7 h hs i (b::L)↔KU h[b]? hs[i]?∧R7 h hs (i+1) L:=Iff.rfl
theorem R7.ok {h hs:PH}:∀{L:List Nat} {i:Nat},R7 h hs i L→∀j b,L[j]?=some b→dk h b=dk hs (i+j)∧(dh hs (i+j)→dh h b)∧(dh h b→dh hs (i+j))
 |[],i,_,j,b,e=>by simp at e
 |c::L,i,k,j+1,b,e=>by
  have:=R7.ok k.2 j b (by simpa using e);rwa [show i+1+j=i+(j+1) by omega]at this
 |c::L,i,k,0,b,e=>by
  simp only [avf,avh]at e;subst e;have a:=k.1;rw [Nat.add_zero];unfold dk dh
  cases d:h[c]? with
  |none=>rw [d]at a;exact a.elim
  |some P=>
   cases h2:hs[i]? with
   |none=>rw [d,h2]at a;cases P<;>exact a.elim
   |some f=>
    rw [d,h2]at a
    cases P with
    |cells z cs=>
     cases f with
     |cells l m=>simp only [KU]at a;exact ⟨by simp [a],(fun⟨es,e⟩=>by cases e),(fun⟨es,e⟩=>by cases e)⟩
     |_=>exact a.elim
    |map es=>
     cases f with
     |map g=>exact ⟨rfl,fun _=>⟨_,rfl⟩,fun _=>⟨_,rfl⟩⟩
     |_=>exact a.elim
    |dead=>exact a.elim
section
variable{n:Nat} {Q:Ex→PF→PH→Prop} {ks:List Kp} {fr:PF} {h:PH} {m:Mp} {l:List AO} {d:Option Nat}
theorem dt {f:Nat} {«as»:List X} {j:List PV} {hs:PH} (L Z:List Nat) {R:PV→PH→Prop} (k:fM E O f j hs R) (o:L.Nodup) (q:∀b∈L,b<h.length∧b∉Z) (r:L.length=hs.length)
 (K:kC (· ∈Z) (fun i=>L.getD i 0) h hs 0 hs) (sz:R7 h hs 0 L) (p:mC (· ∈Z) (fun i=>L.getD i 0) h hs («as».map (fX fr)) j)
 (next:∀c a,R c a→L.length≤a.length→PK E O n Q (.ops (m.up L (fr.aT d (Cv (qM L h.length) c)) (merge (bR h Z) L a)) l ks) (fr.aT d (Cv (qM L h.length) c)) (merge (bR h Z) L a)):PK E O n Q (.ops m (⟨none,d,.call f «as»⟩::l) ks) fr h:=
 kv (W:=L) rfl ((fM.frame L Z k o q r K (fun i b e=>by simpa using sz.ok i b e) p).mono (by
  rintro t u ⟨c,a,s,g,rfl,rfl⟩
  exact next c a s g))
end
attribute [simp] qM merge iV PI
end P
namespace P
open Go Go.RowKit
variable{E:Env} {O:kG}
theorem rI.list {A:Nat→Prop} {a:Nat→Nat} {h c:PH} {b:PF}:∀{l:List (Nat×PV)},rI A a h c b l→mC A a h c (l.map fun e=>b.get e.1) (l.map (·.2))
 |[],_=>trivial
 |(t,p)::l,k=>⟨k.1,rI.list k.2⟩
theorem EA {C:Cx} {b:Fr}:∀{l:List (Nat×PV)},dA C (l.map (·.2)) (l.map fun e=>b.get e.1)→oJ C (PF.tm l) b
 |[],_,t=>.any _
 |(a,p)::l,k,t=>by
  cases k with|cons d c=>
  rw [Ap];split
  ·rename_i e;subst e;exact d
  ·exact EA c t
theorem KV {C:Cx} {b:PF} {c:Fr} (R:oJ C b c):∀l:List (Nat×PV),dA C (l.map fun e=>b.get e.1) (l.map fun e=>c.get e.1)
 |[]=>.nil
 |(a,p)::l=>.cons (R a) (KV R l)
theorem bX {n:Nat} {c:PF} {h h2:PH} (L:List Nat) (l:List (Nat×PV)) (o:L.length+n=h2.length) (j:L.Nodup) (m:∀b∈L,n≤b) (hs:∀b,b<n→cd h h2 b) (K:kC (fun _=>False) (fun i=>if i<n then i else L.getD (i- n) 0) h h2 0 h2) (V:rI (fun _=>False) (fun i=>if i<n then i else L.getD (i- n) 0) h h2 c l):Gh n c h (PF.tm l) h2:=by
 intro F H g a S R;obtain ⟨q,f,p,d,T⟩:=bU L o j m hs K (Cs V.list) F H g (.tuple (l.map fun e=>a.get e.1).toArray) S (.hZ (KV R l));refine ⟨q,f,p,?_,T⟩;generalize k:(Value.tuple (l.map fun e=>a.get e.1).toArray)=v at d
 cases d with|hZ r=>
 rename_i xs
 have:xs=l.map fun e=>a.get e.1:=by
  have:=Value.tuple.inj k;exact (congrArg Array.toList this).symm
 subst this;exact EA r
theorem fM.ak7 {f:Nat} {args w:List PV} {h:PH} {sz k:Nat} {cs:List PV} (q:Fo E O f w sz k cs) (I:kB cs=true) (D:mC qZ id h [] args w):
 Gw E O f args h (· ∈[]) (fun r J=>r= .sl sz h.length 0 k k∧J=h++[.cells sz cs]):=by
 intro F H φ n S Q;have P:=(iU.none qZ id h).ok S;refine (q _ H _ n P (D.ok S Q)).mono ?_;rintro x m ⟨r,U,X,j,⟨rfl,rfl,o,R⟩,G,u,T⟩
 have y:∀{V:Nat→Prop} {x:Nat} {F:Nat→Prop} {φ:Nat→Nat},¬ im ⟨F,H,φ,[]⟩ V x:=by
  rintro V x F φ ⟨b,_,s,_⟩;have:=aW s;simp at this
 have no:∀{b:Nat} {F:Nat→Prop} {φ:Nat→Nat},¬ aY (Cx.mk F H φ []).h b:=fun s=>by have:=aW s;simp at this
 have same:∀x,x<H.nx→m.get x=H.get x:=fun x i=>T.out x i y
 have new:∀b,aY [PB.cells sz cs] b→H.nx≤j b:=fun b g=>by
  rcases T.loc b g with q|⟨q,_⟩
  ·exact q
  ·exact absurd q no
 have t:eK ⟨F,m,j,[.cells sz cs]⟩:={
  wf:=u.wf
  fz:=fun x i=>avD (S.fz x i) T.nx
  inj:=u.inj
  aX:=fun b z K e v=>by
   obtain ⟨n,C,B,A,_⟩:=u.aX b z K e v;refine ⟨n,C,?_,A,fun q=>?_⟩
   ·cases b with
    |zero=>simp at e;obtain ⟨_,rfl⟩:=e;exact oy I B
    |succ b=>simp at e
   ·have:=S.fz _ q
    have:=new b (cz e v);dsimp only at*;omega
  Ae:=fun b es e=>by
   cases b with
   |zero=>simp at e
   |succ b=>simp at e}
 have M:dR 0 qZ ⟨F,H,φ,[]⟩ ⟨F,m,j,[.cells sz cs]⟩:={
  n0:=T.n0
  nx:=T.nx
  fz:=fun x i=>⟨i,same x (S.fz x i)⟩
  fo:=fun _ _ _ h=>h
  out:=fun x i _=>same x i
  loc:=fun b g=>.inl (new b g)
  len:=fun _=>avI _
  le:=fun b g=>absurd g (avG _)
  vP:=fun b g=>absurd g (avG _)
  wz:=fun b g=>absurd g (avG _)}
 obtain ⟨N,L⟩:=Ew (W:=(· ∈[])) S t M
 have p:RV ⟨F,m,j,[.cells sz cs]⟩ (.sl sz 0 0 k k) x:=by
  cases G with|sl a b c d=>exact .sl a b c d
 have l:=Eu (φ:=φ) (h:=h) p;refine ⟨_,_,F,join h φ j,⟨rfl,rfl⟩,?_,?_,?_⟩
 ·have e:sh h.length (.sl sz 0 0 k k)= .sl sz h.length 0 k k:=by simp
  rw [e]at l
  simpa [uT,jP _ o]using l
 ·simpa [uT,jP _ o]using N
 ·simpa [uT,jP _ o]using L
section
variable{n:Nat} {Q:Ex→PF→PH→Prop} {ks:List Kp} {fr:PF} {h:PH} {m:Mp} {l:List AO} {d:Option Nat}
theorem pS {f:Nat} {«as»:List X} {args:List PV} {sz k:Nat} {cs:List PV} (q:Fo E O f args sz k cs) (a:mC qZ id h [] («as».map (fX fr)) args) (b:kB cs=true) (next:PK E O n Q (.ops (m.up [] (fr.aT d (.sl sz h.length 0 k k)) (h++[.cells sz cs])) l ks) (fr.aT d (.sl sz h.length 0 k k)) (h++[.cells sz cs])):PK E O n Q (.ops m (⟨none,d,.call f «as»⟩::l) ks) fr h:=
 kv (W:=[]) rfl ((fM.ak7 q b a).mono (by rintro c e ⟨rfl,rfl⟩;exact next))
end
end P
namespace P
open Go Go.RowKit
section
variable{T:Type} {enc:TypeId×Value→T} {P:Program} {W:World}
def F0 (W:World):Nat→Prop:=fun b=>b<W.heap.size
theorem st0 (W:World) (φ:Nat→Nat):eK ⟨F0 W,H0 W,φ,[]⟩where
 wf:=avk _
 fz:=fun x a=>a
 inj:=fun b c s=>by have:=aW s;simp at this
 aX:=fun b z cs e=>by simp at e
 Ae:=fun b es e=>by simp at e
def SlC (v:Value):Prop:=∃a n c,v= .slice a n c∧n≤c∧(c=0∨∀x,a=some x→x.spot=none)
theorem Gz {n0:Nat} {c v:Value} (h:c= .slice none 0 0∨∃a len cap,c= .slice (some a) len cap∧len≤cap) (b:bw n0 c=some v):SlC v:=by
 rcases h with rfl|⟨a,len,cap,rfl,f⟩
 ·simp [bw,flat]at b;subst b;exact ⟨_,_,_,rfl,avk _,.inl rfl⟩
 ·simp only [bw]at b
  cases d:(decide (a.block<n0)&&a.spot.isNone)with
  |true=>rw [d]at b;simp only [cond_true,avh]at b;subst b;exact ⟨_,_,_,rfl,f,.inr fun x e=>by cases e;simp only [avj]at d;exact Option.isNone_iff_eq_none.1 d.2⟩
  |false=>
   rw [d]at b;simp only [cond_false]at b
   cases h2:Nat.beq len 0 with
   |true=>rw [h2]at b;simp only [cond_true,avh]at b;subst b;exact ⟨_,_,_,rfl,avk _,.inl rfl⟩
   |false=>rw [h2]at b;simp at b
theorem ak8 {b z:Nat} {c:List Value} (h:(H0 W).get b=some (.cells z c)):z=1048576:=by
 have h2:vZ W b=some (.cells z c):=by
  rw [AH.fN (AH.bc h)]at h;rw [←BF];exact h
 unfold vZ at h2;split at h2
 ·cases h2;rfl
 ·cases h2
theorem ak9 {b o sz:Nat} {r:List Value} (h:(H0 W).ldn ⟨b,o,none⟩ sz=some r) (hs:sz≤1048576):F0 W b∧(H0 W).lS b sz=true:=by
 unfold AH.ldn at h;split at h
 ·rename_i z c _ e
  have:=ak8 e;refine ⟨AH.bc e,?_⟩;unfold AH.lS;rw [show(H0 W).get b=_ from e];exact decide_eq_true (by omega)
 ·cases h
theorem Cz {α:Type} {F:Nat→Prop} {H:AH} {d:α→List PV} {ok:α→Prop}:∀{rows:List (List Value)} {ys:List α},gC (fun l y=>ju F H (d y) l∧ok y) rows ys→lR F H (ys.map d) rows∧∀y∈ys,ok y
 |_,_, .nil=>⟨.nil,by simp⟩
 |_,_, .cons a b=>⟨.cons a.1 (Cz b).1,fun y c=>by
    rcases avy.1 c with rfl|c
    · exact a.2
    · exact (Cz b).2 y c⟩
theorem wE {α:Type} (g:α→List PV) {ok:α→Prop} {t e:TypeId} {fuel:Nat} {c:Value} {d:DataW T} (w:P.underlying t=some (.slice e)) (L:0<P.cellsOf e) (p:P.cellsOf e≤1048576) (s:0<P.bytesOf e)
 (h:Rd enc P W fuel t [c] d) (G:zN P t d) (rd:∀m D B,m<fuel→Rd enc P W m e D B→zN P e B→∃l y,aS W.heap.size D=some l∧ju (F0 W) (H0 W) (g y) l∧ok y):
 ∃(v:Value) (ys:List α),aS W.heap.size [c]=some [v]∧RF (F0 W) (H0 W) (.fs (P.cellsOf e) (ys.map g)) v∧(∀y∈ys,ok y)∧ys.length*P.bytesOf e≤reachBytes:=by
 obtain ⟨v,rows,ys,f,A,u,N⟩:=OE (C:=fun l y=>ju (F0 W) (H0 W) (g y) l∧ok y) w L s h G rd;obtain ⟨F,E⟩:=Cz u
 have I:SlC v:=by
  obtain ⟨ps,h⟩:=h;simp only [aS]at f
  cases h2:bw W.heap.size c with
  |none=>rw [h2]at f;simp at f
  |some x=>
   rw [h2]at f;simp only [avh,List.cons.injEq,and_true]at f;subst f;refine Gz ?_ h2;rcases DataW.trod_slice w h with⟨e,_⟩|⟨a,len,cap,_,_,_,_,e,_,_,j,_⟩
   ·simp only [List.cons.injEq,and_true]at e;exact .inl e
   ·simp only [List.cons.injEq,and_true]at e;exact .inr ⟨a,len,cap,e,j⟩
 refine ⟨v,ys,f,?_,E,by rw [←u.length];exact N⟩;obtain ⟨a,n,S,rfl,K,H⟩:=I;have O:=A;obtain ⟨V,U,e,k⟩:=A.is;cases e;have i:(ys.map g).length=rows.length:=by rw [List.length_map,u.length]
 have:RF (F0 W) (H0 W) (.fs (P.cellsOf e) (ys.map g)) (.slice a (ys.map g).length S):=by
  refine .fs (by rw [i];exact O) (by rw [i];exact K) (fun d z=>⟨?_,?_⟩) F
  ·rcases H with q|q
   ·exact .inr q
   ·exact .inl (q d z)
  ·rw [i]
   by_cases M:rows.length=0
   ·exact .inl M
   ·obtain ⟨r,J⟩:∃r,rows[0]?=some r:=⟨_,avg (by omega)⟩
    obtain ⟨b,o,R,Q⟩:=k 0 r J;subst R;cases z;exact .inr (ak9 Q p)
 rw [i]at this;exact this
end
end P
set_option maxRecDepth 10000
namespace P
open Go Go.RowKit
mutual
def iG:ch→List PV
 | .mk op n cp args=>[pi op,pi n,pi cp,.fs 4 (iJ args)]
def iJ:List ch→List (List PV)
 |[]=>[]
 |e::l=>iG e::iJ l
end
mutual
def bQ:bF→List PV
 | .mk op n args thn els=>[pi op,pi n,.fs 4 (iJ args),.fs 5 (iK thn),.fs 5 (iK els)]
def iK:List bF→List (List PV)
 |[]=>[]
 |e::l=>bQ e::iK l
end
theorem lO:∀l:List ch,iJ l=l.map iG
 |[]=>rfl
 |_::l=>by simp [iJ,lO l]
theorem jZ:∀l:List bF,iK l=l.map bQ
 |[]=>rfl
 |_::l=>by simp [iK,jZ l]
@[simp]theorem PJ (l:List ch):(iJ l).length=l.length:=by simp [lO]
@[simp]theorem PL (l:List bF):(iK l).length=l.length:=by simp [jZ]
@[simp]theorem XN (l:List ch) (i:Nat):(iJ l)[i]?=(l[i]?).map iG:=by simp [lO]
@[simp]theorem XO (l:List bF) (i:Nat):(iK l)[i]?=(l[i]?).map bQ:=by simp [jZ]
@[simp]theorem aby (e:ch):dN (iG e)=true:=by cases e;rfl
@[simp]theorem R8 (e:ch):(iG e).length=4:=by cases e;rfl
@[simp]theorem R9 (e:bF):(bQ e).length=5:=by cases e;rfl
@[simp]theorem XP (e:ch):(iG e).take 4=iG e:=avn (by simp)
def As (v:Vr):List PV:=[ps v.name,pi v.level,pi v.cells]
abbrev mD (l:List Vr):PV:=.fs 3 (l.map As)
def au (p:aU):List PV:=[pi p.w,mD p.vars,.fs 5 (iK p.body)]
def cH (t:dW):List PV:=[jh t.store,jh t.bN]
abbrev PM (l:List (List Int)):PV:=.fs 1 (l.map fun s=>[jh s])
@[simp]theorem abz (p:aU):dN (au p)=true:=rfl
@[simp]theorem abA (p:dW):dN (cH p)=true:=rfl
@[simp]theorem XQ (p:List Vr):rJ (mD p)=true:=rfl
@[simp]theorem abB (p:List (List Int)):rJ (PM p)=true:=rfl
mutual
def Hw:ch→Prop
 | .mk op n cp args=>lC op∧lC n∧lC cp∧args.length<2^60∧CA args
def CA:List ch→Prop
 |[]=>True
 |e::l=>Hw e∧CA l
end
mutual
def EB:bF→Prop
 | .mk op n args thn els=>lC op∧lC n∧args.length<2^60∧thn.length<2^60∧els.length<2^60∧CA args∧x9 thn∧x9 els
def x9:List bF→Prop
 |[]=>True
 |e::l=>EB e∧x9 l
end
def gZ (p:aU):Prop:=lC p.w∧pE p.vars∧x9 p.body∧p.body.length<2^60
def CB (t:dW):Prop:=t.store.length<2^60∧t.bN.length<2^60∧(∀n∈t.store,lC n)∧∀n∈t.bN,lC n
theorem Au:∀{l:List ch},CA l→∀e∈l,Hw e
 |_::_,h,e,a=>by
  rcases avy.1 a with rfl|a
  ·exact h.1
  ·exact Au h.2 e a
section
variable{F:Nat→Prop} {H:AH}
theorem ji {sz:Nat} {rows:List (List PV)} {x:Value} (h:RF F H (.fs sz rows) x):∃rs,Rows H sz x rs∧lR F H rows rs∧∃a c,x= .slice a rows.length c:=by
 cases h with|fs d e f b=>exact ⟨_,d,b,_,_,rfl⟩
mutual
theorem yd:∀{e:ch} {c:List Value},Hw e→ju F H (iG e) c→oV H c e
 | .mk op n i args,c,ok,h=>by
  simp only [iG]at h
  cases h with|cons g h=>
  cases h with|cons f h=>
  cases h with|cons h2 h=>
  cases h with|cons d h=>
  cases h;cases g;cases f;cases h2;obtain ⟨rs,b,a,_⟩:=ji d;simp only [Hw]at ok;exact .mk ok.1 ok.2.1 ok.2.2.1 ok.2.2.2.1 b (yf ok.2.2.2.2 a)
theorem yf:∀{l:List ch} {rs:List (List Value)},CA l→lR F H (iJ l) rs→gY H rs l
 |[],rs,_,h=>by cases h;exact .nil
 |e::l,rs,ok,h=>by
  simp only [iJ]at h
  cases h with|cons a b=>
  exact .cons (yd ok.1 a) (yf ok.2 b)
end
mutual
theorem VM:∀{e:bF} {c:List Value},EB e→ju F H (bQ e) c→pF H c e
 | .mk op n args a p,c,ok,h=>by
  simp only [bQ]at h
  cases h with|cons o h=>
  cases h with|cons m h=>
  cases h with|cons h2 h=>
  cases h with|cons l h=>
  cases h with|cons k h=>
  cases h;cases o;cases m;obtain ⟨r,j,g,_⟩:=ji h2;obtain ⟨rt,b,d,_⟩:=ji l;obtain ⟨q,i,f,_⟩:=ji k;simp only [EB]at ok;exact .mk ok.1 ok.2.1 ok.2.2.1 ok.2.2.2.1 ok.2.2.2.2.1 j (yf ok.2.2.2.2.2.1 g) b (qN ok.2.2.2.2.2.2.1 d) i (qN ok.2.2.2.2.2.2.2 f)
theorem qN:∀{l:List bF} {rs:List (List Value)},x9 l→lR F H (iK l) rs→je H rs l
 |[],rs,_,h=>by cases h;exact .nil
 |e::l,rs,ok,h=>by
  simp only [iK]at h
  cases h with|cons a b=>
  exact .cons (VM ok.1 a) (qN ok.2 b)
end
theorem kS {l:List Int} {x:Value} (h:RF F H (jh l) x):fC H x l:=by
 obtain ⟨rs,d,e,_⟩:=ji h
 have:∀{l:List Int} {rs:List (List Value)},lR F H (ir l) rs→rs=l.map fun n=>[.int .i64 n]:=by
  intro l
  induction l with
  |nil=>intro rs h;cases h;rfl
  |cons a l ih=>
   intro rs h;simp only [ir,List.map_cons]at h
   cases h with|cons a b=>
   cases a with|cons a c=>
   cases a;cases c;rw [ih b];rfl
 rw [this e]at d;exact d
theorem nB {l:List Vr} {x:Value} (h:RF F H (mD l) x):dI H x l:=by
 obtain ⟨rs,c,d,_⟩:=ji h
 have:∀{l:List Vr} {rs:List (List Value)},lR F H (l.map As) rs→rs=l.map Vr.row:=by
  intro l
  induction l with
  |nil=>intro rs h;cases h;rfl
  |cons a l ih=>
   intro rs h;simp only [As,List.map_cons]at h
   cases h with|cons h b=>
   cases h with|cons f h=>
   cases h with|cons e h=>
   cases h with|cons h2 h=>
   cases h;cases f;cases e;cases h2;rw [ih b];rfl
 rw [this d]at c;exact c
theorem GA {l:List (List Int)} {x:Value} (h:RF F H (PM l) x):eO H x l:=by
 obtain ⟨rs,d,c,_⟩:=ji h;refine ⟨rs,d,?_⟩
 have:∀{l:List (List Int)} {rs:List (List Value)},lR F H (l.map fun s=>[jh s]) rs→gC (fun r s=>∃v,r=[v]∧fC H v s) rs l:=by
  intro l
  induction l with
  |nil=>intro rs h;cases h;exact .nil
  |cons a l ih=>
   intro rs h;simp only [List.map_cons]at h
   cases h with|cons h b=>
   cases h with|cons e h=>
   cases h;exact .cons ⟨_,rfl,kS e⟩ (ih b)
 exact this c
theorem yg {p:aU} {c:List Value} (ok:gZ p) (h:ju F H (au p) c):ru H c p:=by
 simp only [au]at h
 cases h with|cons e h=>
 cases h with|cons d h=>
 cases h with|cons h2 h=>
 cases h;cases e;obtain ⟨rs,b,a,_⟩:=ji h2;exact ⟨_,_,_,rfl,ok.1,nB d,ok.2.1,b,qN ok.2.2.1 a,ok.2.2.2⟩
theorem KW {t:dW} {c:List Value} (ok:CB t) (h:ju F H (cH t) c):zy H c t:=by
 simp only [cH]at h
 cases h with|cons b h=>
 cases h with|cons a h=>
 cases h;exact ⟨_,_,rfl,kS b,kS a,ok⟩
theorem GB {C:Cx} {sz:Nat} {rows:List (List PV)} {x:Value} (h:RV C (.fs sz rows) x):RF C.F C.H (.fs sz rows) x:=by cases h;assumption
theorem Sa {C:Cx}:∀{ps:List PV} {xs:List Value},ps.all tn=true→dA C ps xs→ju C.F C.H ps xs
 |[],_,_,.nil=>.nil
 |p::ps,_,h,.cons a b=>by
  simp only [List.all_cons,avj]at h;refine .cons ?_ (Sa h.2 b)
  cases p<;>first
   |(simp [tn]at h;done)
   |(cases a;exact .v _)
   |exact GB a
theorem pj {C:Cx} {ps:List PV} {x:Value} (b:ps.all tn=true) (h:RV C (.agg ps) x):∃c,x= .agg c.toArray∧ju C.F C.H ps c:=by
 cases h with|agg a=>exact ⟨_,rfl,Sa b a⟩
end
@[simp]theorem abC (e:ch):(iG e).all tn=true:=by cases e;rfl
@[simp]theorem abD (e:bF):(bQ e).all tn=true:=by cases e;rfl
@[simp]theorem abE (p:aU):(au p).all tn=true:=rfl
@[simp]theorem abF (p:dW):(cH p).all tn=true:=rfl
theorem Fz.kD {f:Nat} {args:List PV} {y:Value} (k:∀F H φ vs,H.n0≤H.nx→dA ⟨F,H,φ,[]⟩ args vs→Ca E O f vs H (fun x H'=>x=y∧Ext H H')):Fz E O f args (.v y):=by
 intro F H φ vs S d;refine (k F H φ vs S.wf d).mono ?_;rintro x H' ⟨rfl,X⟩
 have T:dR 0 qZ ⟨F,H,φ,[]⟩ ⟨F,H',φ,[]⟩:=⟨X.n0,X.nx,fun x c=>⟨c,X.old x (S.fz x c)⟩,fun _ _ _ h=>h,fun x c _=>X.old x c,fun b a=>absurd (aW a) (avG _),fun _=>avk _,fun b a=>absurd a (avG _),fun b a=>absurd a (avG _),fun b a=>absurd a (avG _)⟩
 exact ⟨_,[],F,φ,⟨rfl,rfl,rfl⟩,.v _,⟨X.wf S.wf,fun x c=>avD (S.fz x c) X.nx,fun b g s=>absurd (aW s) (avG _),fun b z cs e=>by simp at e,fun b es e=>by simp at e⟩,T⟩
theorem Fo.kD {f:Nat} {args:List PV} {sz:Nat} {rows:List (List Value)} (A:0<sz) (k:∀F H φ vs,H.n0≤H.nx→dA ⟨F,H,φ,[]⟩ args vs→Ca E O f vs H (fun x H'=>dU H' sz x rows∧Ext H H'∧∀b,aX x b→H.nx≤b)):Fo E O f args sz rows.length (rows.flatten.map .v):=by
 intro F H φ vs S y;refine (k F H φ vs S.wf y).mono ?_;rintro x H' ⟨o,X,c⟩;have d:(rows.flatten.map PV.v).length=rows.length*sz:=by rw [List.length_map,cJ o.len]
 obtain ⟨a,n⟩:∃a:Nat,(rows≠[]→x= .slice (some ⟨a,0,none⟩) rows.length rows.length∧H'.get a=some (.cells sz rows.flatten)∧H.nx≤a∧H'.n0≤a):=by
  rcases o.is with⟨_,rfl⟩|⟨a,rfl,u,q⟩
  ·exact ⟨0,fun h=>absurd rfl h⟩
  ·exact ⟨a,fun _=>⟨rfl,q,c a ((bJ _ _ _ _ _).2 rfl),u⟩⟩
 have one:∀{b:Nat} {P:PB},[PB.cells sz (rows.flatten.map .v)][b]?=some P→b=0∧P= .cells sz (rows.flatten.map .v):=by
  intro b P e
  cases b with
  |zero=>simp only [avf,avh]at e;exact ⟨rfl,e.symm⟩
  |succ b=>simp at e
 have g:∀{b:Nat},aY [PB.cells sz (rows.flatten.map .v)] b→b=0∧rows≠[]:=by
  intro b s;rcases lL s with⟨es,e⟩|⟨z,cs,e,m⟩
  ·have:=(one e).2;cases this
  ·obtain ⟨rfl,l⟩:=one e
   cases l;exact ⟨rfl,by rintro rfl;exact m rfl⟩
 have T:dR 0 qZ ⟨F,H,φ,[]⟩ ⟨F,H',fun _=>a,[.cells sz (rows.flatten.map .v)]⟩:=⟨X.n0,X.nx,fun x i=>⟨i,X.old x (S.fz x i)⟩,fun _ _ _ h=>h,fun x i _=>X.old x i,fun b c=>.inl (n (g c).2).2.2.1,fun _=>avI _,fun b c=>absurd c (avG _),fun b c=>absurd c (avG _),fun b c=>absurd c (avG _)⟩
 refine ⟨_,_,F,fun _=>a,⟨rfl,rfl,?_,d⟩,?_,⟨X.wf S.wf,fun x i=>avD (S.fz x i) X.nx,fun b C s p _=>by rw [(g s).1,(g p).1],fun b z cs e m=>?_,fun b es e=>?_⟩,T⟩
 ·rw [nz];simp
 ·refine .sl ?_ (by simp) (fun z cs e=>?_) (fun _=>?_)
  ·rcases o.is with⟨rfl,w⟩|⟨_,rfl,_⟩
   ·exact ⟨none,0,by rw [w];rfl⟩
   ·exact ⟨_,_,rfl⟩
  ·obtain ⟨_,l⟩:=one e
   cases l;rw [d];simp
  ·by_cases j:rows=[]
   ·subst j
    refine .inl ⟨rfl,rfl,?_⟩;rcases o.is with⟨rfl,_⟩|⟨b,rfl,_⟩
    ·exact ⟨none,rfl,by simp⟩
    ·exact ⟨_,rfl,by rintro e ⟨⟩;rfl⟩
   ·exact .inr ⟨List.length_pos_iff.2 j,by rw [(n j).1];simp⟩
 ·obtain ⟨rfl,l⟩:=one e
  cases l;have j:rows≠[]:=by rintro rfl;exact m rfl
  obtain ⟨_,h2,B,t⟩:=n j;exact ⟨rows.flatten,h2,dA.lits _,t,fun r=>by have:=S.fz _ r;dsimp only at this;omega⟩
 ·have:=(one e).2;cases this
end P
namespace P
open Go Go.RowKit
theorem kT {α:Type} {x:α}:∀{l:List α} {k:Nat},k<l.length→vQ l k [x]=l.set k x
 |[],k,h=>by simp at h
 |y::l,0,_=>by simp [vQ]
 |y::l,k+1,h=>by simp [vQ,kT (l:=l) (k:=k) (by simpa using h)]
@[simp]theorem PN (l:List Int):dN (l.map pi)=true:=by rw [nz];simp
theorem iy (l:List Int):(a7 l).flatten.map PV.v=l.map pi:=by
 induction l with
 |nil=>rfl
 |cons a l ih=>simp_all [a7]
theorem uX {l:List Int} (c:l.length≤2^40):Fo E O 27 [jh l] 1 l.length (l.map pi):=by
 have:=Fo.kD (f:=27) (args:=[jh l]) (rows:=a7 l) Nat.one_pos (fun F H e g w d=>by
  cases d with|cons a b=>
  cases b
  exact JE w (kS (GB a)) c)
 rw [iy]at this
 simpa [a7]using this
theorem EC (b:Bool):Fz E O 63 [pb b] (pi (if b then 1 else 0)):=by
 refine Fz.body (F:=TM) rfl rfl rfl rfl ?_;cases b
 ·simp (maxSteps:=9^7)-implicitDefEqProofs+contextual [-getElem?_pos,avf,TM]
 ·simp (maxSteps:=9^7)-implicitDefEqProofs+contextual [-getElem?_pos,avf,TM]
theorem abG {l:List Int} {k:Nat} {a:Int} (c:l.length≤2^40) (b:k<l.length):Fo E O 152 [jh l,pi k,pi a] 1 l.length ((l.set k a).map pi):=by
 refine Fo.body (F:=a152) rfl rfl rfl (PN _) (by simp) ?_;simp (maxSteps:=9^7)-implicitDefEqProofs+contextual [-getElem?_pos,avf,a152];refine qL (uX c) ?_ ?_ ?_
 iterate 2· simp (maxDischargeDepth:=8)-implicitDefEqProofs [-getElem?_pos,avf]
 simp (maxSteps:=9^7)-implicitDefEqProofs+contextual [-getElem?_pos,avf,b,kT];omega
theorem alb {w n i:Int} {V:List Vr} (f:aC w V=true) (e:0≤n∧n<V.length) (hi:0≤i∧i<2^40):Fz E O 121 [mD V,pi n,pi i] (pi (bl V n+i%aq V n)):=
 Fz.kD fun F H g h w d=>by
  cases d with|cons a d=>
  cases d with|cons b d=>
  cases d with|cons c d=>
  cases d;cases b;cases c;refine (JJ (nB (GB a)) f e hi).mono ?_;rintro x j ⟨rfl,rfl⟩;exact ⟨rfl,Ext.refl _⟩
theorem PQ {w:Int} {V:List Vr} {S:List (List Int)} {e:ch} (j:aC w V=true) (k:Bd w V S) (ok:Hw e) (h:dq w V S.length e=true):Fz E O 90 [pi w,mD V,PM S,.agg (iG e)] (pi (a6 w V S e)):=
 Fz.kD fun F H l m g f=>by
  cases f with|cons a f=>
  cases f with|cons b f=>
  cases f with|cons c f=>
  cases f with|cons d f=>
  cases f;cases a;obtain ⟨cs,rfl,i⟩:=pj (by simp) d;exact zT j k _ e cs H (avv _) g (nB (GB b)) (GA (GB c)) (yd ok i) h
theorem PR {e:ch} (ok:Hw e) (c:aA e<2^60):Fz E O 91 [.agg (iG e)] (pi (aA e)):=
 Fz.kD fun F H g h b a=>by
  cases a with|cons d a=>
  cases a;obtain ⟨cs,rfl,f⟩:=pj (by simp) d;exact Gf _ e cs H (avv _) b (yd ok f) c
theorem e8:∀l:List bF,(l.length:Int)≤av l
 |[]=>by simp [av]
 |s::l=>by
  have:=e8 l;have:=kO s;rw [av,List.length_cons];omega
def yT (l:List Ev):List (List PV):=l.map fun e=>[pi e.kind,pi e.at_,pi e.val]
def tp (l:List (Int×Int)):List (List PV):=l.map fun e=>[pi e.1,pi e.2]
def vG (l:List kJ):List (List PV):=l.map fun it=>pi it.1::bQ it.2
def rN (l:List Ev):List PV:=(yT l).flatten
@[simp]theorem PT:rN []=[]:=rfl
@[simp]theorem qO (a:Ev) (l:List Ev):rN (a::l)=[pi a.kind,pi a.at_,pi a.val]++rN l:=by simp [rN,yT]
theorem aI (a b:List Ev):rN (a++b)=rN a++rN b:=by simp [rN,yT]
@[simp]theorem VN (l:List Ev):(yT l).length=l.length:=by simp [yT]
@[simp]theorem CC:∀l:List Ev,(rN l).length=l.length*3
 |[]=>rfl
 |a::l=>by rw [qO,avp,CC l];simp;omega
@[simp]theorem yh:∀l:List Ev,(rN l).all tn=true
 |[]=>rfl
 |a::l=>by rw [qO,List.all_append,yh l];simp [tn]
@[simp]theorem aeW (l:List Ev):dN (rN l)=true:=qK (yh l)
def rm (l:List (Int×Int)):List PV:=(tp l).flatten
@[simp]theorem aeX:rm []=[]:=rfl
@[simp]theorem Av (a:(Int×Int)) (l:List (Int×Int)):rm (a::l)=[pi a.1,pi a.2]++rm l:=by simp [rm,tp]
theorem aJ (a b:List (Int×Int)):rm (a++b)=rm a++rm b:=by simp [rm,tp]
@[simp]theorem VP (l:List (Int×Int)):(tp l).length=l.length:=by simp [tp]
@[simp]theorem CD:∀l:List (Int×Int),(rm l).length=l.length*2
 |[]=>rfl
 |a::l=>by rw [Av,avp,CD l];simp;omega
@[simp]theorem yi:∀l:List (Int×Int),(rm l).all tn=true
 |[]=>rfl
 |a::l=>by rw [Av,List.all_append,yi l];simp [tn]
@[simp]theorem aeY (l:List (Int×Int)):dN (rm l)=true:=qK (yi l)
def oM (l:List kJ):List PV:=(vG l).flatten
@[simp]theorem aeZ:oM []=[]:=rfl
@[simp]theorem Aw (a:kJ) (l:List kJ):oM (a::l)=(pi a.1::bQ a.2)++oM l:=by simp [oM,vG]
theorem aO (a b:List kJ):oM (a++b)=oM a++oM b:=by simp [oM,vG]
@[simp]theorem VQ (l:List kJ):(vG l).length=l.length:=by simp [vG]
@[simp]theorem CE:∀l:List kJ,(oM l).length=l.length*6
 |[]=>rfl
 |a::l=>by rw [Aw,avp,CE l];simp;omega
@[simp]theorem tq:∀l:List kJ,(oM l).all tn=true
 |[]=>rfl
 |a::l=>by rw [Aw,List.all_append,tq l];simp [tn]
@[simp]theorem ae0 (l:List kJ):dN (oM l)=true:=qK (tq l)
theorem KX {w:Int} {V:List Vr} {s:List Int} {e:ch} (m:aC w V=true) (n:bq w V s=true) (ok:Hw e) (j:dq w V 1 e=true) (i:aA e≤2^30):Fo E O 92 [pi w,mD V,jh s,.agg (iG e)] 3 (mF w V [s] e).length (rN (mF w V [s] e)):=by
 have:=Fo.kD (f:=92) (args:=[pi w,mD V,jh s,.agg (iG e)]) (rows:=dj (mF w V [s] e)) (show 0<3 by omega) (fun F H p q h g=>by
  cases g with|cons a g=>
  cases g with|cons b g=>
  cases g with|cons c g=>
  cases g with|cons d g=>
  cases g;cases a;obtain ⟨cs,rfl,k⟩:=pj (by simp) d
  exact Gg m n _ e cs H (avv _) h (nB (GB b)) (kS (GB c)) (yd ok k) j i)
 have o:∀l:List Ev,(dj l).flatten.map PV.v=rN l:=by
  intro l
  induction l with
  |nil=>rfl
  |cons a l ih=>simp_all [dj,Ev.row]
 rw [o,cY]at this;exact this
theorem yj:∀(N:Nat) (l:List bF),SizeOf.sizeOf l<N→av l<2^60→Fz E O 120 [.fs 5 (iK l)] (pi (ar l)):=by
 intro N
 induction N with
 |zero=>intro l h;omega
 |succ N ih=>
  intro l B z;refine Fz.body (F:=Nv) rfl rfl rfl rfl ?_;simp (maxSteps:=9^7)-implicitDefEqProofs+contextual [-getElem?_pos,avf,Nv];refine pP (fun i b h=>h=[]∧b.get 0= .fs 5 (iK l)∧b.get 4=pi i∧b.get 3=pi (ar (l.take i))) l.length ?_ ?_
  ·exact ⟨rfl,by simp,by simp,by simp [ar]⟩
  rintro i b h hi ⟨rfl,c,d,e⟩;by_cases h:i<l.length
  ·obtain ⟨⟨op,n,args,thn,els⟩,a⟩:∃y,l[i]?=some y:=⟨_,avg h⟩
   have v:=mY a;have o:=gV a;have u:=cy l i;have t:=aV l i;have s:=cy l (i+1);have r:=aV l (i+1);have q:=aK thn;have p:=aK els;have A:=pG (avl a);have x:=bH els;have w:=bH thn;have f:=e8 l;rw [bg]at o;have m:IntKind.i64.wrap (ar (l.take i)+1)=ar (l.take i)+1:=ai ⟨by omega,by omega⟩;have k:IntKind.i64.wrap (ar (l.take i)+1+ar thn)=ar (l.take i)+1+ar thn:=ai ⟨by omega,by omega⟩;have j:IntKind.i64.wrap (ar (l.take i)+1+ar thn+ar els)=ar (l.take i)+1+ar thn+ar els:=ai ⟨by omega,by omega⟩;have g:IntKind.i64.wrap ((i:Int)+1)=((i+1:Nat):Int):=ai ⟨by omega,by omega⟩;simp (maxSteps:=9^7)-implicitDefEqProofs+contextual [-getElem?_pos,avf,c,d,e,h,a,bQ,m];refine aF (ih thn (by omega) (by omega)) ?_ ?_ ?_
   iterate 2· simp (maxDischargeDepth:=8)-implicitDefEqProofs [-getElem?_pos,avf]
   simp (maxSteps:=9^7)-implicitDefEqProofs+contextual [-getElem?_pos,avf,k];refine aF (ih els (by omega) (by omega)) ?_ ?_ ?_
   iterate 2· simp (maxDischargeDepth:=8)-implicitDefEqProofs [-getElem?_pos,avf]
   simp (maxSteps:=9^7)-implicitDefEqProofs+contextual [-getElem?_pos,avf,j,c,d,e,g];refine .for h ⟨rfl,by simp [c],by simp,by simp;omega⟩
  ·simp (maxSteps:=9^7)-implicitDefEqProofs+contextual [-getElem?_pos,avf,c,d,e,h]
   rw [avn (by omega)]
open Go Go.RowKit
theorem uY:∀(l:List bF) (i:Nat) (k:Int) (s:bF),l[i]?=some s→bO (l.take (i+1)) k=bO (l.take i) k++[(k+ar (l.take i),s)]
 |[],i,k,s,h=>by simp at h
 | .mk b d e a c::l,0,k,s,h=>by
  simp at h;subst h;simp [bO,ar]
 | .mk b d e a c::l,i+1,k,s,h=>by
  simp only [List.take_succ_cons,bO,ar,bg];rw [uY l i _ s (by simpa using h)];simp only [List.cons_append];rw [show k+1+ar a+ar c+ar (l.take i)=k+(1+ar a+ar c+ar (l.take i)) by omega]
@[simp]theorem gq:∀(l:List bF) (k:Int),(bO l k).length=l.length
 |[],k=>rfl
 | .mk _ _ _ _ _::l,k=>by simp [bO,gq l]
theorem yk {l:List bF} {n0:Int} (C:av l<2^40) (D:0≤n0∧n0≤2^40):Fo E O 88 [.fs 5 (iK l),pi n0] 6 l.length (oM (bO l n0)):=by
 refine Fo.body (F:=a88) rfl rfl rfl (by simp) (by simp) ?_;have j:=e8 l;simp (maxSteps:=9^7)-implicitDefEqProofs+contextual [-getElem?_pos,avf,a88];refine dV (fun i b h=>h=[.cells 6 (oM (bO (l.take i) n0))]∧b.get 0= .fs 5 (iK l)∧b.get 1=pi (n0+ar (l.take i))∧b.get 5= .sl 6 0 0 i i∧b.get 6=pi i) l.length (Ct (h2:=[.cells 6 []]) (fun _=>False) id [(0,.fs 5 (iK l)),(1,pi n0),(5,.sl 6 0 0 0 0),(6,pi 0)] (iU.id' (by simp)) (by simp)) ?_ ?_
 ·simp [bO,ar]
 rintro i b h hi ⟨rfl,c,f,e,d⟩;by_cases h:i<l.length
 ·obtain ⟨s,a⟩:∃y,l[i]?=some y:=⟨_,avg h⟩
  have g:=uY l i n0 s a;obtain ⟨op,n,args,thn,els⟩:=s;have r:=gV a;have z:=cy l i;have x:=aV l i;have w:=cy l (i+1);have v:=aV l (i+1);have u:=aK thn;have t:=aK els;have G:=pG (avl a);have B:=bH els;have A:=bH thn;rw [bg]at r;have q:IntKind.i64.wrap (n0+ar (l.take i)+1)=n0+ar (l.take i)+1:=ai ⟨by omega,by omega⟩;have p:IntKind.i64.wrap (n0+ar (l.take i)+1+ar thn)=n0+ar (l.take i)+1+ar thn:=ai ⟨by omega,by omega⟩;have o:IntKind.i64.wrap (n0+ar (l.take i)+1+ar thn+ar els)=n0+ar (l.take i)+1+ar thn+ar els:=ai ⟨by omega,by omega⟩;have m:IntKind.i64.wrap ((i:Int)+1)=((i+1:Nat):Int):=ai ⟨by omega,by omega⟩;have k:(bO (l.take i) n0).length=i:=by simp;omega
  simp (maxSteps:=9^7)-implicitDefEqProofs+contextual [-getElem?_pos,avf,c,f,e,d,h,a,bQ];apply cj
  iterate 9· first|rfl|omega|(simp-implicitDefEqProofs [-getElem?_pos,avf,k];first|done|rfl|omega)
  simp (maxSteps:=9^7)-implicitDefEqProofs+contextual [-getElem?_pos,avf,c,f,e,d,h,a,bQ,q];refine aF (yj _ thn (avv _) (by omega)) ?_ ?_ ?_
  iterate 2· simp (maxDischargeDepth:=8)-implicitDefEqProofs [-getElem?_pos,avf]
  simp (maxSteps:=9^7)-implicitDefEqProofs+contextual [-getElem?_pos,avf,p];refine aF (yj _ els (avv _) (by omega)) ?_ ?_ ?_
  iterate 2· simp (maxDischargeDepth:=8)-implicitDefEqProofs [-getElem?_pos,avf]
  simp (maxSteps:=9^7)-implicitDefEqProofs+contextual [-getElem?_pos,avf,o,c,f,e,d,m];refine .ny h (Ct (h2:=[.cells 6 (oM (bO (l.take (i+1)) n0))]) (fun _=>False) id [(0,.fs 5 (iK l)),(1,pi (n0+ar (l.take i)+1+ar thn+ar els)),(5,.sl 6 0 0 (i+1) (i+1)),(6,pi (i+1:Nat))] (iU.id' ?_) ?_) ?_
  ·rw [g,aO];simp [bQ,aj]
  ·rw [g,aO];simp [c,k,bQ]
  ·simp;omega
 ·obtain rfl:i=l.length:=by omega
  simp (maxSteps:=9^7)-implicitDefEqProofs+contextual [-getElem?_pos,avf,c,f,e,d]
def fb (it:kJ):List PV:=pi it.1::bQ it.2
theorem KY {k op n:Int} {args:List ch} {thn els:List bF} (b:av thn<2^40) (c:0≤k∧k<2^40):Fo E O 127 [.agg (fb (k,.mk op n args thn els))] 6 thn.length (oM (bO thn (k+1))):=by
 refine Fo.body (F:=a127) rfl rfl rfl (by simp) (by simp) ?_;have a:IntKind.i64.wrap (k+1)=k+1:=ai ⟨by omega,by omega⟩;simp (maxSteps:=9^7)-implicitDefEqProofs+contextual [-getElem?_pos,avf,a127,fb,bQ,a];refine qL (yk b (n0:=k+1) (by omega)) ?_ ?_ ?_
 iterate 2· simp (maxDischargeDepth:=8)-implicitDefEqProofs [-getElem?_pos,avf]
 simp (maxSteps:=9^7)-implicitDefEqProofs+contextual [-getElem?_pos,avf]
theorem KZ {k op n:Int} {args:List ch} {thn els:List bF} (c:av els<2^40) (e:av thn<2^36) (f:0≤k∧k<2^36):Fo E O 126 [.agg (fb (k,.mk op n args thn els))] 6 els.length (oM (bO els (k+1+ar thn))):=by
 refine Fo.body (F:=Nz) rfl rfl rfl (by simp) (by simp) ?_;have d:=aK thn;have b:IntKind.i64.wrap (k+1)=k+1:=ai ⟨by omega,by omega⟩;have a:IntKind.i64.wrap (k+1+ar thn)=k+1+ar thn:=ai ⟨by omega,by omega⟩;simp (maxSteps:=9^7)-implicitDefEqProofs+contextual [-getElem?_pos,avf,Nz,fb,bQ,b];refine aF (yj _ thn (avv _) (by omega)) ?_ ?_ ?_
 iterate 2· simp (maxDischargeDepth:=8)-implicitDefEqProofs [-getElem?_pos,avf]
 simp (maxSteps:=9^7)-implicitDefEqProofs+contextual [-getElem?_pos,avf,a];refine qL (yk c (n0:=k+1+ar thn) (by omega)) ?_ ?_ ?_
 iterate 2· simp (maxDischargeDepth:=8)-implicitDefEqProofs [-getElem?_pos,avf]
 simp (maxSteps:=9^7)-implicitDefEqProofs+contextual [-getElem?_pos,avf]
def cF (c:dY) (b0 b1 b2 b3:Nat):List PV:=[pi c.en,.sl 1 b0 0 c.store.length c.store.length,.sl 2 b1 0 c.outs.length c.outs.length,.sl 3 b2 0 c.trace.length c.trace.length,pi c.cost,pi c.used,pi c.wh,pi c.fuel,.sl 6 b3 0 c.todo.length c.todo.length,pb c.over]
def gE (c:dY):PH:=[.cells 1 (c.store.map pi),.cells 2 (rm c.outs),.cells 3 (rN c.trace),.cells 6 (oM c.todo)]
theorem qP {c:dY} {k a v:Int} (b:c.trace.length<2^40):fM E O 125 [.agg (cF c 0 1 2 3),pi k,pi a,pi v] (gE c) (fun r h=>r= .agg (cF {c with trace:=c.trace++[⟨k,a,v⟩]} 0 1 2 3)∧h=gE {c with trace:=c.trace++[⟨k,a,v⟩]}):=by
 refine fM.body (F:=Ny) rfl rfl rfl ?_;simp (maxSteps:=9^7)-implicitDefEqProofs+contextual [-getElem?_pos,avf,Ny,cF,gE];apply cj
 iterate 9· first|rfl|omega|(simp-implicitDefEqProofs [-getElem?_pos,avf];first|done|rfl|omega)
 simp (maxSteps:=9^7)-implicitDefEqProofs+contextual [-getElem?_pos,avf];simp only [aI,qO,PT,List.append_nil];refine Px (m:=4) ?_ ?_ ?_ ?_
 ·omega
 ·simp
 ·simp (maxDischargeDepth:=8)-implicitDefEqProofs [aj,avf]
 ·simp (maxDischargeDepth:=8)-implicitDefEqProofs [aj,avf]
theorem yl {c:dY} {e n:Int}:fM E O 89 [.agg (cF c 0 1 2 3),pi e,pi n] (gE c) (fun r h=>r= .agg (cF (dZ c e n) 0 1 2 4)∧h=gE c++[.cells 6 []]):=by
 refine fM.body (F:=a89) rfl rfl rfl ?_;simp (maxSteps:=9^7)-implicitDefEqProofs+contextual [-getElem?_pos,avf,a89,cF,gE,dZ];refine KS (iU.id' ?_) ?_ ?_ (fun b a=>?_)
 ·simp (maxDischargeDepth:=8)-implicitDefEqProofs [aj,avf]
 ·simp (maxDischargeDepth:=8)-implicitDefEqProofs [aj,avf]
 ·simp
 ·have:b=0∨b=1∨b=2∨b=3:=by omega
  rcases this with rfl|rfl|rfl|rfl<;>simp [dh]
end P
namespace P
open Go Go.RowKit
theorem ED {p:aU} {c:dY} {op n:Int} {args:List ch} {thn els:List bF} {i a:Int} (d:aC p.w p.vars=true) (q:bq p.w p.vars c.store=true) (e:0≤n∧n<p.vars.length) (hi:0≤i∧i<2^40) (j:c.trace.length<2^40):
 fM E O 124 [.agg (au p),.agg (cF c 0 1 2 3),.agg (bQ (.mk op n args thn els)),pb (decide (1<aq p.vars n)),pi i,pi a] (gE c) (fun r h=>r= .agg (cF (gh p.vars c n i a) 4 1 2 3)∧h=[.dead,.cells 2 (rm c.outs),.cells 3 (rN (gh p.vars c n i a).trace),.cells 6 (oM c.todo),.cells 1 ((gh p.vars c n i a).store.map pi)]):=by
 have u:1≤p.w∧p.w≤8:=⟨(aD d).1,(aD d).2.1⟩
 have L:=oh d e i;obtain ⟨x,t,I,H,G⟩:=jq u q (i:=bl p.vars n+i%aq p.vars n) (by omega);have K:=(avm.1 t).1
 obtain ⟨y,o⟩:∃y,p.vars[n.toNat]?=some y:=⟨_,avg (by omega)⟩
 have C:aq p.vars n=y.cells:=by simp [aq,o]
 have s:¬ y.cells=0:=by omega
 have m:=iQ (a:=i) (b:=y.cells) hi.1;rw [if_neg s]at m
 have z:c.store.length≤2^40:=by
  simp only [bq,avj,avs]at q;have:=(iR d).2.2;omega
 obtain ⟨k,B⟩:∃k:Nat,(k:Int)=bl p.vars n+i%aq p.vars n:=⟨(bl p.vars n+i%aq p.vars n).toNat,by omega⟩
 refine fM.body (F:=a124) rfl rfl rfl ?_;simp (maxSteps:=9^7)-implicitDefEqProofs+contextual [-getElem?_pos,avf,a124,cF,gE,au,bQ];refine aF (alb d e hi) ?_ ?_ ?_
 iterate 2· simp (maxDischargeDepth:=8)-implicitDefEqProofs [-getElem?_pos,avf]
 simp (maxSteps:=9^7)-implicitDefEqProofs+contextual [-getElem?_pos,avf];rw [←B];refine VG [0] (abG z (k:=k) (a:=a) (by omega)) ?_ ?_
 ·simp (maxDischargeDepth:=8)-implicitDefEqProofs [-getElem?_pos,avf]
 simp (maxSteps:=9^7)-implicitDefEqProofs+contextual [-getElem?_pos,avf,bR,e.1,e.2,o,As,Kc,m];have g:(bl p.vars n+i%aq p.vars n).toNat=k:=by omega
 have A:(c.store.set (bl p.vars n+i%aq p.vars n).toNat a).map pi=(c.store.map pi).set k (pi a):=by rw [List.map_set,g]
 refine zz (fun l=>?_) (fun l=>?_)
 ·refine dt [8,1,2,3] [] (qP (c:={c with store:=c.store.set k a}) (k:=2) (a:=n) (v:=i%y.cells) j) ?_ ?_ ?_ ?_ ?_ ?_ ?_
  iterate 6· first|rfl|simp (maxDischargeDepth:=8)-implicitDefEqProofs [-getElem?_pos,avf,aj,gE,cF]
  rintro D J ⟨rfl,rfl⟩ _;have f:gh p.vars c n i a={c with store:=c.store.set (bl p.vars n+i%aq p.vars n).toNat a,trace:=c.trace++[⟨2,n,i%aq p.vars n⟩]}:=by simp [gh,l]
  rw [f,g,C];simp (maxSteps:=9^7)-implicitDefEqProofs+contextual [-getElem?_pos,avf,cF,gE,bR];refine bU [8] ?_ ?_ ?_ (fun b j=>?_) ?_ ?_
  iterate 3· simp
  ·have:b=0∨b=1∨b=2∨b=3:=by omega
   rcases this with rfl|rfl|rfl|rfl<;>simp [cd]<;>omega
  iterate 2· simp (maxDischargeDepth:=8)-implicitDefEqProofs [aj,avf]
 ·have f:gh p.vars c n i a={c with store:=c.store.set (bl p.vars n+i%aq p.vars n).toNat a}:=by simp [gh,l]
  rw [f,g];simp (maxSteps:=9^7)-implicitDefEqProofs+contextual [-getElem?_pos,avf];refine bU [8] ?_ ?_ ?_ (fun b j=>?_) ?_ ?_
  iterate 3· simp
  ·have:b=0∨b=1∨b=2∨b=3:=by omega
   rcases this with rfl|rfl|rfl|rfl<;>simp [cd]<;>omega
  iterate 2· simp (maxDischargeDepth:=8)-implicitDefEqProofs [aj,avf]
open Go Go.RowKit
def VS (c:dY) (r:PV) (h:PH):Prop:=
 (r= .agg (cF c 0 1 2 3)∧h=[.cells 1 (c.store.map pi),.cells 2 (rm c.outs),.cells 3 (rN c.trace),.cells 6 (oM c.todo)])∨
 (r= .agg (cF c 4 1 2 3)∧h=[.dead,.cells 2 (rm c.outs),.cells 3 (rN c.trace),.cells 6 (oM c.todo),.cells 1 (c.store.map pi)])∨
 (r= .agg (cF c 0 1 2 4)∧h=[.cells 1 (c.store.map pi),.cells 2 (rm c.outs),.cells 3 (rN c.trace),.dead,.cells 6 (oM c.todo)])
@[simp]theorem XS (V:List Vr) (c:dY) (n i a:Int):(gh V c n i a).outs=c.outs:=rfl
@[simp]theorem XT (V:List Vr) (c:dY) (n i a:Int):(gh V c n i a).todo=c.todo:=rfl
@[simp]theorem Sb (c:dY) (e n:Int):(dZ c e n).store=c.store:=rfl
@[simp]theorem VT (c:dY) (e n:Int):(dZ c e n).outs=c.outs:=rfl
@[simp]theorem Sc (c:dY) (e n:Int):(dZ c e n).trace=c.trace:=rfl
@[simp]theorem VU (c:dY) (e n:Int):(dZ c e n).todo=[]:=rfl
section
variable{p:aU} {ps:List Int} {c:dY} {k n:Int} {args:List ch} {thn els:List bF} {next:List kJ}
theorem PU {vals:List Int} (h:aC p.w p.vars=true) (j:bq p.w p.vars c.store=true) (f:c.trace.length<2^40) (g:0≤n∧n<p.vars.length)
 (q:(¬ 1<aq p.vars n∧∃a,vals=[a])∨(1<aq p.vars n∧∃a b,vals=[a,b])) (m:∀a∈vals,0≤a∧a<2^40):
 fM E O 93 [.agg (au p),jh ps,.agg (cF c 0 1 2 3),.agg (fb (k,.mk 0 n args thn els)),jh vals,.fs 6 (vG next)] (gE c) (VS (cN p ps c k (.mk 0 n args thn els) vals next)):=by
 refine fM.body (F:=a93) rfl rfl rfl ?_;rcases q with⟨d,a,rfl⟩|⟨d,a,b,rfl⟩
 ·have e:cN p ps c k (.mk 0 n args thn els) [a] next=gh p.vars c n 0 a:=by simp [cN,d,eu]
  rw [e];simp (maxSteps:=9^7)-implicitDefEqProofs+contextual [-getElem?_pos,avf,a93,cF,gE,au,fb,bQ,ir];refine dt [0,1,2,3] [] (ED (op:=0) (args:=args) (thn:=thn) (els:=els) (i:=0) (a:=a) h j g (by omega) f) ?_ ?_ ?_ ?_ ?_ ?_ ?_
  iterate 6· first|rfl|simp (maxDischargeDepth:=8)-implicitDefEqProofs [-getElem?_pos,avf,aj,gE,cF,au,bQ,d]
  rintro l o ⟨rfl,rfl⟩ _;simp (maxSteps:=9^7)-implicitDefEqProofs+contextual [-getElem?_pos,avf,cF,gE,bR];refine ⟨_,_,?_,.inr (.inl ⟨rfl,rfl⟩)⟩;refine bU [9] ?_ ?_ ?_ (fun b f=>?_) ?_ ?_
  iterate 3· simp
  ·have:b=0∨b=1∨b=2∨b=3:=by omega
   rcases this with rfl|rfl|rfl|rfl<;>simp [cd,cF,aJ,aI,aO,bQ]<;>omega
  iterate 2· simp (maxDischargeDepth:=8)-implicitDefEqProofs [aj,avf,cF,aJ,aI,aO,bQ]
 ·have r:=m a (by simp)
  have e:cN p ps c k (.mk 0 n args thn els) [a,b] next=gh p.vars c n a b:=by simp [cN,d,eu]
  rw [e];simp (maxSteps:=9^7)-implicitDefEqProofs+contextual [-getElem?_pos,avf,a93,cF,gE,au,fb,bQ,ir];refine dt [0,1,2,3] [] (ED (op:=0) (args:=args) (thn:=thn) (els:=els) (i:=a) (a:=b) h j g r f) ?_ ?_ ?_ ?_ ?_ ?_ ?_
  iterate 6· first|rfl|simp (maxDischargeDepth:=8)-implicitDefEqProofs [-getElem?_pos,avf,aj,gE,cF,au,bQ,d]
  rintro l o ⟨rfl,rfl⟩ _;simp (maxSteps:=9^7)-implicitDefEqProofs+contextual [-getElem?_pos,avf,cF,gE,bR];refine ⟨_,_,?_,.inr (.inl ⟨rfl,rfl⟩)⟩;refine bU [9] ?_ ?_ ?_ (fun b f=>?_) ?_ ?_
  iterate 3· simp
  ·have:b=0∨b=1∨b=2∨b=3:=by omega
   rcases this with rfl|rfl|rfl|rfl<;>simp [cd,cF,aJ,aI,aO,bQ]<;>omega
  iterate 2· simp (maxDischargeDepth:=8)-implicitDefEqProofs [aj,avf,cF,aJ,aI,aO,bQ]
theorem PW {a:Int} (d:c.outs.length<2^40):
 fM E O 93 [.agg (au p),jh ps,.agg (cF c 0 1 2 3),.agg (fb (k,.mk 3 n args thn els)),jh [a],.fs 6 (vG next)] (gE c) (VS (cN p ps c k (.mk 3 n args thn els) [a] next)):=by
 refine fM.body (F:=a93) rfl rfl rfl ?_;have e:cN p ps c k (.mk 3 n args thn els) [a] next={c with outs:=c.outs++[(n,a)]}:=by simp [cN,eu]
 rw [e];simp (maxSteps:=9^7)-implicitDefEqProofs+contextual [-getElem?_pos,avf,a93,cF,gE,au,fb,bQ,ir];apply cj
 iterate 9· first|rfl|omega|(simp-implicitDefEqProofs [-getElem?_pos,avf];first|done|rfl|omega)
 simp (maxSteps:=9^7)-implicitDefEqProofs+contextual [-getElem?_pos,avf];refine ⟨_,_,?_,.inl ⟨rfl,rfl⟩⟩;refine bU [] ?_ ?_ ?_ (fun b d=>?_) ?_ ?_
 iterate 3· simp
 ·have:b=0∨b=1∨b=2∨b=3:=by omega
  rcases this with rfl|rfl|rfl|rfl<;>simp [cd,cF,aJ,aI,aO,bQ]<;>omega
 iterate 2· simp (maxDischargeDepth:=8)-implicitDefEqProofs [aj,avf,cF,aJ,aI,aO,bQ]
theorem K1 {op a:Int} (h:op=5∨op=6):
 fM E O 93 [.agg (au p),jh ps,.agg (cF c 0 1 2 3),.agg (fb (k,.mk op n args thn els)),jh [a],.fs 6 (vG next)] (gE c) (VS (cN p ps c k (.mk op n args thn els) [a] next)):=by
 refine fM.body (F:=a93) rfl rfl rfl ?_;rcases h with rfl|rfl
 ·by_cases q:a=0
  ·have e:cN p ps c k (.mk 5 n args thn els) [a] next=dZ c 1 k:=by simp [cN,eu,q]
   rw [e];simp (maxSteps:=9^7)-implicitDefEqProofs+contextual [-getElem?_pos,avf,a93,cF,gE,au,fb,bQ,ir,q];refine dt [0,1,2,3] [] (yl (c:=c) (e:=1) (n:=k)) ?_ ?_ ?_ ?_ ?_ ?_ ?_
   iterate 6· first|rfl|simp (maxDischargeDepth:=8)-implicitDefEqProofs [-getElem?_pos,avf,aj,gE,cF]
   rintro f g ⟨rfl,rfl⟩ _;simp (maxSteps:=9^7)-implicitDefEqProofs+contextual [-getElem?_pos,avf,cF,gE,bR];refine ⟨_,_,?_,.inr (.inr ⟨rfl,rfl⟩)⟩;refine bU [9] ?_ ?_ ?_ (fun b d=>?_) ?_ ?_
   iterate 3· simp
   ·have:b=0∨b=1∨b=2∨b=3:=by omega
    rcases this with rfl|rfl|rfl|rfl<;>simp [cd,cF,aJ,aI,aO,bQ]<;>omega
   iterate 2· simp (maxDischargeDepth:=8)-implicitDefEqProofs [aj,avf,cF,aJ,aI,aO,bQ]
  ·have e:cN p ps c k (.mk 5 n args thn els) [a] next=c:=by simp [cN,eu,q]
   rw [e];simp (maxSteps:=9^7)-implicitDefEqProofs+contextual [-getElem?_pos,avf,a93,cF,gE,au,fb,bQ,ir,q];refine ⟨_,_,?_,.inl ⟨rfl,rfl⟩⟩;refine bU [] ?_ ?_ ?_ (fun b d=>?_) ?_ ?_
   iterate 3· simp
   ·have:b=0∨b=1∨b=2∨b=3:=by omega
    rcases this with rfl|rfl|rfl|rfl<;>simp [cd,cF,aJ,aI,aO,bQ]<;>omega
   iterate 2· simp (maxDischargeDepth:=8)-implicitDefEqProofs [aj,avf,cF,aJ,aI,aO,bQ]
 ·by_cases q:a=0
  ·have e:cN p ps c k (.mk 6 n args thn els) [a] next=dZ c 2 k:=by simp [cN,eu,q]
   rw [e];simp (maxSteps:=9^7)-implicitDefEqProofs+contextual [-getElem?_pos,avf,a93,cF,gE,au,fb,bQ,ir,q];refine dt [0,1,2,3] [] (yl (c:=c) (e:=2) (n:=k)) ?_ ?_ ?_ ?_ ?_ ?_ ?_
   iterate 6· first|rfl|simp (maxDischargeDepth:=8)-implicitDefEqProofs [-getElem?_pos,avf,aj,gE,cF]
   rintro f g ⟨rfl,rfl⟩ _;simp (maxSteps:=9^7)-implicitDefEqProofs+contextual [-getElem?_pos,avf,cF,gE,bR];refine ⟨_,_,?_,.inr (.inr ⟨rfl,rfl⟩)⟩;refine bU [9] ?_ ?_ ?_ (fun b d=>?_) ?_ ?_
   iterate 3· simp
   ·have:b=0∨b=1∨b=2∨b=3:=by omega
    rcases this with rfl|rfl|rfl|rfl<;>simp [cd,cF,aJ,aI,aO,bQ]<;>omega
   iterate 2· simp (maxDischargeDepth:=8)-implicitDefEqProofs [aj,avf,cF,aJ,aI,aO,bQ]
  ·have e:cN p ps c k (.mk 6 n args thn els) [a] next=c:=by simp [cN,eu,q]
   rw [e];simp (maxSteps:=9^7)-implicitDefEqProofs+contextual [-getElem?_pos,avf,a93,cF,gE,au,fb,bQ,ir,q];refine ⟨_,_,?_,.inl ⟨rfl,rfl⟩⟩;refine bU [] ?_ ?_ ?_ (fun b d=>?_) ?_ ?_
   iterate 3· simp
   ·have:b=0∨b=1∨b=2∨b=3:=by omega
    rcases this with rfl|rfl|rfl|rfl<;>simp [cd,cF,aJ,aI,aO,bQ]<;>omega
   iterate 2· simp (maxDischargeDepth:=8)-implicitDefEqProofs [aj,avf,cF,aJ,aI,aO,bQ]
theorem K2 {vals:List Int} (t:aC p.w p.vars=true) (u:bq p.w p.vars c.store=true) (f:c.trace.length<2^40) (r:0≤n∧n<p.vars.length) (A:ps.length<2^40)
 (y:(¬ 1<aq p.vars n∧vals=[])∨(1<aq p.vars n∧∃a,vals=[a])) (v:∀a∈vals,0≤a∧a<2^40):
 fM E O 93 [.agg (au p),jh ps,.agg (cF c 0 1 2 3),.agg (fb (k,.mk 4 n args thn els)),jh vals,.fs 6 (vG next)] (gE c) (VS (cN p ps c k (.mk 4 n args thn els) vals next)):=by
 refine fM.body (F:=a93) rfl rfl rfl ?_;by_cases d:ps.length≤c.used
 ·have e:cN p ps c k (.mk 4 n args thn els) vals next=dZ c 4 k:=by simp [cN,d]
  rw [e];simp (maxSteps:=9^7)-implicitDefEqProofs+contextual [-getElem?_pos,avf,a93,cF,gE,au,fb,bQ,d];refine dt [0,1,2,3] [] (yl (c:=c) (e:=4) (n:=k)) ?_ ?_ ?_ ?_ ?_ ?_ ?_
  iterate 6· first|rfl|simp (maxDischargeDepth:=8)-implicitDefEqProofs [-getElem?_pos,avf,aj,gE,cF]
  rintro o q ⟨rfl,rfl⟩ _;simp (maxSteps:=9^7)-implicitDefEqProofs+contextual [-getElem?_pos,avf,cF,gE,bR];refine ⟨_,_,?_,.inr (.inr ⟨rfl,rfl⟩)⟩;refine bU [9] ?_ ?_ ?_ (fun b f=>?_) ?_ ?_
  iterate 3· simp
  ·have:b=0∨b=1∨b=2∨b=3:=by omega
   rcases this with rfl|rfl|rfl|rfl<;>simp [cd,cF,aJ,aI,aO,bQ]<;>omega
  iterate 2· simp (maxDischargeDepth:=8)-implicitDefEqProofs [aj,avf,cF,aJ,aI,aO,bQ]
 ·obtain ⟨x,h⟩:∃x,ps[c.used]?=some x:=⟨_,avg (by omega)⟩
  have j:eu ps c.used=x:=by simp [eu,h]
  have m:IntKind.i64.wrap ((c.used:Int)+1)=(c.used:Int)+1:=ai ⟨by omega,by omega⟩;have l:IntKind.i64.wrap (c.used:Int)=(c.used:Int):=ai ⟨by omega,by omega⟩;have s:c.used<ps.length:=by omega
  rcases y with⟨g,rfl⟩|⟨g,a,rfl⟩
  ·have e:cN p ps c k (.mk 4 n args thn els) [] next=gh p.vars {c with used:=c.used+1} n 0 x:=by simp [cN,g,d,j]
   rw [e];simp (maxSteps:=9^7)-implicitDefEqProofs+contextual [-getElem?_pos,avf,a93,cF,gE,au,fb,bQ,d,m,l,s,KT,h];refine dt [0,1,2,3] [] (ED (c:={c with used:=c.used+1}) (op:=4) (args:=args) (thn:=thn) (els:=els) (i:=0) (a:=x) t u r (by omega) f) ?_ ?_ ?_ ?_ ?_ ?_ ?_
   iterate 6· first|rfl|simp (maxDischargeDepth:=8)-implicitDefEqProofs [-getElem?_pos,avf,aj,gE,cF,au,bQ,g]
   rintro o q ⟨rfl,rfl⟩ _;simp (maxSteps:=9^7)-implicitDefEqProofs+contextual [-getElem?_pos,avf,cF,gE,bR];refine ⟨_,_,?_,.inr (.inl ⟨rfl,rfl⟩)⟩;refine bU [9] ?_ ?_ ?_ (fun b f=>?_) ?_ ?_
   iterate 3· simp
   ·have:b=0∨b=1∨b=2∨b=3:=by omega
    rcases this with rfl|rfl|rfl|rfl<;>simp [cd,cF,aJ,aI,aO,bQ]<;>omega
   iterate 2· simp (maxDischargeDepth:=8)-implicitDefEqProofs [aj,avf,cF,aJ,aI,aO,bQ]
  ·have z:=v a (by simp)
   have e:cN p ps c k (.mk 4 n args thn els) [a] next=gh p.vars {c with used:=c.used+1} n a x:=by simp [cN,g,d,eu,h]
   rw [e];simp (maxSteps:=9^7)-implicitDefEqProofs+contextual [-getElem?_pos,avf,a93,cF,gE,au,fb,bQ,d,m,l,s,KT,h];refine dt [0,1,2,3] [] (ED (c:={c with used:=c.used+1}) (op:=4) (args:=args) (thn:=thn) (els:=els) (i:=a) (a:=x) t u r z f) ?_ ?_ ?_ ?_ ?_ ?_ ?_
   iterate 6· first|rfl|simp (maxDischargeDepth:=8)-implicitDefEqProofs [-getElem?_pos,avf,aj,gE,cF,au,bQ,g]
   rintro o q ⟨rfl,rfl⟩ _;simp (maxSteps:=9^7)-implicitDefEqProofs+contextual [-getElem?_pos,avf,cF,gE,bR];refine ⟨_,_,?_,.inr (.inl ⟨rfl,rfl⟩)⟩;refine bU [9] ?_ ?_ ?_ (fun b f=>?_) ?_ ?_
   iterate 3· simp
   ·have:b=0∨b=1∨b=2∨b=3:=by omega
    rcases this with rfl|rfl|rfl|rfl<;>simp [cd,cF,aJ,aI,aO,bQ]<;>omega
   iterate 2· simp (maxDischargeDepth:=8)-implicitDefEqProofs [aj,avf,cF,aJ,aI,aO,bQ]
end
end P
namespace P
open Go Go.RowKit
theorem jw (l:List kJ):(vG l).take l.length=vG l:=avn (by simp)
theorem jx (l:List kJ):(vG l).flatten=oM l:=rfl
set_option maxHeartbeats 1000000
section
variable{p:aU} {ps:List Int} {c:dY} {k n:Int} {args:List ch} {thn els:List bF} {next:List kJ}
theorem VV {a:Int} (d:c.trace.length<2^40) (j:next.length<2^35) (l:av thn<2^30) (o:av els<2^30) (m:0≤k∧k<2^30):
 fM E O 93 [.agg (au p),jh ps,.agg (cF c 0 1 2 3),.agg (fb (k,.mk 1 n args thn els)),jh [a],.fs 6 (vG next)] (gE c) (VS (cN p ps c k (.mk 1 n args thn els) [a] next)):=by
 have i:=e8 thn;have h:=e8 els;refine fM.body (F:=a93) rfl rfl rfl ?_;by_cases q:a=0
 ·have e:cN p ps c k (.mk 1 n args thn els) [a] next={c with trace:=c.trace++[⟨0,k,0⟩],todo:=bO els (k+1+ar thn)++next}:=by simp [cN,eu,q]
  rw [e];simp (maxSteps:=9^7)-implicitDefEqProofs+contextual [-getElem?_pos,avf,a93,cF,gE,fb,bQ,ir,q];refine aF (EC false) ?_ ?_ ?_
  iterate 2· simp (maxDischargeDepth:=8)-implicitDefEqProofs [-getElem?_pos,avf]
  simp (maxSteps:=9^7)-implicitDefEqProofs+contextual [-getElem?_pos,avf];refine dt [0,1,2,3] [] (qP (c:=c) (k:=0) (a:=k) (v:=0) d) ?_ ?_ ?_ ?_ ?_ ?_ ?_
  iterate 6· first|rfl|simp (maxDischargeDepth:=8)-implicitDefEqProofs [-getElem?_pos,avf,aj,gE,cF]
  rintro f g ⟨rfl,rfl⟩ _;simp (maxSteps:=9^7)-implicitDefEqProofs+contextual [-getElem?_pos,avf,cF,gE,bR];refine qL (KZ (k:=k) (op:=1) (n:=n) (args:=args) (thn:=thn) (els:=els) (by omega) (by omega) (by omega)) ?_ ?_ ?_
  iterate 2· simp (maxDischargeDepth:=8)-implicitDefEqProofs [-getElem?_pos,avf,fb,bQ]
  simp (maxSteps:=9^7)-implicitDefEqProofs+contextual [-getElem?_pos,avf];apply cj
  iterate 9· first|rfl|omega|(simp-implicitDefEqProofs [-getElem?_pos,avf,jw,jx];first|done|rfl|omega)
  simp (maxSteps:=9^7)-implicitDefEqProofs+contextual [-getElem?_pos,avf,jw,jx,ir,q];refine ⟨_,_,?_,.inr (.inr ⟨rfl,rfl⟩)⟩;refine bU [9] ?_ ?_ ?_ (fun b d=>?_) ?_ ?_
  iterate 3· simp
  ·have:b=0∨b=1∨b=2∨b=3:=by omega
   rcases this with rfl|rfl|rfl|rfl<;>simp [cd,cF,aJ,aI,aO,bQ]<;>omega
  iterate 2· simp (maxDischargeDepth:=8)-implicitDefEqProofs [aj,avf,cF,aJ,aI,aO,bQ]
 ·have e:cN p ps c k (.mk 1 n args thn els) [a] next={c with trace:=c.trace++[⟨0,k,1⟩],todo:=bO thn (k+1)++next}:=by simp [cN,eu,q]
  rw [e];simp (maxSteps:=9^7)-implicitDefEqProofs+contextual [-getElem?_pos,avf,a93,cF,gE,fb,bQ,ir,q];refine aF (EC true) ?_ ?_ ?_
  iterate 2· simp (maxDischargeDepth:=8)-implicitDefEqProofs [-getElem?_pos,avf]
  simp (maxSteps:=9^7)-implicitDefEqProofs+contextual [-getElem?_pos,avf];refine dt [0,1,2,3] [] (qP (c:=c) (k:=0) (a:=k) (v:=1) d) ?_ ?_ ?_ ?_ ?_ ?_ ?_
  iterate 6· first|rfl|simp (maxDischargeDepth:=8)-implicitDefEqProofs [-getElem?_pos,avf,aj,gE,cF]
  rintro f g ⟨rfl,rfl⟩ _;simp (maxSteps:=9^7)-implicitDefEqProofs+contextual [-getElem?_pos,avf,cF,gE,bR];refine qL (KZ (k:=k) (op:=1) (n:=n) (args:=args) (thn:=thn) (els:=els) (by omega) (by omega) (by omega)) ?_ ?_ ?_
  iterate 2· simp (maxDischargeDepth:=8)-implicitDefEqProofs [-getElem?_pos,avf,fb,bQ]
  simp (maxSteps:=9^7)-implicitDefEqProofs+contextual [-getElem?_pos,avf];apply cj
  iterate 9· first|rfl|omega|(simp-implicitDefEqProofs [-getElem?_pos,avf,jw,jx];first|done|rfl|omega)
  simp (maxSteps:=9^7)-implicitDefEqProofs+contextual [-getElem?_pos,avf,jw,jx,ir,q];refine qL (KY (k:=k) (op:=1) (n:=n) (args:=args) (thn:=thn) (els:=els) (by omega) (by omega)) ?_ ?_ ?_
  iterate 2· simp (maxDischargeDepth:=8)-implicitDefEqProofs [-getElem?_pos,avf,fb,bQ]
  simp (maxSteps:=9^7)-implicitDefEqProofs+contextual [-getElem?_pos,avf];apply cj
  iterate 9· first|rfl|omega|(simp-implicitDefEqProofs [-getElem?_pos,avf,jw,jx];first|done|rfl|omega)
  simp (maxSteps:=9^7)-implicitDefEqProofs+contextual [-getElem?_pos,avf,jw,jx,ir,q];refine ⟨_,_,?_,.inr (.inr ⟨rfl,rfl⟩)⟩;refine bU [10] ?_ ?_ ?_ (fun b d=>?_) ?_ ?_
  iterate 3· simp
  ·have:b=0∨b=1∨b=2∨b=3:=by omega
   rcases this with rfl|rfl|rfl|rfl<;>simp [cd,cF,aJ,aI,aO,bQ]<;>omega
  iterate 2· simp (maxDischargeDepth:=8)-implicitDefEqProofs [aj,avf,cF,aJ,aI,aO,bQ]
theorem GC {a:Int} (h:c.todo=next) (f:c.trace.length<2^40) (l:next.length<2^35) (m:av thn<2^30) (o:0≤k∧k<2^30):
 fM E O 93 [.agg (au p),jh ps,.agg (cF c 0 1 2 3),.agg (fb (k,.mk 2 n args thn els)),jh [a],.fs 6 (vG next)] (gE c) (VS (cN p ps c k (.mk 2 n args thn els) [a] next)):=by
 have j:=e8 thn;have d:thn.length+1+next.length=thn.length+(next.length+1):=by omega
 refine fM.body (F:=a93) rfl rfl rfl ?_;by_cases q:a=0
 ·have e:cN p ps c k (.mk 2 n args thn els) [a] next={c with trace:=c.trace++[⟨0,k,0⟩]}:=by simp [cN,eu,q,h]
  rw [e];simp (maxSteps:=9^7)-implicitDefEqProofs+contextual [-getElem?_pos,avf,a93,cF,gE,fb,bQ,ir,q];refine aF (EC false) ?_ ?_ ?_
  iterate 2· simp (maxDischargeDepth:=8)-implicitDefEqProofs [-getElem?_pos,avf]
  simp (maxSteps:=9^7)-implicitDefEqProofs+contextual [-getElem?_pos,avf];refine dt [0,1,2,3] [] (qP (c:=c) (k:=0) (a:=k) (v:=0) f) ?_ ?_ ?_ ?_ ?_ ?_ ?_
  iterate 6· first|rfl|simp (maxDischargeDepth:=8)-implicitDefEqProofs [-getElem?_pos,avf,aj,gE,cF]
  rintro g i ⟨rfl,rfl⟩ _;simp (maxSteps:=9^7)-implicitDefEqProofs+contextual [-getElem?_pos,avf,cF,gE,bR,ir,q];refine ⟨_,_,?_,.inl ⟨rfl,rfl⟩⟩;refine bU [] ?_ ?_ ?_ (fun b f=>?_) ?_ ?_
  iterate 3· simp
  ·have:b=0∨b=1∨b=2∨b=3:=by omega
   rcases this with rfl|rfl|rfl|rfl<;>simp [cd,cF,aJ,aI,aO,bQ]<;>omega
  iterate 2· simp (maxDischargeDepth:=8)-implicitDefEqProofs [aj,avf,cF,aJ,aI,aO,bQ]
 ·have e:cN p ps c k (.mk 2 n args thn els) [a] next={c with trace:=c.trace++[⟨0,k,1⟩],todo:=bO thn (k+1)++(k,.mk 2 n args thn els)::next}:=by simp [cN,eu,q]
  rw [e];simp (maxSteps:=9^7)-implicitDefEqProofs+contextual [-getElem?_pos,avf,a93,cF,gE,fb,bQ,ir,q];refine aF (EC true) ?_ ?_ ?_
  iterate 2· simp (maxDischargeDepth:=8)-implicitDefEqProofs [-getElem?_pos,avf]
  simp (maxSteps:=9^7)-implicitDefEqProofs+contextual [-getElem?_pos,avf];refine dt [0,1,2,3] [] (qP (c:=c) (k:=0) (a:=k) (v:=1) f) ?_ ?_ ?_ ?_ ?_ ?_ ?_
  iterate 6· first|rfl|simp (maxDischargeDepth:=8)-implicitDefEqProofs [-getElem?_pos,avf,aj,gE,cF]
  rintro g i ⟨rfl,rfl⟩ _;simp (maxSteps:=9^7)-implicitDefEqProofs+contextual [-getElem?_pos,avf,cF,gE,bR,ir,q];refine qL (KY (k:=k) (op:=2) (n:=n) (args:=args) (thn:=thn) (els:=els) (by omega) (by omega)) ?_ ?_ ?_
  iterate 2· simp (maxDischargeDepth:=8)-implicitDefEqProofs [-getElem?_pos,avf,fb,bQ]
  simp (maxSteps:=9^7)-implicitDefEqProofs+contextual [-getElem?_pos,avf];apply cj
  iterate 9· first|rfl|omega|(simp-implicitDefEqProofs [-getElem?_pos,avf];first|done|rfl|omega)
  simp (maxSteps:=9^7)-implicitDefEqProofs+contextual [-getElem?_pos,avf];apply cj
  iterate 9· first|rfl|omega|(simp-implicitDefEqProofs [-getElem?_pos,avf,jw,jx];first|done|rfl|omega)
  simp (maxSteps:=9^7)-implicitDefEqProofs+contextual [-getElem?_pos,avf,jw,jx,ir,q];refine ⟨_,_,?_,.inr (.inr ⟨rfl,rfl⟩)⟩;refine bU [10] ?_ ?_ ?_ (fun b f=>?_) ?_ ?_
  iterate 3· simp
  ·have:b=0∨b=1∨b=2∨b=3:=by omega
   rcases this with rfl|rfl|rfl|rfl<;>simp [cd,cF,aJ,aI,aO,bQ,d]<;>omega
  iterate 2· simp (maxDischargeDepth:=8)-implicitDefEqProofs [aj,avf,cF,aJ,aI,aO,bQ,d]
end
end P
namespace P
open Go Go.RowKit
section
variable{A:Nat→Prop} {σ:Nat→Nat} {h bs:PH}
@[simp]theorem alc {b:Nat} {l:List (Int×Int)} (d:A b) (c:h[b]?=some (.cells 2 (rm l))):Vg A σ h bs (.sl 2 b 0 l.length l.length) (.fs 2 (tp l))↔True:=⟨fun _=>trivial,fun _=>oL (mj d c (by decide) (by simp) (by unfold tp;intro r a;obtain ⟨x,_,rfl⟩:=avN.1 a;simp) (jR (yi l)))⟩
@[simp]theorem ald {b:Nat} {l:List Ev} (c:A b) (a:h[b]?=some (.cells 3 (rN l))):Vg A σ h bs (.sl 3 b 0 l.length l.length) (.fs 3 (yT l))↔True:=⟨fun _=>trivial,fun _=>oL (mj c a (by decide) (by simp) (by simp [yT]) (jR (yh l)))⟩
@[simp]theorem ale {b:Nat} {l:List kJ} (d:A b) (c:h[b]?=some (.cells 6 (oM l))):Vg A σ h bs (.sl 6 b 0 l.length l.length) (.fs 6 (vG l))↔True:=⟨fun _=>trivial,fun _=>oL (mj d c (by decide) (by simp) (by unfold vG;intro r a;obtain ⟨x,_,rfl⟩:=avN.1 a;simp) (jR (tq l)))⟩
@[simp]theorem aor (b:Nat):qZ b↔True:=Iff.rfl
def CF:Option PB→List kJ→Prop
 |some (.cells z cs),l=>z=6∧cs.drop 6=oM l∧cs.length=l.length*6+6
 |_,_=>False
@[simp]theorem alf (z:Nat) (cs:List PV) (l:List kJ):CF (some (.cells z cs)) l↔z=6∧cs.drop 6=oM l∧cs.length=l.length*6+6:=Iff.rfl
@[simp]theorem PX {b:Nat} {l:List kJ} (d:A b) (a:CF h[b]? l):Vg A σ h bs (.sl 6 b 1 l.length l.length) (.fs 6 (vG l))↔True:=⟨fun _=>trivial,fun _=>by
 cases e:h[b]? with
 |none=>rw [e]at a;exact a.elim
 |some P=>
  cases P with
  |cells z cs=>
   rw [e]at a;obtain ⟨rfl,f,h2⟩:=a;refine oL (Am d e (by omega) (by decide) (avk _) (avk _) (by simp) (by unfold vG;intro r c;obtain ⟨x,_,rfl⟩:=avN.1 c;simp) ?_)
   have:(cs.drop (1*6)).take (l.length*6)=(vG l).flatten:=by
    rw [Nat.one_mul,f];exact avn (by simp)
   rw [this];exact jR (tq l)
  |_=>rw [e]at a;exact a.elim⟩
def CG (b:Nat) (l:List kJ):PV:=if l.length=0 then .fs 6 []else .sl 6 b 1 l.length l.length
theorem ym {b:Nat} {l:List kJ} (a:CF h[b]? l):∃cs,h[b]?=some (.cells 6 cs)∧cs.drop 6=oM l∧cs.length=l.length*6+6:=by
 cases e:h[b]? with
 |none=>rw [e]at a;exact a.elim
 |some P=>
  cases P with
  |cells z cs=>rw [e]at a;obtain ⟨rfl,c,h2⟩:=a;exact ⟨cs,rfl,c,h2⟩
  |_=>rw [e]at a;exact a.elim
theorem PY {b:Nat} {l:List kJ} (f:l.length<2^60) (c:CF h[b]? l):RO 6 h (.sl 6 b 0 (l.length+1) (l.length+1)) (some (.v (.int .i64 1))) none none=some (CG b l,h):=by
 obtain ⟨cs,e,_,g⟩:=ym c
 have d:bK (l.length+1) (l.length+1) (some (.int .i64 1)) none none=some (1,l.length+1,l.length+1):=by
  simp [bK,jj];rw [if_pos (by omega)];rfl
 unfold RO;simp only [Pc,e];rw [d];simp only;rw [if_pos (by refine ⟨trivial,by decide,trivial,by omega,avk _⟩),if_neg (by omega)];unfold CG;by_cases a:l.length=0
 ·rw [if_pos (by omega),if_pos a];rfl
 ·rw [if_neg (by omega),if_pos trivial,if_neg a];rfl
@[simp]theorem abH (b:Nat) (l:List kJ):oI (CG b l)=some l.length:=by
 unfold CG;split
 ·rename_i h;rw [h];rfl
 ·rfl
@[simp]theorem VW {b:Nat} {l:List kJ} (a:CF h[b]? l):eB h 6 l.length (CG b l)=some (oM l):=by
 obtain ⟨cs,e,d,f⟩:=ym a;unfold CG;split
 ·rename_i c
  have:l=[]:=avJ.1 c;subst this;rfl
 ·unfold eB
  simp only [e];rw [if_pos ⟨trivial,by omega,avk _,avk _⟩,Nat.one_mul,d,avn (by simp)]
@[simp]theorem VX {b:Nat} {l:List kJ} (a:CF h[b]? l):fG h (CG b l)=true:=by
 obtain ⟨cs,e,d,c⟩:=ym a;unfold CG;split
 ·rfl
 ·unfold fG
  simp only [e];exact decide_eq_true (by omega)
@[simp]theorem alg {b:Nat} {l:List kJ} (c:A b) (a:CF h[b]? l):Vg A σ h bs (CG b l) (.fs 6 (vG l))↔True:=⟨fun _=>trivial,fun _=>by
 unfold CG;split
 ·rename_i d
  have:l=[]:=avJ.1 d;subst this;exact (KJ _ _).2 trivial
 ·exact (PX c a).2 trivial⟩
@[simp]theorem ae1 {b i:Nat} {l:List kJ} (hs:σ i=b) (k:Ms h[b]? bs[i]?):Vg A σ h bs (CG b l) (CG i l)↔True:=⟨fun _=>trivial,fun _=>by
 unfold CG;split
 ·exact (KJ _ _).2 trivial
 ·exact (VD hs k).2 trivial⟩
def VY (h:PH):Option PB→List Int→Prop
 |some (.cells z [.sl 1 b 0 n n']),s=>z=1∧n=s.length∧n'=s.length∧h[b]?=some (.cells 1 (s.map pi))
 |_,_=>False
@[simp]theorem alh (z b n a:Nat) (s:List Int):VY h (some (.cells z [.sl 1 b 0 n a])) s↔z=1∧n=s.length∧a=s.length∧h[b]?=some (.cells 1 (s.map pi)):=Iff.rfl
@[simp]theorem ali {b:Nat} {s:List Int} (a:VY h h[b]? s):Vg qZ σ h bs (.sl 1 b 0 1 1) (PM [s])↔True:=⟨fun _=>trivial,fun _=>by
 cases e:h[b]? with
 |none=>rw [e]at a;exact a.elim
 |some P=>
  cases P with
  |cells z cs=>
   rw [e]at a;unfold VY at a;split at a
   ·rename_i d
    cases d;obtain ⟨rfl,rfl,rfl,c⟩:=a;refine oL (Am trivial e rfl (by decide) (avk _) (avk _) (by simp) (by simp) ?_);simp;exact x8 trivial c
   ·exact a.elim
  |_=>rw [e]at a;exact a.elim⟩
end
def Sd (c:dY):List PV:=[pi c.en,jh c.store,.fs 2 (tp c.outs),.fs 3 (yT c.trace),pi c.cost,pi c.used,pi c.wh,pi c.fuel,.fs 6 (vG c.todo),pb c.over]
theorem qQ (c:dY):Fz E O 57 [.agg (Sd c)] (pb (c.over||decide (c.todo.length=0))):=by
 refine Fz.body (F:=YV) rfl rfl rfl rfl ?_;cases h:c.over
 ·simp (maxSteps:=9^7)-implicitDefEqProofs [-getElem?_pos,avf,YV,Sd,h]
 ·simp (maxSteps:=9^7)-implicitDefEqProofs [-getElem?_pos,avf,YV,Sd,h]
theorem Ax:∀l:List Ev,kB (rN l)=true
 |[]=>rfl
 |a::l=>by rw [qO];simp [kB,ph,Ax l]
structure Ay (p:aU) (ps:List Int) (c:dY):Prop extends Inv p ps c where
 wF:∀it∈c.todo,EB it.2
 len:(c.todo.length:Int)+500*c.fuel≤2^30
def cfS (c:dY) (r:PV) (h:PH):Prop:=
 (r= .agg (cF c 0 1 2 3)∧h=[.cells 1 (c.store.map pi),.cells 2 (rm c.outs),.cells 3 (rN c.trace),.cells 6 (oM c.todo)])∨
 (r= .agg (cF c 0 1 2 4)∧h=[.cells 1 (c.store.map pi),.cells 2 (rm c.outs),.cells 3 (rN c.trace),.dead,.cells 6 (oM c.todo)])∨
 (r= .agg (cF c 4 1 2 5)∧h=[.dead,.cells 2 (rm c.outs),.cells 3 (rN c.trace),.dead,.cells 1 (c.store.map pi),.cells 6 (oM c.todo)])
def HL (p:aU) (c:dY) (k:Int) (s:bF) (next:List kJ) (i:Nat):PH:=
 [.cells 1 (c.store.map pi),.cells 2 (rm c.outs),.cells 3 (rN (c.trace++eN p.w p.vars [c.store] (s.args.take i))),.cells 6 (oM ((k,s)::next)),
  .cells 10 (cF {c with trace:=c.trace++eN p.w p.vars [c.store] (s.args.take i),cost:=c.cost+1+aw (s.args.take i),fuel:=c.fuel- 1,todo:=next} 0 1 2 5),
  .cells 6 (oM next),.cells 6 (fb (k,s)),.cells 1 ((bV p.w p.vars [c.store] (s.args.take i)).map pi),.cells 3 (au p),
  .cells 10 [pi 0,.v (.slice none 0 0),.v (.slice none 0 0),.v (.slice none 0 0),pi 0,pi 0,pi 0,pi 0,.v (.slice none 0 0),pb false]]
def FL (ps:List Int) (next:List kJ) (i:Nat):List (Nat×PV):=[(1,jh ps),(3,.ref 8 0 3),(5,.ref 4 0 10),(6,.ref 9 0 10),(7,.ref 6 0 6),(8,CG 3 next),(9,.sl 1 7 0 i i),(10,pi i)]
end P
set_option maxHeartbeats 1000000
namespace P
open Go Go.RowKit
theorem rO {w:Int} {V:List Vr} {S:List (List Int)} {l:List ch} {i:Nat} {y:ch} (h:l[i]?=some y):bV w V S (l.take (i+1))=bV w V S (l.take i)++[a6 w V S y]:=by
 rw [rD,rD,avB,qv,h];rfl
theorem Az (l:List Ev):(rN l).take (l.length*3)=rN l:=avn (by simp)
def SI (p:aU) (ps:List Int) (c:dY) (k:Int) (s:bF) (next:List kJ) (i:Nat) (fr:PF) (h:PH):Prop:=h=HL p c k s next i∧fr.get 1=jh ps∧fr.get 3= .ref 8 0 3∧fr.get 5= .ref 4 0 10∧fr.get 6= .ref 9 0 10∧fr.get 7= .ref 6 0 6∧fr.get 8=CG 3 next∧fr.get 9= .sl 1 7 0 i i∧fr.get 10=pi i
theorem Se (p:aU) (ps:List Int) (c:dY) (k:Int) (s:bF) (next:List kJ) (i:Nat):SI p ps c k s next i (PF.tm (FL ps next i)) (HL p c k s next i):=by simp [SI,FL]
theorem abI {p:aU} {ps:List Int} {c b:dY} {k op n:Int} {args:List ch} {thn els:List bF} {next:List kJ} (I:Ay p ps c) (g:c.todo=(k,.mk op n args thn els)::next) (hf:c.fuel≠0) (o:iz p c (.mk op n args thn els) next=b):
 fM E O 93 [.agg (au p),jh ps,.agg (cF b 0 1 2 3),.agg (fb (k,.mk op n args thn els)),jh (bV p.w p.vars [c.store] args),.fs 6 (vG next)] (gE b) (VS (cN p ps b k (.mk op n args thn els) (bV p.w p.vars [c.store] args) next)):=by
 obtain ⟨J,H,C,v⟩:=I.todo (k,.mk op n args thn els) (by rw [g];simp);obtain ⟨M,RK,yR,D⟩:=gj C;simp only at J H v;rw [bA]at v;have pa:=bf args;have Y:=bH thn;have Z:=bH els;have P:Bd p.w p.vars [c.store]:=fun t g=>by simp at g;subst g;exact I.store
 have A:=wx (S:=[c.store]) I.head P args (fun e L=>(M e L).1);have Q:=jX (w:=p.w) (V:=p.vars) (S:=[c.store]) (l:=args) (fun e _=>ek e);have K:=I.fuel;have Bi:=I.tr;have F:=I.ou;have B:=I.used;have Ml:=I.UT;have XU:=kQ (.mk op n args thn els);have hp:=fT (w:=p.w) ⟨(aD I.head).1,(aD I.head).2.1⟩;have j:=I.len;rw [g]at j;simp only [List.length_cons]at j;have X:b.store=c.store:=by rw [←o];rfl
 have W:b.trace=c.trace++eN p.w p.vars [c.store] args:=by rw [←o];rfl
 have T:b.todo=next:=by rw [←o];rfl
 have R:b.outs=c.outs:=by rw [←o];rfl
 have z:bq p.w p.vars b.store=true:=by rw [X];exact I.store
 have m:b.trace.length<2^40:=by rw [W,avp];omega
 have u:(bV p.w p.vars [c.store] args).length=args.length:=jt args
 have s:∀a∈bV p.w p.vars [c.store] args,0≤a∧a<2^40:=fun a N=>by
  obtain ⟨i,hi,e⟩:=List.getElem_of_mem N;have:=A i (by omega);have U:eu (bV p.w p.vars [c.store] args) i=a:=by unfold eu;rw [avg hi,e];rfl
  rw [U]at this;omega
 generalize bV p.w p.vars [c.store] args=d at*;have one:args.length=1→∃a,d=[a]:=fun h=>avW.1 (by omega)
 rcases D with⟨rfl,q,r⟩|⟨rfl,x,rfl⟩|⟨rfl,x,rfl⟩|⟨rfl,x,rfl⟩|⟨rfl,q,r⟩|⟨G,x,rfl⟩
 ·refine PU I.head z m q ?_ s
  rcases r with⟨f,x,rfl⟩|⟨f,x,y,rfl⟩
  ·exact .inl ⟨f,one rfl⟩
  ·refine .inr ⟨f,?_⟩
   match d,u with
   |[a,b],_=>exact ⟨a,b,rfl⟩
 ·obtain ⟨a,rfl⟩:=one rfl
  exact VV m (by omega) (by omega) (by omega) (by omega)
 ·obtain ⟨a,rfl⟩:=one rfl
  exact GC T m (by omega) (by omega) (by omega)
 ·obtain ⟨a,rfl⟩:=one rfl
  exact PW (by rw [R];omega)
 ·refine K2 I.head z m q (by omega) ?_ s
  rcases r with⟨f,rfl⟩|⟨f,x,rfl⟩
  ·exact .inl ⟨f,avJ.1 (by simpa using u)⟩
  ·exact .inr ⟨f,one rfl⟩
 ·obtain ⟨a,rfl⟩:=one rfl
  exact K1 G
theorem VZ {p:aU} {ps:List Int} {c:dY} (I:Ay p ps c):fM E O 58 [.agg (au p),jh ps,.agg (cF c 0 1 2 3)] (gE c) (cfS (bI p ps c)):=by
 refine fM.body (F:=W2) rfl rfl rfl ?_;cases A:(c.over||decide (c.todo.length=0))
 case true=>
  have e:bI p ps c=c:=by
   simp only [Bool.or_eq_true,avs]at A;unfold bI;by_cases d:c.over=true
   ·rw [if_pos d]
   ·rw [if_neg d]
    cases j:c.todo with
    |nil=>rfl
    |cons it next=>rw [j]at A;simp at A;exact absurd A d
  rw [e];simp (maxSteps:=9^7)-implicitDefEqProofs+contextual [-getElem?_pos,avf,W2,cF,gE];refine rM (qQ c) ?_ ?_ ?_
  iterate 2· simp (maxDischargeDepth:=8)-implicitDefEqProofs [-getElem?_pos,avf,Sd]
  have y7:c.over=true∨c.todo=[]:=by simpa using A
  simp (maxSteps:=9^7)-implicitDefEqProofs+contextual [-getElem?_pos,avf,y7];refine ⟨_,_,?_,.inl ⟨rfl,rfl⟩⟩;refine bU [] ?_ ?_ ?_ (fun b m=>?_) ?_ ?_
  iterate 3· simp
  ·have:b=0∨b=1∨b=2∨b=3:=by omega
   rcases this with rfl|rfl|rfl|rfl<;>simp [cd,cF]<;>omega
  iterate 2· simp (maxDischargeDepth:=8)-implicitDefEqProofs [aj,avf,cF]
 simp only [Bool.or_eq_false_iff,decide_eq_false_iff_not]at A;obtain ⟨d,U⟩:=A
 cases j:c.todo with
 |nil=>rw [j]at U;exact absurd rfl U
 |cons it next=>
 obtain ⟨k,s⟩:=it;obtain ⟨op,n,args,f,g⟩:=s;have a:(next.length+1)*6=next.length*6+1+1+1+1+1+1:=by omega
 by_cases u:c.fuel=0
 ·have e:bI p ps c=dZ c 3 k:=by
   unfold bI;rw [if_neg (by simp [d]),j];show(if c.fuel=0 then _ else _)=_;rw [if_pos u]
  rw [e];simp (maxSteps:=9^7)-implicitDefEqProofs+contextual [-getElem?_pos,avf,W2,cF,gE];refine rM (qQ c) ?_ ?_ ?_
  iterate 2· simp (maxDischargeDepth:=8)-implicitDefEqProofs [-getElem?_pos,avf,Sd]
  simp (maxSteps:=9^7)-implicitDefEqProofs+contextual [-getElem?_pos,avf,d,u,j,bQ,au,a];refine dt [0,1,2,3] [] (yl (c:=c) (e:=3) (n:=k)) ?_ ?_ ?_ ?_ ?_ ?_ ?_
  iterate 6· first|rfl|simp (maxDischargeDepth:=8)-implicitDefEqProofs [-getElem?_pos,avf,aj,gE,cF,j,bQ,d,u,a]
  rintro r0 fZ ⟨rfl,rfl⟩ _;simp (maxSteps:=9^7)-implicitDefEqProofs+contextual [-getElem?_pos,avf,cF,gE,bR,j,d,u,bQ,a];refine ⟨_,_,?_,.inr (.inl ⟨rfl,rfl⟩)⟩;refine bU [8] ?_ ?_ ?_ (fun b m=>?_) ?_ ?_
  iterate 3· simp
  ·have:b=0∨b=1∨b=2∨b=3:=by omega
   rcases this with rfl|rfl|rfl|rfl<;>simp [cd,cF,a]<;>omega
  iterate 2· simp (maxDischargeDepth:=8)-implicitDefEqProofs [aj,avf,cF,a]
 have hfu:=I.fuel;have MP:=I.co;have Bi:=I.tr;have N:IntKind.i64.wrap (c.fuel- 1)=c.fuel- 1:=ai ⟨by omega,by omega⟩;have M:IntKind.i64.wrap (c.cost+1)=c.cost+1:=ai ⟨by omega,by omega⟩;have R:=I.len;rw [j]at R;simp only [List.length_cons]at R;simp (maxSteps:=9^7)-implicitDefEqProofs+contextual [-getElem?_pos,avf,W2,cF,gE];refine rM (qQ c) ?_ ?_ ?_
 iterate 2· simp (maxDischargeDepth:=8)-implicitDefEqProofs [-getElem?_pos,avf,Sd]
 have K:next.length<2^60:=by omega
 simp (maxSteps:=9^7)-implicitDefEqProofs+contextual [-getElem?_pos,avf,-RO,PY K,d,u,j,bQ,au,a,N,M];apply cj
 iterate 9· first|rfl|omega|(simp-implicitDefEqProofs [-getElem?_pos,avf,-oI,-eB,-fG];first|done|rfl|omega)
 simp (maxSteps:=9^7)-implicitDefEqProofs+contextual [-getElem?_pos,avf,d,u,j,bQ,au,a,N,M];obtain ⟨Cm,Bg,kI,T⟩:=I.todo (k,.mk op n args f g) (by rw [j];simp);obtain ⟨aH,RK,yR,Bh⟩:=gj kI;have J:=I.wF (k,.mk op n args f g) (by rw [j];simp);simp only at Cm Bg T J;rw [bA]at T;rw [EB]at J;have H:=J.2.2.2.2.2.1;have pa:=bf args;have pt:=bH f;have pe:=bH g;have xL:Bd p.w p.vars [c.store]:=fun t j=>by simp at j;subst j;exact I.store
 refine dV (SI p ps c k (.mk op n args f g) next) args.length (bX (h2:=HL p c k (.mk op n args f g) next 0) [5,8,7,9,4,6] (FL ps next 0) ?_ ?_ ?_ ?_ ?_ ?_) (Se _ _ _ _ _ _ _) ?_
 ·simp [HL,FL,cF,fb,bQ,au,bF.args,eN,bV,aw,d,a]
 iterate 2· simp
 ·intro b m
  have:b=0∨b=1∨b=2∨b=3:=by omega
  rcases this with rfl|rfl|rfl|rfl<;>simp [cd,HL,FL,cF,fb,bQ,au,bF.args,eN,bV,aw,d,a]<;>omega
 iterate 2· simp (maxDischargeDepth:=8)-implicitDefEqProofs [aj,avf,HL,FL,cF,fb,bQ,au,bF.args,eN,bV,aw,d,a]
 intro i fr h hi hI;obtain ⟨rfl,r,z,x,l,v,q,C,f10⟩:=hI;by_cases h:i<args.length
 ·obtain ⟨y,o⟩:∃y,args[i]?=some y:=⟨_,avg h⟩
  have B:=avl o;obtain ⟨W,UN⟩:=aH y B;have G:=Au H y B;have Fv:=mb args;have Z:=eX o;have t2:=bk args i;have t3:=bk args (i+1);have t4:=nk (w:=p.w) (V:=p.vars) (S:=[c.store]) args i;have t5:=ek (w:=p.w) (V:=p.vars) (S:=[c.store]) y;have D:(bV p.w p.vars [c.store] (args.take i)).length=i:=by rw [jt,List.length_take];omega
  have Y:IntKind.i64.wrap (c.cost+1+aw (args.take i)+aA y)=c.cost+1+aw (args.take (i+1)):=by rw [Z,←Int.add_assoc];exact ai ⟨by omega,by omega⟩
  have X:IntKind.i64.wrap ((i:Int)+1)=((i+1:Nat):Int):=ai ⟨by omega,by omega⟩;simp (maxSteps:=9^7)-implicitDefEqProofs+contextual [-getElem?_pos,avf,r,z,x,l,v,q,C,f10,h,o,HL,cF,au,fb,bQ,bF.args,d,a];refine rM (PQ (S:=[c.store]) I.head xL G W) ?_ ?_ ?_
  iterate 2· simp (maxDischargeDepth:=8)-implicitDefEqProofs [-getElem?_pos,avf]
  simp (maxSteps:=9^7)-implicitDefEqProofs+contextual [-getElem?_pos,avf];apply cj
  iterate 9· first|rfl|omega|(simp-implicitDefEqProofs [-getElem?_pos,avf,D];first|done|rfl|omega)
  simp (maxSteps:=9^7)-implicitDefEqProofs+contextual [-getElem?_pos,avf,r,z,x,l,v,q,C,f10];refine aF (PR G (by omega)) ?_ ?_ ?_
  iterate 2· simp (maxDischargeDepth:=8)-implicitDefEqProofs [-getElem?_pos,avf]
  simp (maxSteps:=9^7)-implicitDefEqProofs+contextual [-getElem?_pos,avf,r,z,x,l,v,q,C,f10,Y];refine pS (KX (s:=c.store) I.head I.store G W (by omega)) ?_ ?_ ?_
  iterate 2· simp (maxDischargeDepth:=8)-implicitDefEqProofs [-getElem?_pos,avf,Ax]
  simp (maxSteps:=9^7)-implicitDefEqProofs+contextual [-getElem?_pos,avf];apply cj
  iterate 9· first|rfl|omega|(simp-implicitDefEqProofs [-getElem?_pos,avf,Az];first|done|rfl|omega)
  simp (maxSteps:=9^7)-implicitDefEqProofs+contextual [-getElem?_pos,avf,r,z,x,l,v,q,C,f10,X,Az];refine .ny h (bX (h2:=HL p c k (.mk op n args f g) next (i+1)) [4,5,6,7,8,9] (FL ps next (i+1)) ?_ ?_ ?_ ?_ ?_ ?_) (Se _ _ _ _ _ _ _)
  ·simp [HL,FL,cF,fb,bQ,au,bF.args,d,a,nj o,rO o,aI,Nat.add_assoc,r,z,x,l,v,q]
  iterate 2· simp
  ·intro b m
   have:b=0∨b=1∨b=2∨b=3:=by omega
   rcases this with rfl|rfl|rfl|rfl<;>simp [cd,HL,FL,cF,fb,bQ,au,bF.args,d,a,nj o,rO o,aI,Nat.add_assoc,r,z,x,l,v,q]<;>omega
  iterate 2· simp (maxDischargeDepth:=8)-implicitDefEqProofs [aj,avf,HL,FL,cF,fb,bQ,au,bF.args,d,a,nj o,rO o,aI,Nat.add_assoc,r,z,x,l,v,q]
 ·obtain rfl:i=args.length:=by omega
  obtain ⟨b,m⟩:∃b,iz p c (.mk op n args f g) next=b:=⟨_,rfl⟩
  have e:bI p ps c=cN p ps b k (.mk op n args f g) (bV p.w p.vars [c.store] args) next:=by
   unfold bI;rw [if_neg (by simp [d]),j,←m];show(if c.fuel=0 then _ else _)=_;rw [if_neg u];rfl
  have L:=abI I j u m;have D:(bV p.w p.vars [c.store] args).length=args.length:=jt args;rw [e];generalize cN p ps b k (.mk op n args f g) (bV p.w p.vars [c.store] args) next=c' at L⊢
  generalize Q:bV p.w p.vars [c.store] args=P at L;subst m;simp (maxSteps:=9^7)-implicitDefEqProofs+contextual [-getElem?_pos,avf,r,z,x,l,v,q,C,f10,HL,cF,au,fb,bQ,bF.args,d,a];rw [Q];rw [←D,Q];refine dt [0,1,2,5] [3,7] L ?_ ?_ ?_ ?_ ?_ ?_ ?_
  iterate 6· first|rfl|simp (maxDischargeDepth:=8)-implicitDefEqProofs [-getElem?_pos,avf,aj,gE,cF,au,fb,bQ,d,a,iz,bF.args,r,q]
  rintro r0 fZ (⟨rfl,rfl⟩|⟨rfl,rfl⟩|⟨rfl,rfl⟩) _
  ·simp (maxSteps:=9^7)-implicitDefEqProofs+contextual [-getElem?_pos,avf,cF,gE,bR,l,a]
   refine ⟨_,_,?_,.inr (.inl ⟨rfl,rfl⟩)⟩;refine bU [5] ?_ ?_ ?_ (fun b m=>?_) ?_ ?_
   iterate 3· simp
   ·have:b=0∨b=1∨b=2∨b=3:=by omega
    rcases this with rfl|rfl|rfl|rfl<;>simp [cd,cF,a]<;>omega
   iterate 2· simp (maxDischargeDepth:=8)-implicitDefEqProofs [aj,avf,cF,a]
  ·simp (maxSteps:=9^7)-implicitDefEqProofs+contextual [-getElem?_pos,avf,cF,gE,bR,l,a]
   refine ⟨_,_,?_,.inr (.inr ⟨rfl,rfl⟩)⟩;refine bU [10,5] ?_ ?_ ?_ (fun b m=>?_) ?_ ?_
   iterate 3· simp
   ·have:b=0∨b=1∨b=2∨b=3:=by omega
    rcases this with rfl|rfl|rfl|rfl<;>simp [cd,cF,a]<;>omega
   iterate 2· simp (maxDischargeDepth:=8)-implicitDefEqProofs [aj,avf,cF,a]
  ·simp (maxSteps:=9^7)-implicitDefEqProofs+contextual [-getElem?_pos,avf,cF,gE,bR,l,a]
   refine ⟨_,_,?_,.inr (.inl ⟨rfl,rfl⟩)⟩;refine bU [10] ?_ ?_ ?_ (fun b m=>?_) ?_ ?_
   iterate 3· simp
   ·have:b=0∨b=1∨b=2∨b=3:=by omega
    rcases this with rfl|rfl|rfl|rfl<;>simp [cd,cF,a]<;>omega
   iterate 2· simp (maxDischargeDepth:=8)-implicitDefEqProofs [aj,avf,cF,a]
open Go Go.RowKit
def uZ (c:dY):Nat:=if cT c then 0 else c.fuel.toNat+1
theorem GD {p:aU} {ps:List Int} {c:dY} (e:0≤c.fuel) (a:cT c=false):uZ (bI p ps c)<uZ c∧lK p ps (bI p ps c)=lK p ps c:=by
 cases d:(bI p ps c).over with
 |true=>
  have b:cT (bI p ps c)=true:=by simp [cT,d]
  refine ⟨?_,?_⟩
  ·unfold uZ;rw [b,a];simp
  ·rw [Ad (c:=c) (by simp [a,d])]
   exact kr b _
 |false=>
  obtain ⟨b,h2,f⟩:=J5 (p:=p) (ps:=ps) e (c:=c) (by simp [a,d]);refine ⟨?_,b⟩;unfold uZ;rw [a,h2];split
  ·simp
  ·simp;omega
theorem GF {p:aU} {ps:List Int} {c:dY} (a:cT c=true):lK p ps c=c:=kr a _
theorem lP:∀{l:List bF} {k:Int},x9 l→∀it∈bO l k,EB it.2
 |[],k,_,it,h=>by simp [bO]at h
 | .mk op n args a b::l,k,ok,it,h=>by
  rw [bO]at h;rcases avy.1 h with rfl|h
  ·exact ok.1
  ·exact lP ok.2 it h
theorem K3 (p:aU) (ps:List Int) (b:dY) (k op n:Int) (args:List ch) (thn els:List bF) (vals:List Int) (next:List kJ) (a:b.todo=next):
 (cN p ps b k (.mk op n args thn els) vals next).todo=[]∨(cN p ps b k (.mk op n args thn els) vals next).todo=next∨(cN p ps b k (.mk op n args thn els) vals next).todo=bO els (k+1+ar thn)++next∨(cN p ps b k (.mk op n args thn els) vals next).todo=bO thn (k+1)++next∨(cN p ps b k (.mk op n args thn els) vals next).todo=bO thn (k+1)++(k,.mk op n args thn els)::next:=by
 unfold cN;simp only;by_cases h:op=0
 ·rw [if_pos h];exact .inr (.inl a)
 rw [if_neg h];by_cases g:op=1
 ·rw [if_pos g]
  by_cases v:eu vals 0=0
  ·rw [if_pos v];exact .inr (.inr (.inl (by rw [if_pos v])))
  ·rw [if_neg v];exact .inr (.inr (.inr (.inl (by rw [if_neg v]))))
 rw [if_neg g];by_cases f:op=2
 ·rw [if_pos f]
  by_cases v:eu vals 0=0
  ·rw [if_pos v];exact .inr (.inl (by rw [if_pos v]))
  ·rw [if_neg v];exact .inr (.inr (.inr (.inr (by rw [if_neg v]))))
 rw [if_neg f];by_cases e:op=3
 ·rw [if_pos e];exact .inr (.inl a)
 rw [if_neg e];by_cases d:op=4
 ·rw [if_pos d]
  by_cases v:ps.length≤b.used
  ·rw [if_pos v];exact .inl rfl
  ·rw [if_neg v];exact .inr (.inl a)
 rw [if_neg d];by_cases c:op=5
 ·rw [if_pos c]
  by_cases v:eu vals 0=0
  ·rw [if_pos v];exact .inl rfl
  ·rw [if_neg v];exact .inr (.inl a)
 rw [if_neg c];by_cases v:eu vals 0=0
 ·rw [if_pos v];exact .inl rfl
 ·rw [if_neg v];exact .inr (.inl a)
theorem GG (p:aU) (ps:List Int) (c:dY):((bI p ps c).todo=c.todo∧(bI p ps c).fuel=c.fuel)∨((bI p ps c).todo=[]∧((bI p ps c).fuel=c.fuel∨(bI p ps c).fuel=c.fuel- 1))∨
 ∃k op n args thn els next,c.todo=(k,.mk op n args thn els)::next∧(bI p ps c).fuel=c.fuel- 1∧
  ((bI p ps c).todo=next∨(bI p ps c).todo=bO els (k+1+ar thn)++next∨(bI p ps c).todo=bO thn (k+1)++next∨(bI p ps c).todo=bO thn (k+1)++(k,.mk op n args thn els)::next):=by
 by_cases d:c.over=true
 ·have e:bI p ps c=c:=by unfold bI;rw [if_pos d]
  rw [e];exact .inl ⟨rfl,rfl⟩
 ·cases b:c.todo with
  |nil=>
   have e:bI p ps c=c:=pM (by simp [cT,b]);rw [e];exact .inl ⟨b,rfl⟩
  |cons it next=>
   obtain ⟨k,s⟩:=it;obtain ⟨op,n,args,thn,els⟩:=s;by_cases f:c.fuel=0
   ·have e:bI p ps c=dZ c 3 k:=by
     unfold bI;rw [if_neg d,b];show(if c.fuel=0 then _ else _)=_;rw [if_pos f]
    rw [e];exact .inr (.inl ⟨rfl,.inl rfl⟩)
   ·have e:bI p ps c=cN p ps (iz p c (.mk op n args thn els) next) k (.mk op n args thn els) (bV p.w p.vars [c.store] args) next:=by
     unfold bI;rw [if_neg d,b];show(if c.fuel=0 then _ else _)=_;rw [if_neg f];rfl
    have a:(bI p ps c).fuel=c.fuel- 1:=by rw [e,uN];rfl
    rcases K3 p ps (iz p c (.mk op n args thn els) next) k op n args thn els (bV p.w p.vars [c.store] args) next rfl with q|q|q|q|q
    ·exact .inr (.inl ⟨by rw [e,q],.inr a⟩)
    ·exact .inr (.inr ⟨k,op,n,args,thn,els,next,rfl,a,.inl (by rw [e,q])⟩)
    ·exact .inr (.inr ⟨k,op,n,args,thn,els,next,rfl,a,.inr (.inl (by rw [e,q]))⟩)
    ·exact .inr (.inr ⟨k,op,n,args,thn,els,next,rfl,a,.inr (.inr (.inl (by rw [e,q])))⟩)
    ·exact .inr (.inr ⟨k,op,n,args,thn,els,next,rfl,a,.inr (.inr (.inr (by rw [e,q])))⟩)
theorem GJ {p:aU} {ps:List Int} {c:dY} (h:Ay p ps c):Ay p ps (bI p ps c):=by
 have hi:=qF h.toInv;have o:=h.len;have r:=hi.fuel;have s:=h.fuel;rcases GG p ps c with⟨a,f⟩|⟨a,f⟩|⟨k,op,n,args,b,d,next,g,f,a⟩
 ·exact {toInv:=hi,wF:=by rw [a];exact h.wF,len:=by rw [a,f];exact h.len}
 ·refine {toInv:=hi,wF:=by rw [a];simp,len:=?_}
  rw [a];simp;omega
 ·have l:=h.wF (k,.mk op n args b d) (by rw [g];simp)
  have j:∀it∈next,EB it.2:=fun it e=>h.wF it (by rw [g];simp [e])
  have i:=l;rw [EB]at i;obtain ⟨_,_,y,m⟩:=h.todo (k,.mk op n args b d) (by rw [g];simp);simp only at m;rw [bA]at m;have v:=bf args;have t:=bH b;have u:=bH d;have x:=e8 b;have w:=e8 d;rw [g]at o;simp only [List.length_cons]at o;rcases a with a|a|a|a
  ·exact {toInv:=hi,wF:=by rw [a];exact j,len:=by rw [a,f];omega}
  ·refine {toInv:=hi,wF:=?_,len:=by rw [a,f,avp,gq];omega}
   rw [a];intro it e;rcases avA.1 e with q|q
   ·exact lP i.2.2.2.2.2.2.2 it q
   ·exact j it q
  ·refine {toInv:=hi,wF:=?_,len:=by rw [a,f,avp,gq];omega}
   rw [a];intro it e;rcases avA.1 e with q|q
   ·exact lP i.2.2.2.2.2.2.1 it q
   ·exact j it q
  ·refine {toInv:=hi,wF:=?_,len:=by rw [a,f,avp,gq,List.length_cons];omega}
   rw [a];intro it e;rcases avA.1 e with q|q
   ·exact lP i.2.2.2.2.2.2.1 it q
   ·rcases avy.1 q with rfl|q
    ·exact l
    ·exact j it q
theorem PZ {p:aU} {t:dW} {fuel:Int} (hs:t.store.length≤2^40) (a:av p.body<2^40):
 fM E O 56 [.agg (au p),pi fuel,.agg (cH t)] [] (fun r h=>r= .agg (cF (ee p fuel t) 0 1 2 3)∧h=gE (ee p fuel t)):=by
 refine fM.body (F:=a56) rfl rfl rfl ?_;simp (maxSteps:=9^7)-implicitDefEqProofs+contextual [-getElem?_pos,avf,a56,au,cH];refine qL (uX hs) ?_ ?_ ?_
 iterate 2· simp (maxDischargeDepth:=8)-implicitDefEqProofs [-getElem?_pos,avf]
 simp (maxSteps:=9^7)-implicitDefEqProofs+contextual [-getElem?_pos,avf];refine qL (yk a (n0:=0) (by omega)) ?_ ?_ ?_
 iterate 2· simp (maxDischargeDepth:=8)-implicitDefEqProofs [-getElem?_pos,avf]
 simp (maxSteps:=9^7)-implicitDefEqProofs+contextual [-getElem?_pos,avf,au,cH];simp only [gE,cF,ee];refine bU [3,90,91,4] ?_ ?_ ?_ (fun b c=>?_) ?_ ?_
 iterate 3· simp
 ·omega
 iterate 2· simp (maxDischargeDepth:=8)-implicitDefEqProofs [aj,avf,gq]
end P
namespace P
open Go Go.RowKit
def du (r:iS):List PV:=[pi r.en,jh r.store,.fs 2 (tp r.outs),.fs 3 (yT r.trace),pi r.cost,pi r.used,pi r.wh]
def RH (p:aU) (t:dW) (c:dY):PH:=[.cells 1 (c.store.map pi),.cells 2 (rm c.outs),.cells 3 (rN c.trace),.cells 6 (oM c.todo),.cells 10 (cF c 0 1 2 3),.cells 2 (cH t),.cells 3 (au p),.cells 7 [pi 0,.v (.slice none 0 0),.v (.slice none 0 0),.v (.slice none 0 0),pi 0,pi 0,pi 0]]
def RL:List (Nat×PV):=[(3,.ref 6 0 3),(5,.ref 5 0 2),(6,.ref 7 0 7),(7,.ref 4 0 10)]
def RI (p:aU) (t:dW) (c0:dY) (k:Nat) (fr:PF) (h:PH):Prop:=∃c,k=uZ c∧Ay p t.bN c∧lK p t.bN c=lK p t.bN c0∧h=RH p t c∧fr.get 3= .ref 6 0 3∧fr.get 5= .ref 5 0 2∧fr.get 6= .ref 7 0 7∧fr.get 7= .ref 4 0 10
theorem EF {p:aU} {t:dW} {a c:dY} (b:Ay p t.bN c) (h2:lK p t.bN c=lK p t.bN a):RI p t a (uZ c) (PF.tm RL) (RH p t c):=⟨c,rfl,b,h2,rfl,by simp [RL],by simp [RL],by simp [RL],by simp [RL]⟩
theorem abJ {p:aU} {t:dW} {fuel:Int} (hs:t.store.length≤2^40) (A:av p.body<2^40) (v:Ay p t.bN (ee p fuel t)):
 fM E O 25 [.agg (au p),pi fuel,.agg (cH t)] [] (fun r h=>r= .agg (du (lK p t.bN (ee p fuel t)).run)∧h=[]):=by
 refine fM.body (F:=a25) rfl rfl rfl ?_;simp (maxSteps:=9^7)-implicitDefEqProofs+contextual [-getElem?_pos,avf,a25,au,cH];refine dt [] [] (PZ (fuel:=fuel) hs A) ?_ ?_ ?_ ?_ ?_ ?_ ?_
 iterate 6· first|rfl|simp (maxDischargeDepth:=8)-implicitDefEqProofs [-getElem?_pos,avf,aj,au,cH]
 rintro w z ⟨rfl,rfl⟩ _;generalize ee p fuel t=o at v⊢;simp (maxSteps:=9^7)-implicitDefEqProofs+contextual [-getElem?_pos,avf,cF,gE,bR];refine uS (RI p t o) (uZ o) (bX (h2:=RH p t o) [3,4,5,6,7,1,0,2] RL ?_ ?_ ?_ ?_ ?_ ?_) (EF v rfl) ?_
 ·simp [RH,RL,cF,au,cH]
 iterate 2· simp
 ·intro b n;omega
 iterate 2· simp (maxDischargeDepth:=8)-implicitDefEqProofs [aj,avf,RH,RL,cF,au,cH]
 rintro k B h ⟨c,rfl,I,u,rfl,f,e,d,a⟩
 cases i:cT c with
 |true=>
  have l:¬ (c.over=false∧¬ c.todo=[]):=by
   rintro ⟨y,x⟩;simp only [cT,y,Bool.false_or,List.isEmpty_iff]at i;exact x i
  rw [←u,GF i];simp (maxSteps:=9^7)-implicitDefEqProofs+contextual [-getElem?_pos,avf,RH,cF,a];refine rM (qQ c) ?_ ?_ ?_
  iterate 2· simp (maxDischargeDepth:=8)-implicitDefEqProofs [-getElem?_pos,avf,Sd]
  simp (maxSteps:=9^7)-implicitDefEqProofs+contextual [-getElem?_pos,avf,l,f,e,d,a];refine bW ?_;simp (maxDischargeDepth:=8)-implicitDefEqProofs [du,dY.run]
 |false=>
  have l:c.over=false∧¬ c.todo=[]:=by simpa [cT]using i
  obtain ⟨j,g⟩:=GD (p:=p) (ps:=t.bN) I.fuel.1 i;have s:=VZ I;have m:=GJ I;rw [u]at g;generalize bI p t.bN c=q at s m j g;simp (maxSteps:=9^7)-implicitDefEqProofs+contextual [-getElem?_pos,avf,RH,cF,a];refine rM (qQ c) ?_ ?_ ?_
  iterate 2· simp (maxDischargeDepth:=8)-implicitDefEqProofs [-getElem?_pos,avf,Sd]
  simp (maxSteps:=9^7)-implicitDefEqProofs+contextual [-getElem?_pos,avf,l,f,e,d,a,cH,au];refine dt [0,1,2,3] [] s ?_ ?_ ?_ ?_ ?_ ?_ ?_
  iterate 6· first|rfl|simp (maxDischargeDepth:=8)-implicitDefEqProofs [-getElem?_pos,avf,aj,gE,cF,au,cH,l]
  rintro w z (⟨rfl,rfl⟩|⟨rfl,rfl⟩|⟨rfl,rfl⟩) _
  ·simp (maxSteps:=9^7)-implicitDefEqProofs+contextual [-getElem?_pos,avf,cF,bR,a]
   refine .ofG j (bX (h2:=RH p t q) [0,1,2,3,4,5,6,7] RL ?_ ?_ ?_ ?_ ?_ ?_) (EF m g)
   ·simp [RH,RL,cF,au,cH,f,e,d,a]
   iterate 2· simp
   ·intro b n;omega
   iterate 2· simp (maxDischargeDepth:=8)-implicitDefEqProofs [aj,avf,RH,RL,cF,au,cH,f,e,d,a]
  ·simp (maxSteps:=9^7)-implicitDefEqProofs+contextual [-getElem?_pos,avf,cF,bR,a]
   refine .ofG j (bX (h2:=RH p t q) [0,1,2,8,4,5,6,7] RL ?_ ?_ ?_ ?_ ?_ ?_) (EF m g)
   ·simp [RH,RL,cF,au,cH,f,e,d,a]
   iterate 2· simp
   ·intro b n;omega
   iterate 2· simp (maxDischargeDepth:=8)-implicitDefEqProofs [aj,avf,RH,RL,cF,au,cH,f,e,d,a]
  ·simp (maxSteps:=9^7)-implicitDefEqProofs+contextual [-getElem?_pos,avf,cF,bR,a]
   refine .ofG j (bX (h2:=RH p t q) [8,1,2,9,4,5,6,7] RL ?_ ?_ ?_ ?_ ?_ ?_) (EF m g)
   ·simp [RH,RL,cF,au,cH,f,e,d,a]
   iterate 2· simp
   ·intro b n;omega
   iterate 2· simp (maxDischargeDepth:=8)-implicitDefEqProofs [aj,avf,RH,RL,cF,au,cH,f,e,d,a]
open Go Go.RowKit
theorem K4 {F:Nat→Prop} {H:AH}:∀{l:List (List Value)} {rs:List (List Value)},lR F H (l.map fun r=>r.map PV.v) rs→rs=l:=by
 have one:∀{r:List Value} {q:List Value},ju F H (r.map PV.v) q→q=r:=by
  intro r
  induction r with
  |nil=>intro q h;cases h;rfl
  |cons a r ih=>intro q h;cases h with|cons a b=>cases a;rw [ih b]
 intro l
 induction l with
 |nil=>intro rs h;cases h;rfl
 |cons a l ih=>intro rs h;cases h with|cons a b=>rw [one a,ih b]
theorem EG {F:Nat→Prop} {H:AH} {sz:Nat} {rows:List (List PV)} {l:List (List Value)} {x:Value} (e:rows=l.map fun r=>r.map PV.v) (h:RF F H (.fs sz rows) x):Rows H sz x l:=by
 subst e;obtain ⟨rs,a,h2,_⟩:=ji h;rwa [K4 h2]at a
end P
namespace P
open Go Go.RowKit
section
variable{T:Type} {enc:TypeId×Value→T} {W:World}
theorem yp:∀{l:List ch},(∀e∈l,Hw e)→CA l
 |[],_=>trivial
 |e::l,h=>⟨h e (by simp),yp fun x a=>h x (by simp [a])⟩
theorem ts:∀{l:List bF},(∀e∈l,EB e)→x9 l
 |[],_=>trivial
 |e::l,h=>⟨h e (by simp),ts fun x a=>h x (by simp [a])⟩
theorem P2:∀(n:Nat) (cs:List Value) (d:DataW T),Rd enc Tryz.prog W n 117 cs d→zN Tryz.prog 117 d→∃l e,aS W.heap.size cs=some l∧ju (F0 W) (H0 W) (iG e) l∧Hw e:=by
 intro n
 induction n using Nat.strongRecOn with
 |_ n ih=>
  intro cs d h z;obtain ⟨j,m,J,a⟩:=nX Tryz.underlying117 h z;rw [cE]at j;obtain ⟨S,R,Q,P,rfl⟩:=ZP j;obtain ⟨O,f,x⟩:=a 0 _ rfl;obtain ⟨N,c,w⟩:=a 1 _ rfl;obtain ⟨M,h2,u⟩:=a 2 _ rfl;obtain ⟨L,b,g⟩:=a 3 _ rfl;simp only [List.getElem_toArray,List.getElem_cons_zero,List.getElem_cons_succ]at f c h2 b x w u g;rw [cI]at f c h2;rw [cEs]at b;obtain ⟨op,r,I⟩:=kh Tryz.underlying3 f;obtain ⟨i,q,H⟩:=kh Tryz.underlying3 c;obtain ⟨s,p,G⟩:=kh Tryz.underlying3 h2;obtain ⟨v,t,D,o,C,B⟩:=wE iG (ok:=Hw) Tryz.underlying112 (by rw [cE];omega) (by rw [cE];omega) (by decide+kernel) (by simpa using b) g (fun k F E K A y=>ih k (by omega) F E A y);rw [cE]at o;simp at r q p;subst r;subst q;subst p;refine ⟨[.int .i64 op,.int .i64 i,.int .i64 s,v],.mk op i s t,fS (fS (fS D)),.cons (.v _) (.cons (.v _) (.cons (.v _) (.cons (by rw [lO];exact o) .nil))),wf_i64 I,wf_i64 H,wf_i64 G,Ga B (by decide+kernel),yp C⟩
theorem P3:∀(n:Nat) (cs:List Value) (d:DataW T),Rd enc Tryz.prog W n 114 cs d→zN Tryz.prog 114 d→∃l e,aS W.heap.size cs=some l∧ju (F0 W) (H0 W) (bQ e) l∧EB e:=by
 intro n
 induction n using Nat.strongRecOn with
 |_ n ih=>
  intro cs d h U;obtain ⟨y,m,Y,c⟩:=nX Tryz.underlying114 h U;rw [cS]at y;obtain ⟨c0,c1,c2,c3,c4,rfl⟩:=ZQ y;obtain ⟨d0,p,G⟩:=c 0 _ rfl;obtain ⟨d1,o,F⟩:=c 1 _ rfl;obtain ⟨d2,h2,s⟩:=c 2 _ rfl;obtain ⟨d3,j,r⟩:=c 3 _ rfl;obtain ⟨Z,i,q⟩:=c 4 _ rfl;simp only [List.getElem_toArray,List.getElem_cons_zero,List.getElem_cons_succ]at p o h2 j i G F s r q;rw [cI]at p o;rw [cEs]at h2;rw [cSs]at j i;obtain ⟨op,B,X⟩:=kh Tryz.underlying3 p;obtain ⟨x,A,V⟩:=kh Tryz.underlying3 o;obtain ⟨J,E,S,w,R,Q⟩:=wE iG (ok:=Hw) Tryz.underlying112 (by rw [cE];omega) (by rw [cE];omega) (by decide+kernel) (by simpa using h2) s (fun k g f z b a=>P2 k g f b a);obtain ⟨H,C,P,u,O,N⟩:=wE bQ (ok:=EB) Tryz.underlying23 (by rw [cS];omega) (by rw [cS];omega) (by decide+kernel) (by simpa using j) r (fun k g f z b a=>ih k (by omega) g f b a);obtain ⟨I,D,M,t,L,K⟩:=wE bQ (ok:=EB) Tryz.underlying23 (by rw [cS];omega) (by rw [cS];omega) (by decide+kernel) (by simpa using i) q (fun k g f z b a=>ih k (by omega) g f b a);rw [cE]at w;rw [cS]at u t;simp at B A;subst B;subst A;exact ⟨[.int .i64 op,.int .i64 x,J,H,I],.mk op x E C D,fS (fS (ng S (ng P M))),.cons (.v _) (.cons (.v _) (.cons (by rw [lO];exact w) (.cons (by rw [jZ];exact u) (.cons (by rw [jZ];exact t) .nil)))),wf_i64 X,wf_i64 V,Ga Q (by decide+kernel),Ga N (by decide+kernel),Ga K (by decide+kernel),yp R,ts O,ts L⟩
theorem V2 (n:Nat) (cs:List Value) (d:DataW T) (h:Rd enc Tryz.prog W n 108 cs d) (a:zN Tryz.prog 108 d):∃l y,aS W.heap.size cs=some l∧ju (F0 W) (H0 W) (As y) l∧y.name.size<2^60:=by
 obtain ⟨l,y,c,rfl,b⟩:=Ud n cs d h a;exact ⟨_,y,c,.cons (.v _) (.cons (.v _) (.cons (.v _) .nil)),b⟩
theorem P4 (n:Nat) (cs:List Value) (d:DataW T) (h:Rd enc Tryz.prog W n 25 cs d) (G:zN Tryz.prog 25 d):∃l p,aS W.heap.size cs=some l∧ju (F0 W) (H0 W) (au p) l∧gZ p:=by
 obtain ⟨s,m,L,c⟩:=nX Tryz.underlying25 h G;rw [cP]at s;obtain ⟨R,Q,P,rfl⟩:=JB s;obtain ⟨O,f,z⟩:=c 0 _ rfl;obtain ⟨N,e,o⟩:=c 1 _ rfl;obtain ⟨M,h2,j⟩:=c 2 _ rfl;simp only [List.getElem_toArray,List.getElem_cons_zero,List.getElem_cons_succ]at f e h2 z o j;rw [cI]at f;rw [cVs]at e;rw [cSs]at h2;obtain ⟨w,t,I⟩:=kh Tryz.underlying3 f;obtain ⟨J,u,F,r,E,D⟩:=wE As (ok:=fun y=>y.name.size<2^60) Tryz.underlying22 (by rw [cV];omega) (by rw [cV];omega) (by decide+kernel) (by simpa using e) o (fun k i g H b a=>V2 k i g b a);obtain ⟨K,x,C,q,B,A⟩:=wE bQ (ok:=EB) Tryz.underlying23 (by rw [cS];omega) (by rw [cS];omega) (by decide+kernel) (by simpa using h2) j (fun k i g H b a=>P3 k i g b a);rw [cV]at r;rw [cS]at q;simp at t;subst t;exact ⟨_,⟨w,u,x⟩,fS (ng F C),.cons (.v _) (.cons r (.cons (by rw [jZ];exact q) .nil)),wf_i64 I,⟨Ga D (by decide+kernel),E⟩,ts B,Ga A (by decide+kernel)⟩
end
end P
namespace P
open Go Go.RowKit
theorem Sg {F:Nat→Prop} {H:AH}:∀r:List Value,ju F H (r.map PV.v) r
 |[]=>.nil
 |a::r=>.cons (.v a) (Sg r)
theorem Sh {F:Nat→Prop} {H:AH}:∀l:List (List Value),lR F H (l.map fun r=>r.map PV.v) l
 |[]=>.nil
 |a::l=>.cons (Sg a) (Sh l)
theorem CH {F:Nat→Prop} {H:AH} {sz:Nat} {v:Value} {rows:List (List Value)} (h:dU H sz v rows) (j:∀b,aX v b→F b):RF F H (.fs sz (rows.map fun r=>r.map PV.v)) v:=by
 have i:=h.rows;rcases h.is with⟨rfl,rfl⟩|⟨b,rfl,k,g⟩
 ·exact .fs (rows:=[]) (rs:=[]) i (avk _) (fun d f=>by cases f) .nil
 ·have e:(rows.map fun r=>r.map PV.v).length=rows.length:=List.length_map ..
  have:=RF.fs (F:=F) (H:=H) (sz:=sz) (rows:=rows.map fun r=>r.map PV.v) (a:=some ⟨b,0,none⟩) (c:=rows.length) (rs:=rows) (by rw [e];exact i) (by rw [e];exact avk _) (fun d f=>by
   cases f;refine ⟨.inl rfl,.inr ⟨j b ((bJ _ _ _ _ _).2 rfl),?_⟩⟩
   simp [AH.lS,g]) (Sh rows)
  rw [e]at this;exact this
theorem K5 {F:Nat→Prop} {H:AH} {n:Nat} {cs:List Value} {r:iS} (h:mH H n cs r) (l:∀vs vo vt,cs=[.int .i64 r.en,vs,vo,vt,.int .i64 r.cost,.int .i64 r.used,.int .i64 r.wh]→∀b,aX vs b∨aX vo b∨aX vt b→F b):ju F H (du r) cs:=by
 obtain ⟨vs,vo,vt,e,a,b,c,d⟩:=h.is;have k:=l vs vo vt e;have j:=CH a (fun x f=>k x (.inl f));have i:=CH b (fun x f=>k x (.inr (.inl f)));have g:=CH c (fun x f=>k x (.inr (.inr f)));have p:(a7 r.store).map (fun r=>r.map PV.v)=ir r.store:=by simp [a7,ir,pi,Function.comp_def]
 have o:(dH r.outs).map (fun r=>r.map PV.v)=tp r.outs:=by simp [dH,Ck,tp,pi,Function.comp_def]
 have m:(dj r.trace).map (fun r=>r.map PV.v)=yT r.trace:=by simp [dj,Ev.row,yT,pi,Function.comp_def]
 rw [p]at j;rw [o]at i;rw [m]at g;subst e;exact .cons (.v _) (.cons j (.cons i (.cons g (.cons (.v _) (.cons (.v _) (.cons (.v _) .nil))))))
theorem CJ {p:aU} {t:dW} {fuel:Int} (u:gZ p) (r:CB t):Fz E O 47 [.agg (au p),pi fuel,.agg (cH t)] (.hZ [.agg (du (gJ p fuel t)),pi (fQ p fuel t)]):=by
 intro F H j J S g
 cases g with|cons a g=>
 cases g with|cons b g=>
 cases g with|cons c g=>
 cases g;cases b;obtain ⟨M,rfl,D⟩:=pj (by simp) a;obtain ⟨L,rfl,B⟩:=pj (by simp) c;refine (O5 S.wf (yg u D) (KW r B)).mono ?_;rintro x I ⟨cs,rfl,m,X⟩;obtain ⟨us,o,ut,e,A,y,w,d⟩:=m.is
 have K:∀{V:Nat→Prop} {x:Nat},¬ im ⟨F,H,j,[]⟩ V x:=by
  rintro V x ⟨b,_,s,_⟩;have:=aW s;simp at this
 have no:∀{b:Nat} {F:Nat→Prop} {H:AH},¬ aY (Cx.mk F H j []).h b:=fun s=>by have:=aW s;simp at this
 let n:Nat→Prop:=fun b=>F b∨(H.nx≤b∧(aX us b∨aX o b∨aX ut b))
 have k:ju n I (du (gJ p fuel t)) cs:=K5 m (fun R Q P l b i=>by
  rw [e]at l;simp only [List.cons.injEq,true_and,and_true]at l;obtain ⟨rfl,rfl,rfl⟩:=l
  exact .inr ⟨d b i,i⟩)
 refine ⟨_,[],n,j,⟨rfl,rfl,by simp [du]⟩,?_,?_,?_⟩
 ·exact .hZ (.cons (.agg (k.sy (C:=⟨_,_,_,_⟩))) (.cons (.v _) .nil))
 ·exact {
   wf:=X.wf S.wf
   fz:=fun x f=>by
    rcases f with q|⟨_,q|q|q⟩
    ·exact avD (S.fz x q) X.nx
    ·exact A.lt q
    ·exact y.lt q
    ·exact w.lt q
   inj:=fun b N s=>absurd s no
   aX:=fun b z cs e=>by simp at e
   Ae:=fun b es e=>by simp at e}
 ·exact {
   n0:=X.n0
   nx:=X.nx
   fz:=fun x f=>⟨.inl f,X.old x (S.fz x f)⟩
   fo:=fun x f _ G=>by
    rcases G with q|⟨q,_⟩
    ·exact q
    ·dsimp only at f;omega
   out:=fun x f _=>X.old x f
   loc:=fun b d=>absurd d no
   len:=fun _=>avI _
   le:=fun b d=>absurd d (avG _)
   vP:=fun b d=>absurd d (avG _)
   wz:=fun b d=>absurd d (avG _)}
theorem CK {p:aU} {t:dW} {fuel:Int} (c:gZ p) (g:av p.body≤2^20) (d:fQ p fuel t=0):Ay p t.bN (ee p fuel t):=by
 obtain ⟨a,_,f,e,_⟩:=ot d;have b:=e8 p.body;exact {toInv:=a,wF:=lP c.2.2.1,len:=by show((bO p.body 0).length:Int)+500*fuel≤2^30;rw [gq];omega}
theorem K6 {p:aU} {t:dW} {fuel:Int} (b:gZ p) (c:av p.body≤2^20) (a:fQ p fuel t=0):Fz E O 25 [.agg (au p),pi fuel,.agg (cH t)] (.agg (du (gJ p fuel t))):=by
 have e:gJ p fuel t=(lK p t.bN (ee p fuel t)).run:=by rw [gJ,if_pos a]
 rw [e];exact (abJ (wy (ot a).1).1 (by omega) (CK b c a)).mono (by rintro r h ⟨rfl,rfl⟩;exact ⟨rfl,rfl,by simp [du]⟩)
open Go Go.RowKit
theorem P5 {l:List bF} {m:Int} (ok:x9 l) (g:l.length<2^60) (f:0≤m∧m≤1000000):Fz E O 10 [.fs 5 (iK l),pi m] (pb (decide (av l≤m))):=
 Fz.kD fun F H h i w c=>by
  cases c with|cons a c=>
  cases c with|cons b c=>
  cases c;cases b;obtain ⟨rs,e,d,_⟩:=ji (GB a);exact zu w g e (qN ok d) f
theorem abK {p:aU} (c:gZ p):Fz E O 40 [.agg (au p)] (pb (bm p)):=
 Fz.kD fun F H e f w b=>by
  cases b with|cons a b=>
  cases b;obtain ⟨g,rfl,d⟩:=pj (by simp) a;exact TS w (yg c d)
theorem qR {p:aU} (c:gZ p):Fz E O 37 [.agg (au p)] (pi (if bm p=true then 0 else 30)):=
 Fz.kD fun F H e f w b=>by
  cases b with|cons a b=>
  cases b;obtain ⟨g,rfl,d⟩:=pj (by simp) a;exact rz w (yg c d)
theorem K7 {p:aU} {t:dW} (e:gZ p) (d:CB t):Fz E O 38 [.agg (au p),.agg (cH t)] (pi (fQ p 0 t)):=
 Fz.kD fun F H g h w b=>by
  cases b with|cons a b=>
  cases b with|cons c b=>
  cases b;obtain ⟨j,rfl,f⟩:=pj (by simp) a;obtain ⟨i,rfl,h2⟩:=pj (by simp) c;exact F8 w (yg e f) (KW d h2)
theorem yq {l m:List Int} (d:l.length≤2^60):Fz E O 29 [jh l,jh m] (pb (decide (l=m))):=
 Fz.kD fun F H e f g a=>by
  cases a with|cons b a=>
  cases a with|cons c a=>
  cases a;refine (JF (kS (GB b)) (kS (GB c)) d).mono ?_;rintro x h ⟨rfl,rfl⟩;exact ⟨rfl,Ext.refl _⟩
theorem yr {l:List Int} (c:l.length≤2^40):Fo E O 70 [jh l] 1 l.length (l.map pi):=by
 have:=Fo.kD (f:=70) (args:=[jh l]) (rows:=a7 l) Nat.one_pos (fun F H e g w d=>by
  cases d with|cons a b=>
  cases b
  exact lH w (kS (GB a)) c)
 rw [iy]at this
 simpa [a7]using this
end P
section
open Go
def CL (p:aU) (fuel:Int) (s ps:List Int):Int:=(gJ p fuel ⟨s,ps⟩).en
def bP (p:aU):Nat:=2^p.w.toNat
def kids (p:aU) (ps:List Int):List (List Int):=(List.range (bP p)).map fun(a:Nat)=>ps++[(a:Int)]
def hY {α:Type}:List (Option (List α))→Option (List α)
 |[]=>some []
 |x::l=>x.bind fun a=>(hY l).map fun b=>a++b
theorem nC {α:Type} (a b:List (Option (List α))):hY (a++b)=(hY a).bind fun x=>(hY b).map fun y=>x++y:=by
 induction a with
 |nil=>simp [hY]
 |cons x a ih=>
  simp only [List.cons_append,hY,ih]
  cases x with
  |none=>rfl
  |some u=>cases hY a<;>cases hY b<;>simp
def leaves (p:aU) (fuel:Int) (s:List Int):Nat→List Int→Option (List (List Int))
 |0,ps=>if CL p fuel s ps=4 then none else some [ps]
 |d+1,ps=>if CL p fuel s ps=4 then hY ((kids p ps).map fun q=>leaves p fuel s d q)else some [ps]
def under (p:aU) (fuel:Int) (s ps:List Int):Option (List (List Int)):=leaves p fuel s (16- ps.length) ps
theorem wG {p:aU} {fuel:Int} {s ps:List Int} (h:CL p fuel s ps≠4):under p fuel s ps=some [ps]:=by
 unfold under;cases 16- ps.length<;>simp [leaves,h]
theorem CM {p:aU} {fuel:Int} {s ps:List Int} (h:CL p fuel s ps=4) (a:16≤ps.length):under p fuel s ps=none:=by
 unfold under;rw [show 16- ps.length=0 by omega,leaves,if_pos h]
theorem nD {p:aU} {ps q:List Int} (h:q∈kids p ps):q.length=ps.length+1:=by
 simp only [kids,avN]at h;obtain ⟨a,_,rfl⟩:=h;simp
theorem CN {p:aU} {fuel:Int} {s ps:List Int} (h:CL p fuel s ps=4) (c:ps.length<16):under p fuel s ps=hY ((kids p ps).map (under p fuel s)):=by
 unfold under
 obtain ⟨d,b⟩:∃d,16- ps.length=d+1:=⟨15- ps.length,by omega⟩
 rw [b,leaves,if_pos h];congr 1;refine List.map_congr_left fun q a=>?_
 rw [nD a,show 16- (ps.length+1)=d by omega]
def kU (p:aU) (fuel:Int) (s:List Int):Option (List (List Int)):=under p fuel s []
def ofM (p:aU) (fuel:Int) (s:List Int) (most:Nat):Option (List (List Int)):=(kU p fuel s).bind fun l=>if l.length≤most then some l else none
def rest (p:aU) (fuel:Int) (s:List Int) (q6:List (List Int)):Option (List (List Int)):=hY (q6.reverse.map (under p fuel s))
theorem oA {p:aU} {fuel:Int} {s:List Int} (st:List (List Int)) (q:List Int):rest p fuel s (st++[q])=(under p fuel s q).bind fun x=>(rest p fuel s st).map fun y=>x++y:=by
 simp [rest,hY]
theorem GK {p:aU} {fuel:Int} {s:List Int} (st a:List (List Int)):rest p fuel s (st++a.reverse)=(hY (a.map (under p fuel s))).bind fun x=>(rest p fuel s st).map fun y=>x++y:=by
 simp [rest,nC]
def wH (q6:List (List Int)):Prop:=∀i q,q6[i]?=some q→i≤255*q.length∧q.length≤16∧∀n∈q,0≤n∧n<256
theorem wI {st:List (List Int)} {q:List Int} (h:wH (st++[q])):wH st:=fun i u hi=>h i u (by
 rw [avt (avm.1 hi).1];exact hi)
theorem GM {a:List (List Int)} (h:wH a):a.length≤4081:=by
 rcases Nat.eq_zero_or_pos a.length with b|b
 ·omega
 ·have:=h (a.length- 1) (a[a.length- 1]'(by omega)) (avg (by omega))
  have c:=this.1;have h2:=this.2.1;omega
theorem CO {p:aU} {st:List (List Int)} {q:List Int} (e:bP p≤256) (h:wH (st++[q])) (g:q.length<16):wH (st++(kids p q).reverse):=by
 intro i u hi;have f:=(h st.length q (by simp)).1;rcases Nat.lt_or_ge i st.length with c|c
 ·rw [avt c]at hi
  exact wI h i u hi
 ·rw [avx c]at hi
  have b:u∈kids p q:=by
   have:=avl hi
   simpa using this
  have j:=nD b
  have l:i- st.length<(kids p q).length:=by
   have:=(avm.1 hi).1
   simpa using this
  have k:(kids p q).length=bP p:=by simp [kids]
  refine ⟨by omega,by omega,fun n d=>?_⟩;simp only [kids,avN,List.mem_range]at b;obtain ⟨a,m,rfl⟩:=b;rcases avA.1 d with h2|h2
  ·exact (h st.length q (by simp)).2.2 n h2
  ·simp at h2;omega
theorem GN {p:aU} {q:List Int} {j:Nat} (h:j<bP p):(kids p q).reverse.take (j+1)=(kids p q).reverse.take j++[q++[((bP p- 1- j:Nat):Int)]]:=by
 have a:(kids p q).length=bP p:=by simp [kids]
 rw [avB,List.getElem?_reverse (by omega),a];simp only [kids,avK,List.getElem?_range (show bP p- 1- j<bP p by omega)];rfl
theorem u6 {p:aU} {q:List Int}:(kids p q).reverse.take (bP p)=(kids p q).reverse:=avn (by simp [kids])
def oN (q6:List (List Int)):Nat:=(q6.map fun q=>257^(17- q.length)).sum
theorem nE (a b:List (List Int)):oN (a++b)=oN a+oN b:=by simp [oN]
theorem GO {p:aU} {q:List Int} (a:bP p≤256) (f:q.length<16):oN (kids p q).reverse<257^(17- q.length):=by
 have d:oN (kids p q).reverse=bP p*257^(16- q.length):=by
  have:∀l:List (List Int),(∀u∈l,u.length=q.length+1)→oN l=l.length*257^(16- q.length):=by
   intro l
   induction l with
   |nil=>intro _;simp [oN]
   |cons u l ih=>
    intro h;have e:oN (u::l)=257^(17- u.length)+oN l:=by simp [oN]
    rw [e,ih fun v b=>h v (by simp [b]),h u (by simp),show 17- (q.length+1)=16- q.length by omega,List.length_cons,Nat.succ_mul];omega
  rw [this _ fun u c=>nD (by simpa using c)];simp [kids]
 rw [d,show 17- q.length=(16- q.length)+1 by omega,Nat.pow_succ];have:0<257^(16- q.length):=Nat.pow_pos (by omega)
 calc bP p*257^(16- q.length)≤256*257^(16- q.length):=Nat.mul_le_mul_right _ a
  _<257^(16- q.length)*257:=by omega
theorem pk {p:aU} (h:bm p=true):1≤p.w∧p.w≤8:=by
 simp only [bm,aC,bE,avj,avs]at h;exact h.1.1
theorem rP {p:aU} (h:bm p=true):bP p≤256:=by
 have a:=pk h;have:p.w.toNat≤8:=by omega
 exact avC (Nat.pow_le_pow_right (by omega) this) (by decide)
end
namespace P
open Go Go.RowKit
def str (l:List dW):List (List PV):=l.map cH
def u7 (l:List dW):List PV:=(str l).flatten
@[simp]theorem ae3:str []=[]:=rfl
@[simp]theorem ae4:u7 []=[]:=rfl
@[simp]theorem AA (a:dW) (l:List dW):u7 (a::l)=cH a++u7 l:=by simp [u7,str]
theorem eD (a b:List dW):u7 (a++b)=u7 a++u7 b:=by simp [u7,str]
@[simp]theorem CP (l:List dW):(str l).length=l.length:=by simp [str]
@[simp]theorem XV (t:dW):(cH t).take 2=cH t:=rfl
@[simp]theorem XW (p:aU):(au p).take 3=au p:=rfl
@[simp]theorem Si (p:aU):(au p).length=3:=rfl
@[simp]theorem Sj (t:dW):(cH t).length=2:=rfl
@[simp]theorem CQ:∀l:List dW,(u7 l).length=l.length*2
 |[]=>rfl
 |a::l=>by rw [AA,avp,CQ l];simp;omega
@[simp]theorem yu:∀l:List dW,(u7 l).all tn=true
 |[]=>rfl
 |a::l=>by rw [AA,List.all_append,yu l];simp [tn,cH]
@[simp]theorem ae5 (l:List dW):dN (u7 l)=true:=qK (yu l)
theorem tt (l:List dW) (i:Nat):(str l)[i]?=(l[i]?).map cH:=by simp [str]
theorem P6 (l:List dW):∀r∈str l,r.length=2:=by
 intro r a;simp only [str,avN]at a;obtain ⟨t,_,rfl⟩:=a;rfl
theorem K8 {n:Nat} (c:n≤60):Fz E O 81 [pi n] (pi (2^n)):=
 Fz.kD fun F H d e w b=>by
  cases b with|cons a b=>
  cases b;cases a;refine (BJ n c H).mono ?_;rintro x f ⟨rfl,rfl⟩;exact ⟨rfl,Ext.refl _⟩
theorem abL {w:Int} (c:1≤w∧w≤8):Fz E O 75 [pi w] (pi (2^w.toNat- 1)):=by
 refine Fz.body (F:=a75) rfl rfl rfl rfl ?_;have a:=fT c;obtain ⟨n,rfl⟩:=Int.eq_ofNat_of_zero_le (show 0≤w by omega);have b:IntKind.i64.wrap ((2:Int)^n- 1)=2^n- 1:=ai ⟨by simp at a;omega,by simp at a;omega⟩;simp (maxSteps:=9^7)-implicitDefEqProofs+contextual [-getElem?_pos,avf,a75];refine aF (K8 (n:=n) (by omega)) ?_ ?_ ?_
 iterate 2· simp (maxDischargeDepth:=8)-implicitDefEqProofs [-getElem?_pos,avf]
 simp (maxSteps:=9^7)-implicitDefEqProofs+contextual [-getElem?_pos,avf,b]
def cC (p:aU) (fuel:Int):Int:=if bm p=false then 30 else if fuel<0∨4096<fuel then 1 else 0
theorem V3 {p:aU} {fuel:Int} (b:gZ p):Fz E O 13 [.agg (au p),pi fuel] (pi (cC p fuel)):=by
 refine Fz.body (F:=a13) rfl rfl rfl rfl ?_;simp (maxSteps:=9^7)-implicitDefEqProofs+contextual [-getElem?_pos,avf,a13,au];refine aF (abK b) ?_ ?_ ?_
 iterate 2· simp (maxDischargeDepth:=8)-implicitDefEqProofs [-getElem?_pos,avf,au]
 cases h:bm p with
 |false=>
  simp (maxSteps:=9^7)-implicitDefEqProofs+contextual [-getElem?_pos,avf,cC,h]
 |true=>
  by_cases a:fuel<0
  ·simp (maxSteps:=9^7)-implicitDefEqProofs [-getElem?_pos,avf,cC,h,a]
  ·by_cases h2:4096<fuel
   ·simp (maxSteps:=9^7)-implicitDefEqProofs [-getElem?_pos,avf,cC,h,a,h2]
   ·simp (maxSteps:=9^7)-implicitDefEqProofs [-getElem?_pos,avf,cC,h,a,h2]
theorem AB {t:dW} (a:CB t):Fz E O 44 [.agg (cH t),.agg (cH t)] (pb true):=by
 refine Fz.body (F:=a44) rfl rfl rfl rfl ?_;simp (maxSteps:=9^7)-implicitDefEqProofs+contextual [-getElem?_pos,avf,a44,cH];refine aF (yq (l:=t.store) (m:=t.store) (by have:=a.1;omega)) ?_ ?_ ?_
 iterate 2· simp (maxDischargeDepth:=8)-implicitDefEqProofs [-getElem?_pos,avf]
 simp (maxSteps:=9^7)-implicitDefEqProofs+contextual [-getElem?_pos,avf];refine aF (yq (l:=t.bN) (m:=t.bN) (by have:=a.2.1;omega)) ?_ ?_ ?_
 iterate 2· simp (maxDischargeDepth:=8)-implicitDefEqProofs [-getElem?_pos,avf]
 simp (maxSteps:=9^7)-implicitDefEqProofs+contextual [-getElem?_pos,avf]
theorem V4 {l:List dW} (ok:∀t∈l,CB t) (g:l.length<2^60):Fz E O 16 [.fs 2 (str l),.fs 2 (str l)] (pb true):=by
 refine Fz.body (F:=a16) rfl rfl rfl rfl ?_;simp (maxSteps:=9^7)-implicitDefEqProofs+contextual [-getElem?_pos,avf,a16];refine pP (fun i a h=>h=[]∧a.get 0= .fs 2 (str l)∧a.get 1= .fs 2 (str l)∧a.get 5=pi i) l.length ?_ ?_
 ·exact ⟨rfl,by simp,by simp,by simp⟩
 rintro i a h hi ⟨rfl,c,b,d⟩;by_cases h:i<l.length
 ·obtain ⟨t,e⟩:∃t,l[i]?=some t:=⟨_,avg h⟩
  have f:IntKind.i64.wrap ((i:Int)+1)=((i+1:Nat):Int):=ai ⟨by omega,by omega⟩;simp (maxSteps:=9^7)-implicitDefEqProofs+contextual [-getElem?_pos,avf,c,b,d,h,tt,e];refine aF (AB (ok t (avl e))) ?_ ?_ ?_
  iterate 2· simp (maxDischargeDepth:=8)-implicitDefEqProofs [-getElem?_pos,avf]
  simp (maxSteps:=9^7)-implicitDefEqProofs+contextual [-getElem?_pos,avf,c,b,d,f];exact .for h ⟨rfl,by simp [c],by simp [b],by simp⟩
 ·obtain rfl:i=l.length:=by omega
  simp (maxSteps:=9^7)-implicitDefEqProofs+contextual [-getElem?_pos,avf,c,b,d]
end P
end Go.Proofs.YtppcmpmnglaleaaGreatDoor.A
