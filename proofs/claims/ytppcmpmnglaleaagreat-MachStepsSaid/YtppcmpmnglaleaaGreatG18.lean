/- Texts that stand one behind the other: Pm13, Pm14, Pm15, Q1, Q2, Q3, Q4, Q5, Q6, Q7, Q8, Q9, Q10, Q11, Q11b, Q13, Y1, Y2, Y3. -/
import Derived.Test.YtppcmpmnglaleaaGreatG17
set_option linter.unusedVariables false
set_option linter.unusedSimpArgs false
namespace Go.Proofs.YtppcmpmnglaleaaGreat.A
namespace P
open Go Go.RowKit
variable{E:Env} {O:kl}
mutual
def Ab (τ:Nat→Nat):PV→PV
 | .ref b o t=>.ref (τ b) o t
 | .sl sz b o n c=>.sl sz (τ b) o n c
 | .mp b=>.mp (τ b)
 | .agg cs=>.agg (mF τ cs)
 | .kG cs=>.kG (mF τ cs)
 | .fn f a b=>.fn f (mF τ a) (mF τ b)
 | .pj t p=>.pj t (Ab τ p)
 | .v x=>.v x
 | .fs sz rows=>.fs sz rows
 | .fp cells=>.fp cells
 | .any=>.any
def mF (τ:Nat→Nat):List PV→List PV
 |[]=>[]
 |p::ps=>Ab τ p::mF τ ps
end
attribute [simp] Ab mF
mutual
theorem BN (c:Nat→Nat):∀{p:PV},nW p=true→Ab c p=p
 | .v _,_=>rfl
 | .fs _ _,_=>rfl
 | .fp _,_=>rfl
 | .agg cs,h=>by rw [Ab,kK c (by simpa using h)]
 | .kG cs,h=>by rw [Ab,kK c (by simpa using h)]
 | .fn f a b,h=>by
  simp only [nW,apJ]at h;rw [Ab,kK c h.1,kK c h.2]
 | .pj t p,h=>by rw [Ab,BN c (by simpa using h)]
theorem kK (a:Nat→Nat):∀{l:List PV},eN l=true→mF a l=l
 |[],_=>rfl
 |p::l,h=>by
  simp only [eN,apJ]at h;rw [mF,BN a h.1,kK a h.2]
end
@[simp]theorem Sg {a:Nat→Nat} {l:List PV} (h:eN l=true):mF a l=l:=kK a h
def KZ (τ:Nat→Nat):PB→PB
 | .cells z cs=>.cells z (mF τ cs)
 | .map es=>.map (es.map fun e=>(e.1,Ab τ e.2))
 | .dead=>.dead
theorem iA (a:Nat→Nat):∀l:List PV,(mF a l).length=l.length
 |[]=>rfl
 |_::l=>by simp [mF,iA a l]
theorem yh (a:Nat→Nat):∀es:List (Value×PV),(es.map fun e=>(e.1,Ab a e.2)).map (·.2)=mF a (es.map (·.2))
 |[]=>rfl
 |_::l=>by simp only [List.map_cons,mF,yh a l]
structure Dg (τ:Nat→Nat) (bs h:PH):Prop where
 get:∀i,i<bs.length→h[τ i]?=(bs[i]?).map (KZ τ)
section
variable{τ:Nat→Nat} {bs h:PH}
theorem Dg.at (M:Dg τ bs h) {i t:Nat} (hi:i<bs.length):At h (τ i) t↔At bs i t:=by
 unfold At;rw [M.get i hi];constructor
 ·rintro ⟨z,cs,e,rfl⟩
  obtain ⟨P,a,e⟩:=apQ.1 e
  cases P with
  |cells c b=>cases e;exact ⟨_,b,a,(iA _ _).symm⟩
  |_=>cases e
 ·rintro ⟨z,cs,e,rfl⟩
  exact ⟨z,mF τ cs,by rw [e];rfl,iA _ _⟩
theorem Dg.le (M:Dg τ bs h) {i t:Nat} (hi:i<bs.length):Le h (τ i) t↔Le bs i t:=by
 unfold Le;rw [M.get i hi];constructor
 ·intro k z cs e
  have:=k z (mF τ cs) (by rw [e];rfl);rwa [iA]at this
 ·intro k z cs e
  obtain ⟨P,a,e⟩:=apQ.1 e
  cases P with
  |cells c b=>cases e;rw [iA];exact k _ b a
  |_=>cases e
theorem Dg.db (M:Dg τ bs h) {i:Nat} (hi:i<bs.length):P.db h (τ i)↔P.db bs i:=by
 unfold P.db;rw [M.get i hi];constructor
 ·rintro ⟨es,e⟩
  obtain ⟨P,b,e⟩:=apQ.1 e
  cases P with
  |map a=>exact ⟨a,b⟩
  |_=>cases e
 ·rintro ⟨es,e⟩
  exact ⟨_,by rw [e];rfl⟩
theorem Dg.aY (M:Dg τ bs h) {i:Nat} (hi:i<bs.length):P.aY h (τ i)↔P.aY bs i:=by
 unfold P.aY;simp only [M.db hi,M.at hi]
theorem Dg.lt (M:Dg τ bs h) {i:Nat} (hi:i<bs.length):τ i<h.length:=by
 have:=M.get i hi;rw [apG hi]at this;exact (apM.1 this).1
mutual
theorem Ac (M:Dg τ bs h) {F:Nat→Prop} {H:AH} {j ψ:Nat→Nat} (e:∀i,i<bs.length→j (τ i)=ψ i):∀{p:PV} {x:Value},RV ⟨F,H,ψ,bs⟩ p x→RV ⟨F,H,j,h⟩ (Ab τ p) x
 |_,_, .v x=> .v x
 |_,_, .ref a d g f=> .ref a (M.lt d) ((M.le d).2 g) fun k=>by
  have:=f ((M.at d).1 k);dsimp only at this⊢;rwa [e _ d]
 |_,_, .sl a d g f=> .sl a (M.lt d) ((M.le d).2 g) fun k=>by
  have:=f ((M.at d).1 k);dsimp only at this⊢;rwa [e _ d]
 |_,_, .mp a d f=> .mp a (M.lt d) fun k=>by
  have:=f ((M.db d).1 k);dsimp only at this⊢;rwa [e _ d]
 |_,_, .fs k=> .fs k
 |_,_, .fp a b c=> .fp a b c
 |_,_, .agg k=> .agg (ly M e k)
 |_,_, .kG k=> .kG (ly M e k)
 |_,_, .fn a b=> .fn (ly M e a) (ly M e b)
 |_,_, .pj a=> .pj (Ac M e a)
 |_,_, .any x=> .any x
theorem ly (M:Dg τ bs h) {F:Nat→Prop} {H:AH} {c ψ:Nat→Nat} (d:∀i,i<bs.length→c (τ i)=ψ i):∀{p:List PV} {x:List Value},cK ⟨F,H,ψ,bs⟩ p x→cK ⟨F,H,c,h⟩ (mF τ p) x
 |_,_, .nil=> .nil
 |_,_, .cons a b=> .cons (Ac M d a) (ly M d b)
end
end
def hJ:PH→List Nat→PH→PH
 |h,[],_=>h
 |h,_::_,[]=>h
 |h,b::L,P::Ps=>hJ (h.set b P) L Ps
theorem e7:∀(L:List Nat) (a h:PH),(hJ h L a).length=h.length
 |[],_,h=>by simp [hJ]
 |_::_,[],h=>by simp [hJ]
 |b::L,P::a,h=>by rw [hJ,e7 L a];simp
theorem nX:∀(L:List Nat) (a h:PH) (c:Nat),c∉L→(hJ h L a)[c]?=h[c]?
 |[],_,h,c,_=>by simp [hJ]
 |_::_,[],h,c,_=>by simp [hJ]
 |b::L,P::a,h,c,d=>by
  rw [hJ,nX L a _ c (fun q=>d (List.mem_cons_of_mem _ q)),fy (fun q=>d (apY.2 (.inl q)))]
theorem ux:∀(L:List Nat) (a h:PH),L.Nodup→L.length=a.length→(∀b∈L,b<h.length)→∀(i b:Nat),L[i]?=some b→(hJ h L a)[b]?=a[i]?
 |[],_,h,_,_,_,i,b,e=>by simp at e
 |_::_,[],h,_,f,_,i,b,e=>by simp at f
 |c::L,P::a,h,d,f,g,i,b,e=>by
  rw [List.nodup_cons]at d;rw [hJ]
  cases i with
  |zero=>
   simp only [apF,apH]at e;subst e;rw [nX L a _ c d.1,fi (g c (by simp))];rfl
  |succ i=>
   have:=ux L a (h.set c P) d.2 (by simpa using f) (fun q j=>by simpa using g q (by simp [j])) i b (by simpa using e);rw [this];rfl
def px (L:List Nat) (m:Nat):Nat→Nat:=fun i=>if i<L.length then L.getD i 0 else m+(i- L.length)
def merge (h:PH) (L:List Nat) (hs:PH):PH:=hJ h L ((hs.take L.length).map (KZ (px L h.length)))++(hs.drop L.length).map (KZ (px L h.length))
theorem Dh {h hs:PH} {L:List Nat} (e:L.Nodup) (d:∀b∈L,b<h.length) (g:L.length≤hs.length):Dg (px L h.length) hs (merge h L hs):=by
 refine ⟨fun i hi=>?_⟩;unfold merge;by_cases a:i<L.length
 ·have c:L[i]?=some (px L h.length i):=by
   unfold px;rw [if_pos a,List.getD_eq_getElem?_getD,apG a];rfl
  have f:=d _ (apL c);rw [apT (by rw [e7];exact f),ux L _ h e (by simp;omega) d i _ c,aqa,aqf,if_pos a]
 ·have c:px L h.length i=h.length+(i- L.length):=by unfold px;rw [if_neg a]
  rw [c,apX (by rw [e7];omega),e7,show h.length+(i- L.length)- h.length=i- L.length by omega,aqa,aqk,show L.length+(i- L.length)=i by omega]
theorem fb {h hs:PH} {L:List Nat} {b:Nat} (a:b<h.length) (c:b∉L):(merge h L hs)[b]?=h[b]?:=by
 unfold merge;rw [apT (by rw [e7];exact a),nX _ _ _ _ c]
def MA (L:List Nat) (m:Nat) (φ ψ:Nat→Nat):Nat→Nat:=fun b=>match L.idxOf? b with
 |some i=>ψ i
 |none=>if b<m then φ b else ψ (b- m+L.length)
theorem Qf {L:List Nat} {m:Nat} {φ ψ:Nat→Nat} (c:L.Nodup) (d:∀b∈L,b<m) (i:Nat):MA L m φ ψ (px L m i)=ψ i:=by
 unfold MA px;by_cases a:i<L.length
 ·rw [if_pos a,List.getD_eq_getElem?_getD,apG a,Option.getD_some]
  have:L.idxOf? L[i]=some i:=by
   clear d
   induction L generalizing i with
   |nil=>simp at a
   |cons x L ih=>
    rw [List.nodup_cons]at c;rw [List.idxOf?_cons]
    cases i with
    |zero=>simp
    |succ i=>
     have f:(x==(x::L)[i+1])=false:=by
      simp only [List.getElem_cons_succ,beq_eq_false_iff_ne];intro e;exact c.1 (e▸List.getElem_mem _)
     rw [f];simp only [List.getElem_cons_succ];rw [ih c.2 i (by simpa using a)];rfl
  rw [this]
 ·rw [if_neg a]
  have:L.idxOf? (m+(i- L.length))=none:=by
   rw [List.idxOf?_eq_none_iff];intro g;have:=d _ g;omega
  rw [this];simp only;rw [if_neg (by omega),show m+(i- L.length)- m+L.length=i by omega]
theorem jh {L:List Nat} {m b:Nat} {φ ψ:Nat→Nat} (a:b<m) (c:b∉L):MA L m φ ψ b=φ b:=by
 unfold MA;rw [List.idxOf?_eq_none_iff.2 c];simp only;rw [if_pos a]
theorem Ad {F r:Nat→Prop} {H H':AH} {φ ψ:Nat→Nat} {h hs f:PH} {L:List Nat} (S:eu ⟨F,H,φ,h⟩) (nd:L.Nodup) (dh:∀b∈L,b<h.length) (hl:L.length=hs.length)
 (Qg:∀i,aY hs i→aY h (L.getD i 0)) (jG:∀i b,L[i]?=some b→df h b=df hs i∧(db hs i→db h b)∧(db h b→db hs i)) (N:eu ⟨r,H',ψ,f⟩) (T:dR hs.length lS ⟨F,H,fun i=>φ (L.getD i 0),hs⟩ ⟨r,H',ψ,f⟩):
 eu ⟨r,H',MA L h.length φ ψ,merge h L f⟩∧dR h.length (· ∈L) ⟨F,H,φ,h⟩ ⟨r,H',MA L h.length φ ψ,merge h L f⟩∧∀p x,RV ⟨r,H',ψ,f⟩ p x→RV ⟨r,H',MA L h.length φ ψ,merge h L f⟩ (Ab (px L h.length) p) x:=by
 have hls:hs.length≤f.length:=T.len (apK _);have M:=Dh (h:=h) (hs:=f) nd dh (by omega);have m:=fun i=>Qf (φ:=φ) (ψ:=ψ) nd dh i
 have get?:∀i,i<L.length→L[i]?=some (px L h.length i):=fun i d=>by
  unfold px;rw [if_pos d,List.getD_eq_getElem?_getD,apG d];rfl
 have B:∀i,i<L.length→L.getD i 0=px L h.length i:=fun i d=>by unfold px;rw [if_pos d]
 have V7:(merge h L f).length=h.length+(f.length- L.length):=by unfold merge;rw [apP,e7,List.length_map,List.length_drop]
 have cases:∀b,b<(merge h L f).length→(∃i,i<f.length∧b=px L h.length i)∨(b<h.length∧b∉L):=by
  intro b g;by_cases d:b∈L
  ·obtain ⟨i,hi⟩:=List.mem_iff_getElem?.1 d
   have l:=(apM.1 hi).1;left;refine ⟨i,by omega,?_⟩;have:=get? i l;rw [hi]at this;exact apI this
  ·by_cases h2:b<h.length
   ·exact .inr ⟨h2,d⟩
   ·left
    refine ⟨b- h.length+L.length,by rw [V7]at g;omega,?_⟩;unfold px;rw [if_neg (by omega)];omega
 have Y:∀b,b∉L→aY h b→¬ im ⟨F,H,fun i=>φ (L.getD i 0),hs⟩ lS (φ b):=by
  rintro b g s ⟨i,_,D,e⟩;have hi:i<L.length:=by have:=bu D;dsimp only at this;omega
  have s1:=Qg _ D;have:=S.inj _ _ s1 s e;rw [B i hi]at this;exact g (this▸apL (get? i hi))
 have V8:∀{x:Nat},im ⟨F,H,fun i=>φ (L.getD i 0),hs⟩ lS x→im ⟨F,H,φ,h⟩ (· ∈L) x:=by
  rintro x ⟨i,_,D,e⟩;have hi:i<L.length:=by have:=bu D;dsimp only at this;omega
  exact ⟨_,by rw [B i hi];exact apL (get? i hi),Qg _ D,e⟩
 have same:∀b,b∉L→aY h b→H'.get (φ b)=H.get (φ b):=fun b g s=>T.out _ (S.lt s) (Y b g s)
 have fo:∀b,b∉L→aY h b→r (φ b)→F (φ b):=fun b g s q=>T.fo _ (S.lt s) (Y b g s) q
 have shape:∀i,i<L.length→(∀t,At h (px L h.length i) t↔At hs i t)∧(db h (px L h.length i)↔db hs i):=by
  intro i hi;obtain ⟨a,b,c⟩:=jG i _ (get? i hi);refine ⟨fun t=>?_,c,b⟩
  have tl:∀{h:PH} {b t:Nat},At h b t↔df h b=some t:=by
   intro h b t;constructor
   ·rintro ⟨z,cs,e,rfl⟩;unfold df;rw [e]
   ·intro e;exact (lr e).2 rfl
  rw [tl,tl,a]
 have V9:∀i,i<L.length→∀t,Le h (px L h.length i) t→Le hs i t:=by
  intro i hi t k z cs e;obtain ⟨a,_⟩:=jG i _ (get? i hi);have e2:df h (px L h.length i)=some cs.length:=by rw [a];unfold df;rw [e]
  exact (lu e2).1 k
 have T2:dR h.length (· ∈L) ⟨F,H,φ,h⟩ ⟨r,H',MA L h.length φ ψ,merge h L f⟩:=by
  refine ⟨T.n0,T.nx,fun x G=>T.fz x G,fun x G hi q=>T.fo x G (fun w=>hi (let⟨b,_,c⟩:=V8 w;⟨b,trivial,c⟩)) q,fun x G hi=>T.out x G fun w=>hi (V8 w),fun b s=>?_,fun _=>by rw [V7];omega,fun b _ g t Q=>?_,fun b _ g t Q I=>?_,fun b _ g I=>?_⟩
  ·rcases cases b (bu s)with⟨i,hi,rfl⟩|⟨d,h2⟩
   ·dsimp only
    rw [m];rcases T.loc i ((M.aY hi).1 s)with q|⟨q,e⟩
    ·exact .inl q
    ·right
     have l:i<L.length:=by have:=bu q;dsimp only at this;omega
     refine ⟨?_,?_⟩
     ·rw [←B i l];exact Qg _ q
     ·rw [←B i l];exact e
   ·right
    dsimp only;rw [jh d h2];exact ⟨(dx (fb d h2)).1 s,rfl⟩
  ·by_cases n:b∈L
   ·obtain ⟨i,hi⟩:=List.mem_iff_getElem?.1 n
    have l:=(apM.1 hi).1;obtain rfl:b=px L h.length i:=apI (hi.symm.trans (get? i l));exact (M.le (by omega)).2 (T.le i (show i<hs.length by omega) (show i<hs.length by omega) t (V9 i l t Q))
   ·exact (qA (fb g n)).2 Q
  ·by_cases n:b∈L
   ·obtain ⟨i,hi⟩:=List.mem_iff_getElem?.1 n
    have l:=(apM.1 hi).1;obtain rfl:b=px L h.length i:=apI (hi.symm.trans (get? i l));obtain ⟨V,K⟩:=T.uq i (show i<hs.length by omega) (show i<hs.length by omega) t (V9 i l t Q) ((M.at (by omega)).1 I);dsimp only at K⊢;rw [m,K,B i l];exact ⟨((shape i l).1 t).2 V,rfl⟩
   ·exact ⟨(qz (fb g n)).1 I,jh g n⟩
  ·by_cases n:b∈L
   ·obtain ⟨i,hi⟩:=List.mem_iff_getElem?.1 n
    have l:=(apM.1 hi).1;obtain rfl:b=px L h.length i:=apI (hi.symm.trans (get? i l));obtain ⟨V,K⟩:=T.vH i (show i<hs.length by omega) (show i<hs.length by omega) ((M.db (by omega)).1 I);dsimp only at K⊢;rw [m,K,B i l];exact ⟨(shape i l).2.2 V,rfl⟩
   ·exact ⟨(fx (fb g n)).1 I,jh g n⟩
 have MB:∀i b,i<f.length→aY f i→b∉L→aY h b→ψ i≠φ b:=by
  intro i b hi s g o e;rcases T.loc i s with q|⟨q,e'⟩
  ·have V:φ b<H.nx:=S.lt o
   dsimp only at q;omega
  ·dsimp only at e'
   exact Y b g o ⟨i,trivial,q,e'.symm.trans e⟩
 refine ⟨⟨N.wf,N.fz,fun b b' s o e=>?_,fun b z cs e U=>?_,fun b es e=>?_⟩,T2,fun p x hr=>Ac M (fun i _=>m i) hr⟩
 ·dsimp only at e
  rcases cases b (bu s)with⟨i,hi,rfl⟩|⟨d,h2⟩
  ·rcases cases b' (bu o)with⟨j,R,rfl⟩|⟨J,C⟩
   ·rw [m,m]at e
    rw [N.inj _ _ ((M.aY hi).1 s) ((M.aY R).1 o) e]
   ·rw [m,jh J C]at e
    exact absurd e (MB i b' hi ((M.aY hi).1 s) C ((dx (fb J C)).1 o))
  ·rcases cases b' (bu o)with⟨j,R,rfl⟩|⟨J,C⟩
   ·rw [m,jh d h2]at e
    exact absurd e.symm (MB j b R ((M.aY R).1 o) h2 ((dx (fb d h2)).1 s))
   ·rw [jh d h2,jh J C]at e
    exact S.inj _ _ ((dx (fb d h2)).1 s) ((dx (fb J C)).1 o) e
 ·rcases cases b (bu (cn e U))with⟨i,hi,rfl⟩|⟨d,h2⟩
  ·dsimp only
   rw [m];rw [show(merge h L f)[px L h.length i]?=_ from M.get i hi]at e;obtain ⟨P,hP,e⟩:=apQ.1 e
   cases P with
   |cells z' cz=>
    cases e;obtain ⟨X,A,y,v,u⟩:=N.aU i _ cz hP (by rintro rfl;exact U rfl);exact ⟨X,A,ly M (fun i _=>m i) y,v,u⟩
   |_=>cases e
  ·dsimp only
   rw [jh d h2];rw [show(merge h L f)[b]?=_ from fb d h2]at e;have s:=cn e U;obtain ⟨X,A,y,v,u⟩:=S.aU b z cs e U;exact ⟨X,(same b h2 s).trans A,y.step T2,T.n0▸v,fun q=>u (fo b h2 s q)⟩
 ·rcases cases b (bu (eZ e))with⟨i,hi,rfl⟩|⟨d,h2⟩
  ·dsimp only
   rw [m];rw [show(merge h L f)[px L h.length i]?=_ from M.get i hi]at e;obtain ⟨P,hP,e⟩:=apQ.1 e
   cases P with
   |map es'=>
    cases e;obtain ⟨W,A,y,v,u,Z⟩:=N.um i es' hP;refine ⟨W,A,?_,?_,u,Z⟩
    ·rw [←y];simp [List.map_map,Function.comp_def]
    ·rw [yh];exact ly M (fun i _=>m i) v
   |_=>cases e
  ·dsimp only
   rw [jh d h2];rw [show(merge h L f)[b]?=_ from fb d h2]at e;have s:=eZ e;obtain ⟨W,A,y,v,u,Z⟩:=S.um b es e;exact ⟨W,(same b h2 s).trans A,y,v.step T2,T.n0▸u,fun q=>Z (fo b h2 s q)⟩
theorem jH.frame {f:Nat} {args p:List PV} {h hs:PH} (L Z:List Nat) {R:PV→PH→Prop} (k:jH E O f p hs R) (m:L.Nodup) (g:∀b∈L,b<h.length∧b∉Z) (n:L.length=hs.length)
 (K:jY (· ∈Z) (fun i=>L.getD i 0) h hs 0 hs) (z:∀i b,L[i]?=some b→df h b=df hs i∧(db hs i→db h b)∧(db h b→db hs i)) (y:ny (· ∈Z) (fun i=>L.getD i 0) h hs args p):
 Df E O f args h (· ∈L) (fun r D=>∃d a,R d a∧L.length≤a.length∧r=Ab (px L h.length) d∧D=merge (cH h Z) L a):=by
 intro F H X w S U;have v:=iQ.at (A:=(· ∈Z)) L n m (fun b c=>(g b c).2) K;have Q:=v.ok S;obtain ⟨P,M⟩:=uv S Z;have o:=gJ Z h;have same:∀b,b∈L→(cH h Z)[b]?=h[b]?:=fun b c=>by rw [kJ,if_neg (fun q=>(g b c).2 q.1)]
 refine (k _ H _ w Q (y.ok S U)).mono ?_;rintro x Y ⟨d,a,V,W,C,B,N,T⟩
 have mem:∀i,i<L.length→L.getD i 0∈L:=fun i hi=>by
  rw [List.getD_eq_getElem?_getD,apG hi];exact List.getElem_mem _
 obtain ⟨t,s,u⟩:=Ad (h:=cH h Z) (hs:=hs) (L:=L) P m (fun b c=>by rw [o];exact (g b c).1) n (fun i l=>(dx (same _ (mem i (by have:=bu l;omega)))).2 (v.aY l)) (fun i b e=>by
  have j:=same b (apL e);obtain ⟨J,I,G⟩:=z i b e;refine ⟨?_,fun q=>(fx j).2 (I q),fun q=>G ((fx j).1 q)⟩
  rw [←J];unfold df;rw [j]) N T
 rw [o]at t s u;exact ⟨_,_,V,_,⟨d,a,C,by have:=T.len (apK _);dsimp only at this;omega,rfl,rfl⟩,u _ _ B,t,M.trans s (apK _) (fun _ q=>q.elim) (fun _ q=>q)⟩
def Hk:Option PB→Option PB→Prop
 |some (.cells _ cs),some (.cells _ cz)=>cs.length=cz.length
 |some (.map _),some (.map _)=>True
 |_,_=>False
@[simp]theorem aeQ (z b:Nat) (cs a:List PV):Hk (some (.cells z cs)) (some (.cells b a))↔cs.length=a.length:=Iff.rfl
@[simp]theorem aeR (es es':List (Value×PV)):Hk (some (.map es)) (some (.map es'))↔True:=Iff.rfl
def MC (h hs:PH):Nat→List Nat→Prop
 |_,[]=>True
 |i,b::L=>Hk h[b]? hs[i]?∧MC h hs (i+1) L
@[simp]theorem Zy (h hs:PH) (i:Nat):MC h hs i []↔True:=Iff.rfl
@[simp]theorem Wa (h hs:PH) (i b:Nat) (L:List Nat):MC h hs i (b::L)↔Hk h[b]? hs[i]?∧MC h hs (i+1) L:=Iff.rfl
theorem MC.ok {h hs:PH}:∀{L:List Nat} {i:Nat},MC h hs i L→∀j b,L[j]?=some b→df h b=df hs (i+j)∧(db hs (i+j)→db h b)∧(db h b→db hs (i+j))
 |[],i,_,j,b,e=>by simp at e
 |c::L,i,k,j+1,b,e=>by
  have:=MC.ok k.2 j b (by simpa using e);rwa [show i+1+j=i+(j+1) by omega]at this
 |c::L,i,k,0,b,e=>by
  simp only [apF,apH]at e;subst e;have a:=k.1;rw [Nat.add_zero];unfold df db
  cases d:h[c]? with
  |none=>rw [d]at a;exact a.elim
  |some P=>
   cases h2:hs[i]? with
   |none=>rw [d,h2]at a;cases P<;>exact a.elim
   |some f=>
    rw [d,h2]at a
    cases P with
    |cells z cs=>
     cases f with
     |cells l m=>simp only [Hk]at a;exact ⟨by simp [a],(fun⟨es,e⟩=>by cases e),(fun⟨es,e⟩=>by cases e)⟩
     |_=>exact a.elim
    |map es=>
     cases f with
     |map g=>exact ⟨rfl,fun _=>⟨_,rfl⟩,fun _=>⟨_,rfl⟩⟩
     |_=>exact a.elim
    |dead=>exact a.elim
section
variable{n:Nat} {Q:Ex→PF→PH→Prop} {ks:List Kp} {fr:PF} {h:PH} {m:Mp} {l:List AO} {d:Option Nat}
theorem dO {f:Nat} {«as»:List X} {j:List PV} {hs:PH} (L Z:List Nat) {R:PV→PH→Prop} (k:jH E O f j hs R) (o:L.Nodup) (q:∀b∈L,b<h.length∧b∉Z) (r:L.length=hs.length)
 (K:jY (· ∈Z) (fun i=>L.getD i 0) h hs 0 hs) (sz:MC h hs 0 L) (p:ny (· ∈Z) (fun i=>L.getD i 0) h hs («as».map (ie fr)) j)
 (next:∀c a,R c a→L.length≤a.length→PK E O n Q (.ops (m.up L (fr.bg d (Ab (px L h.length) c)) (merge (cH h Z) L a)) l ks) (fr.bg d (Ab (px L h.length) c)) (merge (cH h Z) L a)):PK E O n Q (.ops m (⟨none,d,.call f «as»⟩::l) ks) fr h:=
 kI (W:=L) rfl ((jH.frame L Z k o q r K (fun i b e=>by simpa using sz.ok i b e) p).mono (by
  rintro t u ⟨c,a,s,g,rfl,rfl⟩
  exact next c a s g))
end
attribute [simp] px merge hJ KZ
end P
namespace P
open Go Go.RowKit
variable{E:Env} {O:kl}
theorem qO.list {A:Nat→Prop} {a:Nat→Nat} {h c:PH} {b:PF}:∀{l:List (Nat×PV)},qO A a h c b l→ny A a h c (l.map fun e=>b.get e.1) (l.map (·.2))
 |[],_=>trivial
 |(t,p)::l,k=>⟨k.1,qO.list k.2⟩
theorem BO {C:Cx} {b:Fr}:∀{l:List (Nat×PV)},cK C (l.map (·.2)) (l.map fun e=>b.get e.1)→m7 C (PF.KV l) b
 |[],_,t=>.any _
 |(a,p)::l,k,t=>by
  cases k with|cons d c=>
  rw [yf];split
  ·rename_i e;subst e;exact d
  ·exact BO c t
theorem Hn {C:Cx} {b:PF} {c:Fr} (R:m7 C b c):∀l:List (Nat×PV),cK C (l.map fun e=>b.get e.1) (l.map fun e=>c.get e.1)
 |[]=>.nil
 |(a,p)::l=>.cons (R a) (Hn R l)
theorem BP {n:Nat} {c:PF} {h h2:PH} (L:List Nat) (l:List (Nat×PV)) (o:L.length+n=h2.length) (j:L.Nodup) (m:∀b∈L,n≤b) (hs:∀b,b<n→cy h h2 b) (K:jY (fun _=>False) (fun i=>if i<n then i else L.getD (i- n) 0) h h2 0 h2) (V:qO (fun _=>False) (fun i=>if i<n then i else L.getD (i- n) 0) h h2 c l):Gh n c h (PF.KV l) h2:=by
 intro F H g a S R;obtain ⟨q,f,p,d,T⟩:=bX L o j m hs K (G5 V.list) F H g (.tuple (l.map fun e=>a.get e.1).toArray) S (.kG (Hn R l));refine ⟨q,f,p,?_,T⟩;generalize k:(Value.tuple (l.map fun e=>a.get e.1).toArray)=v at d
 cases d with|kG r=>
 rename_i xs
 have:xs=l.map fun e=>a.get e.1:=by
  have:=Value.tuple.inj k;exact (congrArg Array.toList this).symm
 subst this;exact BO r
theorem jH.aeS {f:Nat} {args w:List PV} {h:PH} {sz k:Nat} {cs:List PV} (q:Fo E O f w sz k cs) (I:iR cs=true) (D:ny lS id h [] args w):
 Df E O f args h (· ∈[]) (fun r J=>r= .sl sz h.length 0 k k∧J=h++[.cells sz cs]):=by
 intro F H φ n S Q;have P:=(iQ.none lS id h).ok S;refine (q _ H _ n P (D.ok S Q)).mono ?_;rintro x m ⟨r,U,X,j,⟨rfl,rfl,o,R⟩,G,u,T⟩
 have y:∀{V:Nat→Prop} {x:Nat} {F:Nat→Prop} {φ:Nat→Nat},¬ im ⟨F,H,φ,[]⟩ V x:=by
  rintro V x F φ ⟨b,_,s,_⟩;have:=bu s;simp at this
 have no:∀{b:Nat} {F:Nat→Prop} {φ:Nat→Nat},¬ aY (Cx.mk F H φ []).h b:=fun s=>by have:=bu s;simp at this
 have same:∀x,x<H.nx→m.get x=H.get x:=fun x i=>T.out x i y
 have new:∀b,aY [PB.cells sz cs] b→H.nx≤j b:=fun b g=>by
  rcases T.loc b g with q|⟨q,_⟩
  ·exact q
  ·exact absurd q no
 have t:eu ⟨F,m,j,[.cells sz cs]⟩:={
  wf:=u.wf
  fz:=fun x i=>ap3 (S.fz x i) T.nx
  inj:=u.inj
  aU:=fun b z K e v=>by
   obtain ⟨n,C,B,A,_⟩:=u.aU b z K e v;refine ⟨n,C,?_,A,fun q=>?_⟩
   ·cases b with
    |zero=>simp at e;obtain ⟨_,rfl⟩:=e;exact mU I B
    |succ b=>simp at e
   ·have:=S.fz _ q
    have:=new b (cn e v);dsimp only at*;omega
  um:=fun b es e=>by
   cases b with
   |zero=>simp at e
   |succ b=>simp at e}
 have M:dR 0 lS ⟨F,H,φ,[]⟩ ⟨F,m,j,[.cells sz cs]⟩:={
  n0:=T.n0
  nx:=T.nx
  fz:=fun x i=>⟨i,same x (S.fz x i)⟩
  fo:=fun _ _ _ h=>h
  out:=fun x i _=>same x i
  loc:=fun b g=>.inl (new b g)
  len:=fun _=>ap8 _
  le:=fun b g=>absurd g (ap6 _)
  uq:=fun b g=>absurd g (ap6 _)
  vH:=fun b g=>absurd g (ap6 _)}
 obtain ⟨N,L⟩:=BL (W:=(· ∈[])) S t M
 have p:RV ⟨F,m,j,[.cells sz cs]⟩ (.sl sz 0 0 k k) x:=by
  cases G with|sl a b c d=>exact .sl a b c d
 have l:=BK (φ:=φ) (h:=h) p;refine ⟨_,_,F,join h φ j,⟨rfl,rfl⟩,?_,?_,?_⟩
 ·have e:sh h.length (.sl sz 0 0 k k)= .sl sz h.length 0 k k:=by simp
  rw [e]at l
  simpa [sZ,je _ o]using l
 ·simpa [sZ,je _ o]using N
 ·simpa [sZ,je _ o]using L
section
variable{n:Nat} {Q:Ex→PF→PH→Prop} {ks:List Kp} {fr:PF} {h:PH} {m:Mp} {l:List AO} {d:Option Nat}
theorem Ho {f:Nat} {«as»:List X} {args:List PV} {sz k:Nat} {cs:List PV} (q:Fo E O f args sz k cs) (a:ny lS id h [] («as».map (ie fr)) args) (b:iR cs=true) (next:PK E O n Q (.ops (m.up [] (fr.bg d (.sl sz h.length 0 k k)) (h++[.cells sz cs])) l ks) (fr.bg d (.sl sz h.length 0 k k)) (h++[.cells sz cs])):PK E O n Q (.ops m (⟨none,d,.call f «as»⟩::l) ks) fr h:=
 kI (W:=[]) rfl ((jH.aeS q b a).mono (by rintro c e ⟨rfl,rfl⟩;exact next))
end
end P
namespace P
open Go Go.RowKit
section
variable{T:Type} {enc:TypeId×Value→T} {P:Program} {W:World}
def F0 (W:World):Nat→Prop:=fun b=>b<W.heap.size
def SlC (v:Value):Prop:=∃a n c,v= .slice a n c∧n≤c∧(c=0∨∀x,a=some x→x.spot=none)
theorem Di {n0:Nat} {c v:Value} (h:c= .slice none 0 0∨∃a len cap,c= .slice (some a) len cap∧len≤cap) (b:bw n0 c=some v):SlC v:=by
 rcases h with rfl|⟨a,len,cap,rfl,f⟩
 ·simp [bw,flat]at b;subst b;exact ⟨_,_,_,rfl,apK _,.inl rfl⟩
 ·simp only [bw]at b
  cases d:(decide (a.block<n0)&&a.spot.isNone)with
  |true=>rw [d]at b;simp only [cond_true,apH]at b;subst b;exact ⟨_,_,_,rfl,f,.inr fun x e=>by cases e;simp only [apJ]at d;exact Option.isNone_iff_eq_none.1 d.2⟩
  |false=>
   rw [d]at b;simp only [cond_false]at b
   cases h2:Nat.beq len 0 with
   |true=>rw [h2]at b;simp only [cond_true,apH]at b;subst b;exact ⟨_,_,_,rfl,apK _,.inl rfl⟩
   |false=>rw [h2]at b;simp at b
theorem aeT {b z:Nat} {c:List Value} (h:(H0 W).get b=some (.cells z c)):z=1048576:=by
 have h2:tK W b=some (.cells z c):=by
  rw [AH.fQ (AH.bk h)]at h;rw [←ze];exact h
 unfold tK at h2;split at h2
 ·cases h2;rfl
 ·cases h2
theorem aeU {b o sz:Nat} {r:List Value} (h:(H0 W).ldn ⟨b,o,none⟩ sz=some r) (hs:sz≤1048576):F0 W b∧(H0 W).lz b sz=true:=by
 unfold AH.ldn at h;split at h
 ·rename_i z c _ e
  have:=aeT e;refine ⟨AH.bk e,?_⟩;unfold AH.lz;rw [show(H0 W).get b=_ from e];exact decide_eq_true (by omega)
 ·cases h
theorem Ae {α:Type} {F:Nat→Prop} {H:AH} {d:α→List PV} {ok:α→Prop}:∀{rows:List (List Value)} {ys:List α},fE (fun l y=>gg F H (d y) l∧ok y) rows ys→ll F H (ys.map d) rows∧∀y∈ys,ok y
 |_,_, .nil=>⟨.nil,by simp⟩
 |_,_, .cons a b=>⟨.cons a.1 (Ae b).1,fun y c=>by
    rcases apY.1 c with rfl|c
    · exact a.2
    · exact (Ae b).2 y c⟩
theorem te {α:Type} (g:α→List PV) {ok:α→Prop} {t e:TypeId} {fuel:Nat} {c:Value} {d:DataW T} (u:P.underlying t=some (.slice e)) (L:0<P.cellsOf e) (j:P.cellsOf e≤1048576) (p:0<P.bytesOf e)
 (h:Rd enc P W fuel t [c] d) (F:tV P t d) (rd:∀m B A,m<fuel→Rd enc P W m e B A→tV P e A→∃l y,aQ W.heap.size B=some l∧gg (F0 W) (H0 W) (g y) l∧ok y):
 ∃(v:Value) (ys:List α),aQ W.heap.size [c]=some [v]∧RF (F0 W) (H0 W) (.fs (P.cellsOf e) (ys.map g)) v∧(∀y∈ys,ok y)∧ys.length*P.bytesOf e≤reachBytes:=by
 obtain ⟨v,rows,ys,f,z,s,N⟩:=Bb (C:=fun l y=>gg (F0 W) (H0 W) (g y) l∧ok y) u L p h F rd;obtain ⟨E,D⟩:=Ae s
 have H:SlC v:=by
  obtain ⟨ps,h⟩:=h;simp only [aQ]at f
  cases h2:bw W.heap.size c with
  |none=>rw [h2]at f;simp at f
  |some x=>
   rw [h2]at f;simp only [apH,List.cons.injEq,and_true]at f;subst f;refine Di ?_ h2;rcases DataW.trod_slice u h with⟨e,_⟩|⟨a,len,cap,_,_,_,_,e,_,_,K,_⟩
   ·simp only [List.cons.injEq,and_true]at e;exact .inl e
   ·simp only [List.cons.injEq,and_true]at e;exact .inr ⟨a,len,cap,e,K⟩
 refine ⟨v,ys,f,?_,D,by rw [←s.length];exact N⟩;obtain ⟨a,n,S,rfl,J,G⟩:=H;have O:=z;obtain ⟨V,U,e,k⟩:=z.is;cases e;have i:(ys.map g).length=rows.length:=by rw [List.length_map,s.length]
 have:RF (F0 W) (H0 W) (.fs (P.cellsOf e) (ys.map g)) (.slice a (ys.map g).length S):=by
  refine .fs (by rw [i];exact O) (by rw [i];exact J) (fun d w=>⟨?_,?_⟩) E
  ·rcases G with q|q
   ·exact .inr q
   ·exact .inl (q d w)
  ·rw [i]
   by_cases M:rows.length=0
   ·exact .inl M
   ·obtain ⟨r,I⟩:∃r,rows[0]?=some r:=⟨_,apG (by omega)⟩
    obtain ⟨b,o,R,Q⟩:=k 0 r I;subst R;cases w;exact .inr (aeU Q j)
 rw [i]at this;exact this
end
end P
set_option maxRecDepth 10000
namespace P
open Go Go.RowKit
mutual
def mG:bY→List PV
 | .mk op n cp args=>[pi op,pi n,pi cp,.fs 4 (py args)]
def py:List bY→List (List PV)
 |[]=>[]
 |e::l=>mG e::py l
end
mutual
def bJ:bH→List PV
 | .mk op n args thn els=>[pi op,pi n,.fs 4 (py args),.fs 5 (iY thn),.fs 5 (iY els)]
def iY:List bH→List (List PV)
 |[]=>[]
 |e::l=>bJ e::iY l
end
theorem kL:∀l:List bY,py l=l.map mG
 |[]=>rfl
 |_::l=>by simp [py,kL l]
theorem jn:∀l:List bH,iY l=l.map bJ
 |[]=>rfl
 |_::l=>by simp [iY,jn l]
@[simp]theorem K0 (l:List bY):(py l).length=l.length:=by simp [kL]
@[simp]theorem K1 (l:List bH):(iY l).length=l.length:=by simp [jn]
@[simp]theorem Sh (l:List bY) (i:Nat):(py l)[i]?=(l[i]?).map mG:=by simp [kL]
@[simp]theorem Si (l:List bH) (i:Nat):(iY l)[i]?=(l[i]?).map bJ:=by simp [jn]
@[simp]theorem Wb (e:bY):eN (mG e)=true:=by cases e;rfl
@[simp]theorem MD (e:bY):(mG e).length=4:=by cases e;rfl
@[simp]theorem ME (e:bH):(bJ e).length=5:=by cases e;rfl
@[simp]theorem Sj (e:bY):(mG e).take 4=mG e:=apN (by simp)
def Dj (v:Vr):List PV:=[ps v.name,pi v.level,pi v.cells]
abbrev tf (l:List Vr):PV:=.fs 3 (l.map Dj)
def dH (p:eD):List PV:=[pi p.w,tf p.vars,.fs 5 (iY p.body)]
def tg (t:wu):List PV:=[m8 t.store,m8 t.bz]
abbrev K2 (l:List (List Int)):PV:=.fs 1 (l.map fun s=>[m8 s])
@[simp]theorem Wc (p:eD):eN (dH p)=true:=rfl
@[simp]theorem We (p:wu):eN (tg p)=true:=rfl
@[simp]theorem Sk (p:List Vr):nW (tf p)=true:=rfl
@[simp]theorem Wf (p:List (List Int)):nW (K2 p)=true:=rfl
mutual
def Hq:bY→Prop
 | .mk op n cp args=>oh op∧oh n∧oh cp∧args.length<2^60∧Dk args
def Dk:List bY→Prop
 |[]=>True
 |e::l=>Hq e∧Dk l
end
mutual
def Dl:bH→Prop
 | .mk op n args thn els=>oh op∧oh n∧args.length<2^60∧thn.length<2^60∧els.length<2^60∧Dk args∧Af thn∧Af els
def Af:List bH→Prop
 |[]=>True
 |e::l=>Dl e∧Af l
end
def K3 (p:eD):Prop:=oh p.w∧nJ p.vars∧Af p.body∧p.body.length<2^60
def Zz (t:wu):Prop:=t.store.length<2^60∧t.bz.length<2^60∧(∀n∈t.store,oh n)∧∀n∈t.bz,oh n
theorem yi:∀{l:List bY},Dk l→∀e∈l,Hq e
 |_::_,h,e,a=>by
  rcases apY.1 a with rfl|a
  ·exact h.1
  ·exact yi h.2 e a
section
variable{F:Nat→Prop} {H:AH}
theorem fG {sz:Nat} {rows:List (List PV)} {x:Value} (h:RF F H (.fs sz rows) x):∃rs,Rows H sz x rs∧ll F H rows rs∧∃a c,x= .slice a rows.length c:=by
 cases h with|fs d e f b=>exact ⟨_,d,b,_,_,rfl⟩
mutual
theorem vW:∀{e:bY} {c:List Value},Hq e→gg F H (mG e) c→nm H c e
 | .mk op n i args,c,ok,h=>by
  simp only [mG]at h
  cases h with|cons g h=>
  cases h with|cons f h=>
  cases h with|cons h2 h=>
  cases h with|cons d h=>
  cases h;cases g;cases f;cases h2;obtain ⟨rs,b,a,_⟩:=fG d;simp only [Hq]at ok;exact .mk ok.1 ok.2.1 ok.2.2.1 ok.2.2.2.1 b (vX ok.2.2.2.2 a)
theorem vX:∀{l:List bY} {rs:List (List Value)},Dk l→ll F H (py l) rs→gj H rs l
 |[],rs,_,h=>by cases h;exact .nil
 |e::l,rs,ok,h=>by
  simp only [py]at h
  cases h with|cons a b=>
  exact .cons (vW ok.1 a) (vX ok.2 b)
end
mutual
theorem Qi:∀{e:bH} {c:List Value},Dl e→gg F H (bJ e) c→nK H c e
 | .mk op n args a p,c,ok,h=>by
  simp only [bJ]at h
  cases h with|cons o h=>
  cases h with|cons m h=>
  cases h with|cons h2 h=>
  cases h with|cons l h=>
  cases h with|cons k h=>
  cases h;cases o;cases m;obtain ⟨r,j,g,_⟩:=fG h2;obtain ⟨rt,b,d,_⟩:=fG l;obtain ⟨q,i,f,_⟩:=fG k;simp only [Dl]at ok;exact .mk ok.1 ok.2.1 ok.2.2.1 ok.2.2.2.1 ok.2.2.2.2.1 j (vX ok.2.2.2.2.2.1 g) b (ru ok.2.2.2.2.2.2.1 d) i (ru ok.2.2.2.2.2.2.2 f)
theorem ru:∀{l:List bH} {rs:List (List Value)},Af l→ll F H (iY l) rs→hY H rs l
 |[],rs,_,h=>by cases h;exact .nil
 |e::l,rs,ok,h=>by
  simp only [iY]at h
  cases h with|cons a b=>
  exact .cons (Qi ok.1 a) (ru ok.2 b)
end
theorem jZ {l:List Int} {x:Value} (h:RF F H (m8 l) x):ep H x l:=by
 obtain ⟨rs,d,e,_⟩:=fG h
 have:∀{l:List Int} {rs:List (List Value)},ll F H (ir l) rs→rs=l.map fun n=>[.int .i64 n]:=by
  intro l
  induction l with
  |nil=>intro rs h;cases h;rfl
  |cons a l ih=>
   intro rs h;simp only [ir,List.map_cons]at h
   cases h with|cons a b=>
   cases a with|cons a c=>
   cases a;cases c;rw [ih b];rfl
 rw [this e]at d;exact d
theorem pA {l:List Vr} {x:Value} (h:RF F H (tf l) x):dy H x l:=by
 obtain ⟨rs,c,d,_⟩:=fG h
 have:∀{l:List Vr} {rs:List (List Value)},ll F H (l.map Dj) rs→rs=l.map Vr.row:=by
  intro l
  induction l with
  |nil=>intro rs h;cases h;rfl
  |cons a l ih=>
   intro rs h;simp only [Dj,List.map_cons]at h
   cases h with|cons h b=>
   cases h with|cons f h=>
   cases h with|cons e h=>
   cases h with|cons h2 h=>
   cases h;cases f;cases e;cases h2;rw [ih b];rfl
 rw [this d]at c;exact c
theorem Dn {l:List (List Int)} {x:Value} (h:RF F H (K2 l) x):ew H x l:=by
 obtain ⟨rs,d,c,_⟩:=fG h;refine ⟨rs,d,?_⟩
 have:∀{l:List (List Int)} {rs:List (List Value)},ll F H (l.map fun s=>[m8 s]) rs→fE (fun r s=>∃v,r=[v]∧ep H v s) rs l:=by
  intro l
  induction l with
  |nil=>intro rs h;cases h;exact .nil
  |cons a l ih=>
   intro rs h;simp only [List.map_cons]at h
   cases h with|cons h b=>
   cases h with|cons e h=>
   cases h;exact .cons ⟨_,rfl,jZ e⟩ (ih b)
 exact this c
theorem Hr {p:eD} {c:List Value} (ok:K3 p) (h:gg F H (dH p) c):pT H c p:=by
 simp only [dH]at h
 cases h with|cons e h=>
 cases h with|cons d h=>
 cases h with|cons h2 h=>
 cases h;cases e;obtain ⟨rs,b,a,_⟩:=fG h2;exact ⟨_,_,_,rfl,ok.1,pA d,ok.2.1,b,ru ok.2.2.1 a,ok.2.2.2⟩
theorem Hs {t:wu} {c:List Value} (ok:Zz t) (h:gg F H (tg t) c):xb H c t:=by
 simp only [tg]at h
 cases h with|cons b h=>
 cases h with|cons a h=>
 cases h;exact ⟨_,_,rfl,jZ b,jZ a,ok⟩
theorem Qj {C:Cx} {sz:Nat} {rows:List (List PV)} {x:Value} (h:RV C (.fs sz rows) x):RF C.F C.H (.fs sz rows) x:=by cases h;assumption
theorem MF {C:Cx}:∀{ps:List PV} {xs:List Value},ps.all qP=true→cK C ps xs→gg C.F C.H ps xs
 |[],_,_,.nil=>.nil
 |p::ps,_,h,.cons a b=>by
  simp only [List.all_cons,apJ]at h;refine .cons ?_ (MF h.2 b)
  cases p<;>first
   |(simp [qP]at h;done)
   |(cases a;exact .v _)
   |exact Qj a
theorem Ht {C:Cx} {ps:List PV} {x:Value} (b:ps.all qP=true) (h:RV C (.agg ps) x):∃c,x= .agg c.toArray∧gg C.F C.H ps c:=by
 cases h with|agg a=>exact ⟨_,rfl,MF b a⟩
end
@[simp]theorem Wg (e:bY):(mG e).all qP=true:=by cases e;rfl
@[simp]theorem Wh (e:bH):(bJ e).all qP=true:=by cases e;rfl
@[simp]theorem Wi (p:eD):(dH p).all qP=true:=rfl
@[simp]theorem Wj (p:wu):(tg p).all qP=true:=rfl
theorem Fz.uy {f:Nat} {args:List PV} {y:Value} (k:∀F H φ vs,H.n0≤H.nx→cK ⟨F,H,φ,[]⟩ args vs→Ca E O f vs H (fun x H'=>x=y∧Ext H H')):Fz E O f args (.v y):=by
 intro F H φ vs S d;refine (k F H φ vs S.wf d).mono ?_;rintro x H' ⟨rfl,X⟩
 have T:dR 0 lS ⟨F,H,φ,[]⟩ ⟨F,H',φ,[]⟩:=⟨X.n0,X.nx,fun x c=>⟨c,X.old x (S.fz x c)⟩,fun _ _ _ h=>h,fun x c _=>X.old x c,fun b a=>absurd (bu a) (ap6 _),fun _=>apK _,fun b a=>absurd a (ap6 _),fun b a=>absurd a (ap6 _),fun b a=>absurd a (ap6 _)⟩
 exact ⟨_,[],F,φ,⟨rfl,rfl,rfl⟩,.v _,⟨X.wf S.wf,fun x c=>ap3 (S.fz x c) X.nx,fun b g s=>absurd (bu s) (ap6 _),fun b z cs e=>by simp at e,fun b es e=>by simp at e⟩,T⟩
theorem Fo.uy {f:Nat} {args:List PV} {sz:Nat} {rows:List (List Value)} (A:0<sz) (k:∀F H φ vs,H.n0≤H.nx→cK ⟨F,H,φ,[]⟩ args vs→Ca E O f vs H (fun x H'=>da H' sz x rows∧Ext H H'∧∀b,aU x b→H.nx≤b)):Fo E O f args sz rows.length (rows.flatten.map .v):=by
 intro F H φ vs S y;refine (k F H φ vs S.wf y).mono ?_;rintro x H' ⟨o,X,c⟩;have d:(rows.flatten.map PV.v).length=rows.length*sz:=by rw [List.length_map,bW o.len]
 obtain ⟨a,n⟩:∃a:Nat,(rows≠[]→x= .slice (some ⟨a,0,none⟩) rows.length rows.length∧H'.get a=some (.cells sz rows.flatten)∧H.nx≤a∧H'.n0≤a):=by
  rcases o.is with⟨_,rfl⟩|⟨a,rfl,u,q⟩
  ·exact ⟨0,fun h=>absurd rfl h⟩
  ·exact ⟨a,fun _=>⟨rfl,q,c a ((aS _ _ _ _ _).2 rfl),u⟩⟩
 have one:∀{b:Nat} {P:PB},[PB.cells sz (rows.flatten.map .v)][b]?=some P→b=0∧P= .cells sz (rows.flatten.map .v):=by
  intro b P e
  cases b with
  |zero=>simp only [apF,apH]at e;exact ⟨rfl,e.symm⟩
  |succ b=>simp at e
 have l:∀{b:Nat},aY [PB.cells sz (rows.flatten.map .v)] b→b=0∧rows≠[]:=by
  intro b s;rcases kH s with⟨es,e⟩|⟨z,cs,e,m⟩
  ·have:=(one e).2;cases this
  ·obtain ⟨rfl,j⟩:=one e
   cases j;exact ⟨rfl,by rintro rfl;exact m rfl⟩
 have T:dR 0 lS ⟨F,H,φ,[]⟩ ⟨F,H',fun _=>a,[.cells sz (rows.flatten.map .v)]⟩:=⟨X.n0,X.nx,fun x g=>⟨g,X.old x (S.fz x g)⟩,fun _ _ _ h=>h,fun x g _=>X.old x g,fun b c=>.inl (n (l c).2).2.2.1,fun _=>ap8 _,fun b c=>absurd c (ap6 _),fun b c=>absurd c (ap6 _),fun b c=>absurd c (ap6 _)⟩
 refine ⟨_,_,F,fun _=>a,⟨rfl,rfl,?_,d⟩,?_,⟨X.wf S.wf,fun x g=>ap3 (S.fz x g) X.nx,fun b C s p _=>by rw [(l s).1,(l p).1],fun b z cs e m=>?_,fun b es e=>?_⟩,T⟩
 ·rw [mD];simp
 ·refine .sl ?_ (by simp) (fun z cs e=>?_) (fun _=>?_)
  ·rcases o.is with⟨rfl,w⟩|⟨_,rfl,_⟩
   ·exact ⟨none,0,by rw [w];rfl⟩
   ·exact ⟨_,_,rfl⟩
  ·obtain ⟨_,j⟩:=one e
   cases j;rw [d];simp
  ·by_cases i:rows=[]
   ·subst i
    refine .inl ⟨rfl,rfl,?_⟩;rcases o.is with⟨rfl,_⟩|⟨b,rfl,_⟩
    ·exact ⟨none,rfl,by simp⟩
    ·exact ⟨_,rfl,by rintro e ⟨⟩;rfl⟩
   ·exact .inr ⟨List.length_pos_iff.2 i,by rw [(n i).1];simp⟩
 ·obtain ⟨rfl,j⟩:=one e
  cases j;have i:rows≠[]:=by rintro rfl;exact m rfl
  obtain ⟨_,h2,B,t⟩:=n i;exact ⟨rows.flatten,h2,cK.lits _,t,fun r=>by have:=S.fz _ r;dsimp only at this;omega⟩
 ·have:=(one e).2;cases this
end P
namespace P
open Go Go.RowKit
theorem BQ {α:Type} {x:α}:∀{l:List α} {k:Nat},k<l.length→vI l k [x]=l.set k x
 |[],k,h=>by simp at h
 |y::l,0,_=>by simp [vI]
 |y::l,k+1,h=>by simp [vI,BQ (l:=l) (k:=k) (by simpa using h)]
@[simp]theorem K4 (l:List Int):eN (l.map pi)=true:=by rw [mD];simp
theorem jd (l:List Int):(bC l).flatten.map PV.v=l.map pi:=by
 induction l with
 |nil=>rfl
 |cons a l ih=>simp_all [bC]
theorem Ag {l:List Int} (c:l.length≤2^40):Fo E O 9 [m8 l] 1 l.length (l.map pi):=by
 have:=Fo.uy (f:=9) (args:=[m8 l]) (rows:=bC l) Nat.one_pos (fun F H e g w d=>by
  cases d with|cons a b=>
  cases b
  exact FV w (jZ (Qj a)) c)
 rw [jd]at this
 simpa [bC]using this
theorem BR (b:Bool):Fz E O 88 [pb b] (pi (if b then 1 else 0)):=by
 refine Fz.body (F:=N3) rfl rfl rfl rfl ?_;cases b
 ·simp (maxSteps:=9^7)-implicitDefEqProofs+contextual [-getElem?_pos,apF,N3]
 ·simp (maxSteps:=9^7)-implicitDefEqProofs+contextual [-getElem?_pos,apF,N3]
theorem Wl {l:List Int} {k:Nat} {a:Int} (c:l.length≤2^40) (b:k<l.length):Fo E O 108 [m8 l,pi k,pi a] 1 l.length ((l.set k a).map pi):=by
 refine Fo.body (F:=I3) rfl rfl rfl (K4 _) (by simp) ?_;simp (maxSteps:=9^7)-implicitDefEqProofs+contextual [-getElem?_pos,apF,I3];refine pv (Ag c) ?_ ?_ ?_
 iterate 2· simp (maxDischargeDepth:=8)-implicitDefEqProofs [-getElem?_pos,apF]
 simp (maxSteps:=9^7)-implicitDefEqProofs+contextual [-getElem?_pos,apF,b,BQ];omega
theorem aeV {w n i:Int} {V:List Vr} (f:aC w V=true) (e:0≤n∧n<V.length) (hi:0≤i∧i<2^40):Fz E O 83 [tf V,pi n,pi i] (pi (bq V n+i%ak V n)):=
 Fz.uy fun F H g h w d=>by
  cases d with|cons a d=>
  cases d with|cons b d=>
  cases d with|cons c d=>
  cases d;cases b;cases c;refine (FY (pA (Qj a)) f e hi).mono ?_;rintro x j ⟨rfl,rfl⟩;exact ⟨rfl,Ext.refl _⟩
theorem K5 {w:Int} {V:List Vr} {S:List (List Int)} {e:bY} (j:aC w V=true) (k:CZ w V S) (ok:Hq e) (h:dA w V S.length e=true):Fz E O 57 [pi w,tf V,K2 S,.agg (mG e)] (pi (aZ w V S e)):=
 Fz.uy fun F H l m g f=>by
  cases f with|cons a f=>
  cases f with|cons b f=>
  cases f with|cons c f=>
  cases f with|cons d f=>
  cases f;cases a;obtain ⟨cs,rfl,i⟩:=Ht (by simp) d;exact xD j k _ e cs H (apV _) g (pA (Qj b)) (Dn (Qj c)) (vW ok i) h
theorem K6 {e:bY} (ok:Hq e) (c:aB e<2^60):Fz E O 58 [.agg (mG e)] (pi (aB e)):=
 Fz.uy fun F H g h b a=>by
  cases a with|cons d a=>
  cases a;obtain ⟨cs,rfl,f⟩:=Ht (by simp) d;exact C1 _ e cs H (apV _) b (vW ok f) c
theorem eO:∀l:List bH,(l.length:Int)≤aw l
 |[]=>by simp [aw]
 |s::l=>by
  have:=eO l;have:=jT s;rw [aw,List.length_cons];omega
def Hu (l:List Ev):List (List PV):=l.map fun e=>[pi e.kind,pi e.at_,pi e.val]
def Hv (l:List (Int×Int)):List (List PV):=l.map fun e=>[pi e.1,pi e.2]
def th (l:List jM):List (List PV):=l.map fun it=>pi it.1::bJ it.2
def nY (l:List Ev):List PV:=(Hu l).flatten
@[simp]theorem K7:nY []=[]:=rfl
@[simp]theorem pB (a:Ev) (l:List Ev):nY (a::l)=[pi a.kind,pi a.at_,pi a.val]++nY l:=by simp [nY,Hu]
theorem aK (a b:List Ev):nY (a++b)=nY a++nY b:=by simp [nY,Hu]
@[simp]theorem Ql (l:List Ev):(Hu l).length=l.length:=by simp [Hu]
@[simp]theorem Ah:∀l:List Ev,(nY l).length=l.length*3
 |[]=>rfl
 |a::l=>by rw [pB,apP,Ah l];simp;omega
@[simp]theorem pC:∀l:List Ev,(nY l).all qP=true
 |[]=>rfl
 |a::l=>by rw [pB,List.all_append,pC l];simp [qP]
@[simp]theorem ZA (l:List Ev):eN (nY l)=true:=td (pC l)
def pI (l:List (Int×Int)):List PV:=(Hv l).flatten
@[simp]theorem ZB:pI []=[]:=rfl
@[simp]theorem yj (a:(Int×Int)) (l:List (Int×Int)):pI (a::l)=[pi a.1,pi a.2]++pI l:=by simp [pI,Hv]
theorem aT (a b:List (Int×Int)):pI (a++b)=pI a++pI b:=by simp [pI,Hv]
@[simp]theorem Qm (l:List (Int×Int)):(Hv l).length=l.length:=by simp [Hv]
@[simp]theorem Ai:∀l:List (Int×Int),(pI l).length=l.length*2
 |[]=>rfl
 |a::l=>by rw [yj,apP,Ai l];simp;omega
@[simp]theorem pD:∀l:List (Int×Int),(pI l).all qP=true
 |[]=>rfl
 |a::l=>by rw [yj,List.all_append,pD l];simp [qP]
@[simp]theorem ZC (l:List (Int×Int)):eN (pI l)=true:=td (pD l)
def lT (l:List jM):List PV:=(th l).flatten
@[simp]theorem ZD:lT []=[]:=rfl
@[simp]theorem yk (a:jM) (l:List jM):lT (a::l)=(pi a.1::bJ a.2)++lT l:=by simp [lT,th]
theorem aO (a b:List jM):lT (a++b)=lT a++lT b:=by simp [lT,th]
@[simp]theorem Qn (l:List jM):(th l).length=l.length:=by simp [th]
@[simp]theorem Aj:∀l:List jM,(lT l).length=l.length*6
 |[]=>rfl
 |a::l=>by rw [yk,apP,Aj l];simp;omega
@[simp]theorem mV:∀l:List jM,(lT l).all qP=true
 |[]=>rfl
 |a::l=>by rw [yk,List.all_append,mV l];simp [qP]
@[simp]theorem ZE (l:List jM):eN (lT l)=true:=td (mV l)
theorem Hw {w:Int} {V:List Vr} {s:List Int} {e:bY} (m:aC w V=true) (n:ch w V s=true) (ok:Hq e) (j:dA w V 1 e=true) (i:aB e≤2^30):Fo E O 59 [pi w,tf V,m8 s,.agg (mG e)] 3 (mN w V [s] e).length (nY (mN w V [s] e)):=by
 have:=Fo.uy (f:=59) (args:=[pi w,tf V,m8 s,.agg (mG e)]) (rows:=cU (mN w V [s] e)) (show 0<3 by omega) (fun F H p q h g=>by
  cases g with|cons a g=>
  cases g with|cons b g=>
  cases g with|cons c g=>
  cases g with|cons d g=>
  cases g;cases a;obtain ⟨cs,rfl,k⟩:=Ht (by simp) d
  exact C2 m n _ e cs H (apV _) h (pA (Qj b)) (jZ (Qj c)) (vW ok k) j i)
 have o:∀l:List Ev,(cU l).flatten.map PV.v=nY l:=by
  intro l
  induction l with
  |nil=>rfl
  |cons a l ih=>simp_all [cU,Ev.row]
 rw [o,cF]at this;exact this
theorem vY:∀(N:Nat) (l:List bH),SizeOf.sizeOf l<N→aw l<2^60→Fz E O 82 [.fs 5 (iY l)] (pi (al l)):=by
 intro N
 induction N with
 |zero=>intro l h;omega
 |succ N ih=>
  intro l B z;refine Fz.body (F:=Xz) rfl rfl rfl rfl ?_;simp (maxSteps:=9^7)-implicitDefEqProofs+contextual [-getElem?_pos,apF,Xz];refine PZ (fun i b h=>h=[]∧b.get 0= .fs 5 (iY l)∧b.get 4=pi i∧b.get 3=pi (al (l.take i))) l.length ?_ ?_
  ·exact ⟨rfl,by simp,by simp,by simp [al]⟩
  rintro i b h hi ⟨rfl,c,d,e⟩;by_cases h:i<l.length
  ·obtain ⟨⟨op,n,args,thn,els⟩,a⟩:∃y,l[i]?=some y:=⟨_,apG h⟩
   have v:=me a;have o:=fY a;have u:=cl l i;have t:=aX l i;have s:=cl l (i+1);have r:=aX l (i+1);have q:=aR thn;have p:=aR els;have A:=nL (apL a);have x:=bF els;have w:=bF thn;have f:=eO l;rw [bA]at o;have m:IntKind.i64.wrap (al (l.take i)+1)=al (l.take i)+1:=aj ⟨by omega,by omega⟩;have k:IntKind.i64.wrap (al (l.take i)+1+al thn)=al (l.take i)+1+al thn:=aj ⟨by omega,by omega⟩;have j:IntKind.i64.wrap (al (l.take i)+1+al thn+al els)=al (l.take i)+1+al thn+al els:=aj ⟨by omega,by omega⟩;have g:IntKind.i64.wrap ((i:Int)+1)=((i+1:Nat):Int):=aj ⟨by omega,by omega⟩;simp (maxSteps:=9^7)-implicitDefEqProofs+contextual [-getElem?_pos,apF,c,d,e,h,a,bJ,m];refine mE (ih thn (by omega) (by omega)) ?_ ?_ ?_
   iterate 2· simp (maxDischargeDepth:=8)-implicitDefEqProofs [-getElem?_pos,apF]
   simp (maxSteps:=9^7)-implicitDefEqProofs+contextual [-getElem?_pos,apF,k];refine mE (ih els (by omega) (by omega)) ?_ ?_ ?_
   iterate 2· simp (maxDischargeDepth:=8)-implicitDefEqProofs [-getElem?_pos,apF]
   simp (maxSteps:=9^7)-implicitDefEqProofs+contextual [-getElem?_pos,apF,j,c,d,e,g];refine .for h ⟨rfl,by simp [c],by simp,by simp;omega⟩
  ·simp (maxSteps:=9^7)-implicitDefEqProofs+contextual [-getElem?_pos,apF,c,d,e,h]
   rw [apN (by omega)]
open Go Go.RowKit
theorem ti:∀(l:List bH) (i:Nat) (k:Int) (s:bH),l[i]?=some s→bI (l.take (i+1)) k=bI (l.take i) k++[(k+al (l.take i),s)]
 |[],i,k,s,h=>by simp at h
 | .mk b d e a c::l,0,k,s,h=>by
  simp at h;subst h;simp [bI,al]
 | .mk b d e a c::l,i+1,k,s,h=>by
  simp only [List.take_succ_cons,bI,al,bA];rw [ti l i _ s (by simpa using h)];simp only [List.cons_append];rw [show k+1+al a+al c+al (l.take i)=k+(1+al a+al c+al (l.take i)) by omega]
@[simp]theorem fH:∀(l:List bH) (k:Int),(bI l k).length=l.length
 |[],k=>rfl
 | .mk _ _ _ _ _::l,k=>by simp [bI,fH l]
theorem vZ {l:List bH} {n0:Int} (C:aw l<2^40) (D:0≤n0∧n0≤2^40):Fo E O 53 [.fs 5 (iY l),pi n0] 6 l.length (lT (bI l n0)):=by
 refine Fo.body (F:=Xi) rfl rfl rfl (by simp) (by simp) ?_;have j:=eO l;simp (maxSteps:=9^7)-implicitDefEqProofs+contextual [-getElem?_pos,apF,Xi];refine vP (fun i b h=>h=[.cells 6 (lT (bI (l.take i) n0))]∧b.get 0= .fs 5 (iY l)∧b.get 1=pi (n0+al (l.take i))∧b.get 5= .sl 6 0 0 i i∧b.get 6=pi i) l.length (Hh (h2:=[.cells 6 []]) (fun _=>False) id [(0,.fs 5 (iY l)),(1,pi n0),(5,.sl 6 0 0 0 0),(6,pi 0)] (iQ.Zq (by simp)) (by simp)) ?_ ?_
 ·simp [bI,al]
 rintro i b h hi ⟨rfl,c,f,e,d⟩;by_cases h:i<l.length
 ·obtain ⟨s,a⟩:∃y,l[i]?=some y:=⟨_,apG h⟩
  have g:=ti l i n0 s a;obtain ⟨op,n,args,thn,els⟩:=s;have r:=fY a;have z:=cl l i;have x:=aX l i;have w:=cl l (i+1);have v:=aX l (i+1);have u:=aR thn;have t:=aR els;have G:=nL (apL a);have B:=bF els;have A:=bF thn;rw [bA]at r;have q:IntKind.i64.wrap (n0+al (l.take i)+1)=n0+al (l.take i)+1:=aj ⟨by omega,by omega⟩;have p:IntKind.i64.wrap (n0+al (l.take i)+1+al thn)=n0+al (l.take i)+1+al thn:=aj ⟨by omega,by omega⟩;have o:IntKind.i64.wrap (n0+al (l.take i)+1+al thn+al els)=n0+al (l.take i)+1+al thn+al els:=aj ⟨by omega,by omega⟩;have m:IntKind.i64.wrap ((i:Int)+1)=((i+1:Nat):Int):=aj ⟨by omega,by omega⟩;have k:(bI (l.take i) n0).length=i:=by simp;omega
  simp (maxSteps:=9^7)-implicitDefEqProofs+contextual [-getElem?_pos,apF,c,f,e,d,h,a,bJ];apply fm
  iterate 9· first|rfl|omega|(simp-implicitDefEqProofs [-getElem?_pos,apF,k];first|done|rfl|omega)
  simp (maxSteps:=9^7)-implicitDefEqProofs+contextual [-getElem?_pos,apF,c,f,e,d,h,a,bJ,q];refine mE (vY _ thn (apV _) (by omega)) ?_ ?_ ?_
  iterate 2· simp (maxDischargeDepth:=8)-implicitDefEqProofs [-getElem?_pos,apF]
  simp (maxSteps:=9^7)-implicitDefEqProofs+contextual [-getElem?_pos,apF,p];refine mE (vY _ els (apV _) (by omega)) ?_ ?_ ?_
  iterate 2· simp (maxDischargeDepth:=8)-implicitDefEqProofs [-getElem?_pos,apF]
  simp (maxSteps:=9^7)-implicitDefEqProofs+contextual [-getElem?_pos,apF,o,c,f,e,d,m];refine .VX h (Hh (h2:=[.cells 6 (lT (bI (l.take (i+1)) n0))]) (fun _=>False) id [(0,.fs 5 (iY l)),(1,pi (n0+al (l.take i)+1+al thn+al els)),(5,.sl 6 0 0 (i+1) (i+1)),(6,pi (i+1:Nat))] (iQ.Zq ?_) ?_) ?_
  ·rw [g,aO];simp [bJ,au]
  ·rw [g,aO];simp [c,k,bJ]
  ·simp;omega
 ·obtain rfl:i=l.length:=by omega
  simp (maxSteps:=9^7)-implicitDefEqProofs+contextual [-getElem?_pos,apF,c,f,e,d]
def eP (it:jM):List PV:=pi it.1::bJ it.2
theorem Hz {k op n:Int} {args:List bY} {thn els:List bH} (b:aw thn<2^40) (c:0≤k∧k<2^40):Fo E O 90 [.agg (eP (k,.mk op n args thn els))] 6 thn.length (lT (bI thn (k+1))):=by
 refine Fo.body (F:=XG) rfl rfl rfl (by simp) (by simp) ?_;have a:IntKind.i64.wrap (k+1)=k+1:=aj ⟨by omega,by omega⟩;simp (maxSteps:=9^7)-implicitDefEqProofs+contextual [-getElem?_pos,apF,XG,eP,bJ,a];refine pv (vZ b (n0:=k+1) (by omega)) ?_ ?_ ?_
 iterate 2· simp (maxDischargeDepth:=8)-implicitDefEqProofs [-getElem?_pos,apF]
 simp (maxSteps:=9^7)-implicitDefEqProofs+contextual [-getElem?_pos,apF]
theorem HA {k op n:Int} {args:List bY} {thn els:List bH} (c:aw els<2^40) (e:aw thn<2^36) (f:0≤k∧k<2^36):Fo E O 89 [.agg (eP (k,.mk op n args thn els))] 6 els.length (lT (bI els (k+1+al thn))):=by
 refine Fo.body (F:=XF) rfl rfl rfl (by simp) (by simp) ?_;have d:=aR thn;have b:IntKind.i64.wrap (k+1)=k+1:=aj ⟨by omega,by omega⟩;have a:IntKind.i64.wrap (k+1+al thn)=k+1+al thn:=aj ⟨by omega,by omega⟩;simp (maxSteps:=9^7)-implicitDefEqProofs+contextual [-getElem?_pos,apF,XF,eP,bJ,b];refine mE (vY _ thn (apV _) (by omega)) ?_ ?_ ?_
 iterate 2· simp (maxDischargeDepth:=8)-implicitDefEqProofs [-getElem?_pos,apF]
 simp (maxSteps:=9^7)-implicitDefEqProofs+contextual [-getElem?_pos,apF,a];refine pv (vZ c (n0:=k+1+al thn) (by omega)) ?_ ?_ ?_
 iterate 2· simp (maxDischargeDepth:=8)-implicitDefEqProofs [-getElem?_pos,apF]
 simp (maxSteps:=9^7)-implicitDefEqProofs+contextual [-getElem?_pos,apF]
def cJ (c:dS) (b0 b1 b2 b3:Nat):List PV:=[pi c.en,.sl 1 b0 0 c.store.length c.store.length,.sl 2 b1 0 c.outs.length c.outs.length,.sl 3 b2 0 c.trace.length c.trace.length,pi c.cost,pi c.used,pi c.wh,pi c.fuel,.sl 6 b3 0 c.todo.length c.todo.length,pb c.dG]
def eE (c:dS):PH:=[.cells 1 (c.store.map pi),.cells 2 (pI c.outs),.cells 3 (nY c.trace),.cells 6 (lT c.todo)]
theorem pE {c:dS} {k a v:Int} (b:c.trace.length<2^40):jH E O 87 [.agg (cJ c 0 1 2 3),pi k,pi a,pi v] (eE c) (fun r h=>r= .agg (cJ {c with trace:=c.trace++[⟨k,a,v⟩]} 0 1 2 3)∧h=eE {c with trace:=c.trace++[⟨k,a,v⟩]}):=by
 refine jH.body (F:=XE) rfl rfl rfl ?_;simp (maxSteps:=9^7)-implicitDefEqProofs+contextual [-getElem?_pos,apF,XE,cJ,eE];apply fm
 iterate 9· first|rfl|omega|(simp-implicitDefEqProofs [-getElem?_pos,apF];first|done|rfl|omega)
 simp (maxSteps:=9^7)-implicitDefEqProofs+contextual [-getElem?_pos,apF];simp only [aK,pB,K7,List.append_nil];refine KS (m:=4) ?_ ?_ ?_ ?_
 ·omega
 ·simp
 ·simp (maxDischargeDepth:=8)-implicitDefEqProofs [au,apF]
 ·simp (maxDischargeDepth:=8)-implicitDefEqProofs [au,apF]
theorem v5 {c:dS} {e n:Int}:jH E O 56 [.agg (cJ c 0 1 2 3),pi e,pi n] (eE c) (fun r h=>r= .agg (cJ (eY c e n) 0 1 2 4)∧h=eE c++[.cells 6 []]):=by
 refine jH.body (F:=Xk) rfl rfl rfl ?_;simp (maxSteps:=9^7)-implicitDefEqProofs+contextual [-getElem?_pos,apF,Xk,cJ,eE,eY];refine Hg (iQ.Zq ?_) ?_ ?_ (fun b a=>?_)
 ·simp (maxDischargeDepth:=8)-implicitDefEqProofs [au,apF]
 ·simp (maxDischargeDepth:=8)-implicitDefEqProofs [au,apF]
 ·simp
 ·have:b=0∨b=1∨b=2∨b=3:=by omega
  rcases this with rfl|rfl|rfl|rfl<;>simp [db]
end P
namespace P
open Go Go.RowKit
theorem BS {p:eD} {c:dS} {op n:Int} {args:List bY} {thn els:List bH} {i a:Int} (d:aC p.w p.vars=true) (q:ch p.w p.vars c.store=true) (e:0≤n∧n<p.vars.length) (hi:0≤i∧i<2^40) (j:c.trace.length<2^40):
 jH E O 86 [.agg (dH p),.agg (cJ c 0 1 2 3),.agg (bJ (.mk op n args thn els)),pb (decide (1<ak p.vars n)),pi i,pi a] (eE c) (fun r h=>r= .agg (cJ (fL p.vars c n i a) 4 1 2 3)∧h=[.dead,.cells 2 (pI c.outs),.cells 3 (nY (fL p.vars c n i a).trace),.cells 6 (lT c.todo),.cells 1 ((fL p.vars c n i a).store.map pi)]):=by
 have u:1≤p.w∧p.w≤8:=⟨(aF d).1,(aF d).2.1⟩
 have L:=mO d e i;obtain ⟨x,t,I,H,G⟩:=iu u q (i:=bq p.vars n+i%ak p.vars n) (by omega);have K:=(apM.1 t).1
 obtain ⟨y,o⟩:∃y,p.vars[n.toNat]?=some y:=⟨_,apG (by omega)⟩
 have C:ak p.vars n=y.cells:=by simp [ak,o]
 have s:¬ y.cells=0:=by omega
 have m:=gG (a:=i) (b:=y.cells) hi.1;rw [if_neg s]at m
 have z:c.store.length≤2^40:=by
  simp only [ch,apJ,apS]at q;have:=(gW d).2.2;omega
 obtain ⟨k,B⟩:∃k:Nat,(k:Int)=bq p.vars n+i%ak p.vars n:=⟨(bq p.vars n+i%ak p.vars n).toNat,by omega⟩
 refine jH.body (F:=XD) rfl rfl rfl ?_;simp (maxSteps:=9^7)-implicitDefEqProofs+contextual [-getElem?_pos,apF,XD,cJ,eE,dH,bJ];refine mE (aeV d e hi) ?_ ?_ ?_
 iterate 2· simp (maxDischargeDepth:=8)-implicitDefEqProofs [-getElem?_pos,apF]
 simp (maxSteps:=9^7)-implicitDefEqProofs+contextual [-getElem?_pos,apF];rw [←B];refine Qe [0] (Wl z (k:=k) (a:=a) (by omega)) ?_ ?_
 ·simp (maxDischargeDepth:=8)-implicitDefEqProofs [-getElem?_pos,apF]
 simp (maxSteps:=9^7)-implicitDefEqProofs+contextual [-getElem?_pos,apF,cH,e.1,e.2,o,Dj,Gv,m];have g:(bq p.vars n+i%ak p.vars n).toNat=k:=by omega
 have A:(c.store.set (bq p.vars n+i%ak p.vars n).toNat a).map pi=(c.store.map pi).set k (pi a):=by rw [List.map_set,g]
 refine xd (fun l=>?_) (fun l=>?_)
 ·refine dO [8,1,2,3] [] (pE (c:={c with store:=c.store.set k a}) (k:=2) (a:=n) (v:=i%y.cells) j) ?_ ?_ ?_ ?_ ?_ ?_ ?_
  iterate 6· first|rfl|simp (maxDischargeDepth:=8)-implicitDefEqProofs [-getElem?_pos,apF,au,eE,cJ]
  rintro D J ⟨rfl,rfl⟩ _;have f:fL p.vars c n i a={c with store:=c.store.set (bq p.vars n+i%ak p.vars n).toNat a,trace:=c.trace++[⟨2,n,i%ak p.vars n⟩]}:=by simp [fL,l]
  rw [f,g,C];simp (maxSteps:=9^7)-implicitDefEqProofs+contextual [-getElem?_pos,apF,cJ,eE,cH];refine bX [8] ?_ ?_ ?_ (fun b j=>?_) ?_ ?_
  iterate 3· simp
  ·have:b=0∨b=1∨b=2∨b=3:=by omega
   rcases this with rfl|rfl|rfl|rfl<;>simp [cy]<;>omega
  iterate 2· simp (maxDischargeDepth:=8)-implicitDefEqProofs [au,apF]
 ·have f:fL p.vars c n i a={c with store:=c.store.set (bq p.vars n+i%ak p.vars n).toNat a}:=by simp [fL,l]
  rw [f,g];simp (maxSteps:=9^7)-implicitDefEqProofs+contextual [-getElem?_pos,apF];refine bX [8] ?_ ?_ ?_ (fun b j=>?_) ?_ ?_
  iterate 3· simp
  ·have:b=0∨b=1∨b=2∨b=3:=by omega
   rcases this with rfl|rfl|rfl|rfl<;>simp [cy]<;>omega
  iterate 2· simp (maxDischargeDepth:=8)-implicitDefEqProofs [au,apF]
open Go Go.RowKit
def Qo (c:dS) (r:PV) (h:PH):Prop:=
 (r= .agg (cJ c 0 1 2 3)∧h=[.cells 1 (c.store.map pi),.cells 2 (pI c.outs),.cells 3 (nY c.trace),.cells 6 (lT c.todo)])∨
 (r= .agg (cJ c 4 1 2 3)∧h=[.dead,.cells 2 (pI c.outs),.cells 3 (nY c.trace),.cells 6 (lT c.todo),.cells 1 (c.store.map pi)])∨
 (r= .agg (cJ c 0 1 2 4)∧h=[.cells 1 (c.store.map pi),.cells 2 (pI c.outs),.cells 3 (nY c.trace),.dead,.cells 6 (lT c.todo)])
@[simp]theorem Sl (V:List Vr) (c:dS) (n i a:Int):(fL V c n i a).outs=c.outs:=rfl
@[simp]theorem Sn (V:List Vr) (c:dS) (n i a:Int):(fL V c n i a).todo=c.todo:=rfl
@[simp]theorem MG (c:dS) (e n:Int):(eY c e n).store=c.store:=rfl
@[simp]theorem Qp (c:dS) (e n:Int):(eY c e n).outs=c.outs:=rfl
@[simp]theorem MJ (c:dS) (e n:Int):(eY c e n).trace=c.trace:=rfl
@[simp]theorem Qq (c:dS) (e n:Int):(eY c e n).todo=[]:=rfl
section
variable{p:eD} {ps:List Int} {c:dS} {k n:Int} {args:List bY} {thn els:List bH} {next:List jM}
theorem K8 {vals:List Int} (h:aC p.w p.vars=true) (j:ch p.w p.vars c.store=true) (f:c.trace.length<2^40) (g:0≤n∧n<p.vars.length)
 (q:(¬ 1<ak p.vars n∧∃a,vals=[a])∨(1<ak p.vars n∧∃a b,vals=[a,b])) (m:∀a∈vals,0≤a∧a<2^40):
 jH E O 60 [.agg (dH p),m8 ps,.agg (cJ c 0 1 2 3),.agg (eP (k,.mk 0 n args thn els)),m8 vals,.fs 6 (th next)] (eE c) (Qo (cM p ps c k (.mk 0 n args thn els) vals next)):=by
 refine jH.body (F:=tu) rfl rfl rfl ?_;rcases q with⟨d,a,rfl⟩|⟨d,a,b,rfl⟩
 ·have e:cM p ps c k (.mk 0 n args thn els) [a] next=fL p.vars c n 0 a:=by simp [cM,d,et]
  rw [e];simp (maxSteps:=9^7)-implicitDefEqProofs+contextual [-getElem?_pos,apF,tu,cJ,eE,dH,eP,bJ,ir];refine dO [0,1,2,3] [] (BS (op:=0) (args:=args) (thn:=thn) (els:=els) (i:=0) (a:=a) h j g (by omega) f) ?_ ?_ ?_ ?_ ?_ ?_ ?_
  iterate 6· first|rfl|simp (maxDischargeDepth:=8)-implicitDefEqProofs [-getElem?_pos,apF,au,eE,cJ,dH,bJ,d]
  rintro l o ⟨rfl,rfl⟩ _;simp (maxSteps:=9^7)-implicitDefEqProofs+contextual [-getElem?_pos,apF,cJ,eE,cH];refine ⟨_,_,?_,.inr (.inl ⟨rfl,rfl⟩)⟩;refine bX [9] ?_ ?_ ?_ (fun b f=>?_) ?_ ?_
  iterate 3· simp
  ·have:b=0∨b=1∨b=2∨b=3:=by omega
   rcases this with rfl|rfl|rfl|rfl<;>simp [cy,cJ,aT,aK,aO,bJ]<;>omega
  iterate 2· simp (maxDischargeDepth:=8)-implicitDefEqProofs [au,apF,cJ,aT,aK,aO,bJ]
 ·have r:=m a (by simp)
  have e:cM p ps c k (.mk 0 n args thn els) [a,b] next=fL p.vars c n a b:=by simp [cM,d,et]
  rw [e];simp (maxSteps:=9^7)-implicitDefEqProofs+contextual [-getElem?_pos,apF,tu,cJ,eE,dH,eP,bJ,ir];refine dO [0,1,2,3] [] (BS (op:=0) (args:=args) (thn:=thn) (els:=els) (i:=a) (a:=b) h j g r f) ?_ ?_ ?_ ?_ ?_ ?_ ?_
  iterate 6· first|rfl|simp (maxDischargeDepth:=8)-implicitDefEqProofs [-getElem?_pos,apF,au,eE,cJ,dH,bJ,d]
  rintro l o ⟨rfl,rfl⟩ _;simp (maxSteps:=9^7)-implicitDefEqProofs+contextual [-getElem?_pos,apF,cJ,eE,cH];refine ⟨_,_,?_,.inr (.inl ⟨rfl,rfl⟩)⟩;refine bX [9] ?_ ?_ ?_ (fun b f=>?_) ?_ ?_
  iterate 3· simp
  ·have:b=0∨b=1∨b=2∨b=3:=by omega
   rcases this with rfl|rfl|rfl|rfl<;>simp [cy,cJ,aT,aK,aO,bJ]<;>omega
  iterate 2· simp (maxDischargeDepth:=8)-implicitDefEqProofs [au,apF,cJ,aT,aK,aO,bJ]
theorem K9 {a:Int} (d:c.outs.length<2^40):
 jH E O 60 [.agg (dH p),m8 ps,.agg (cJ c 0 1 2 3),.agg (eP (k,.mk 3 n args thn els)),m8 [a],.fs 6 (th next)] (eE c) (Qo (cM p ps c k (.mk 3 n args thn els) [a] next)):=by
 refine jH.body (F:=tu) rfl rfl rfl ?_;have e:cM p ps c k (.mk 3 n args thn els) [a] next={c with outs:=c.outs++[(n,a)]}:=by simp [cM,et]
 rw [e];simp (maxSteps:=9^7)-implicitDefEqProofs+contextual [-getElem?_pos,apF,tu,cJ,eE,dH,eP,bJ,ir];apply fm
 iterate 9· first|rfl|omega|(simp-implicitDefEqProofs [-getElem?_pos,apF];first|done|rfl|omega)
 simp (maxSteps:=9^7)-implicitDefEqProofs+contextual [-getElem?_pos,apF];refine ⟨_,_,?_,.inl ⟨rfl,rfl⟩⟩;refine bX [] ?_ ?_ ?_ (fun b d=>?_) ?_ ?_
 iterate 3· simp
 ·have:b=0∨b=1∨b=2∨b=3:=by omega
  rcases this with rfl|rfl|rfl|rfl<;>simp [cy,cJ,aT,aK,aO,bJ]<;>omega
 iterate 2· simp (maxDischargeDepth:=8)-implicitDefEqProofs [au,apF,cJ,aT,aK,aO,bJ]
theorem HC {op a:Int} (h:op=5∨op=6):
 jH E O 60 [.agg (dH p),m8 ps,.agg (cJ c 0 1 2 3),.agg (eP (k,.mk op n args thn els)),m8 [a],.fs 6 (th next)] (eE c) (Qo (cM p ps c k (.mk op n args thn els) [a] next)):=by
 refine jH.body (F:=tu) rfl rfl rfl ?_;rcases h with rfl|rfl
 ·by_cases q:a=0
  ·have e:cM p ps c k (.mk 5 n args thn els) [a] next=eY c 1 k:=by simp [cM,et,q]
   rw [e];simp (maxSteps:=9^7)-implicitDefEqProofs+contextual [-getElem?_pos,apF,tu,cJ,eE,dH,eP,bJ,ir,q];refine dO [0,1,2,3] [] (v5 (c:=c) (e:=1) (n:=k)) ?_ ?_ ?_ ?_ ?_ ?_ ?_
   iterate 6· first|rfl|simp (maxDischargeDepth:=8)-implicitDefEqProofs [-getElem?_pos,apF,au,eE,cJ]
   rintro f g ⟨rfl,rfl⟩ _;simp (maxSteps:=9^7)-implicitDefEqProofs+contextual [-getElem?_pos,apF,cJ,eE,cH];refine ⟨_,_,?_,.inr (.inr ⟨rfl,rfl⟩)⟩;refine bX [9] ?_ ?_ ?_ (fun b d=>?_) ?_ ?_
   iterate 3· simp
   ·have:b=0∨b=1∨b=2∨b=3:=by omega
    rcases this with rfl|rfl|rfl|rfl<;>simp [cy,cJ,aT,aK,aO,bJ]<;>omega
   iterate 2· simp (maxDischargeDepth:=8)-implicitDefEqProofs [au,apF,cJ,aT,aK,aO,bJ]
  ·have e:cM p ps c k (.mk 5 n args thn els) [a] next=c:=by simp [cM,et,q]
   rw [e];simp (maxSteps:=9^7)-implicitDefEqProofs+contextual [-getElem?_pos,apF,tu,cJ,eE,dH,eP,bJ,ir,q];refine ⟨_,_,?_,.inl ⟨rfl,rfl⟩⟩;refine bX [] ?_ ?_ ?_ (fun b d=>?_) ?_ ?_
   iterate 3· simp
   ·have:b=0∨b=1∨b=2∨b=3:=by omega
    rcases this with rfl|rfl|rfl|rfl<;>simp [cy,cJ,aT,aK,aO,bJ]<;>omega
   iterate 2· simp (maxDischargeDepth:=8)-implicitDefEqProofs [au,apF,cJ,aT,aK,aO,bJ]
 ·by_cases q:a=0
  ·have e:cM p ps c k (.mk 6 n args thn els) [a] next=eY c 2 k:=by simp [cM,et,q]
   rw [e];simp (maxSteps:=9^7)-implicitDefEqProofs+contextual [-getElem?_pos,apF,tu,cJ,eE,dH,eP,bJ,ir,q];refine dO [0,1,2,3] [] (v5 (c:=c) (e:=2) (n:=k)) ?_ ?_ ?_ ?_ ?_ ?_ ?_
   iterate 6· first|rfl|simp (maxDischargeDepth:=8)-implicitDefEqProofs [-getElem?_pos,apF,au,eE,cJ]
   rintro f g ⟨rfl,rfl⟩ _;simp (maxSteps:=9^7)-implicitDefEqProofs+contextual [-getElem?_pos,apF,cJ,eE,cH];refine ⟨_,_,?_,.inr (.inr ⟨rfl,rfl⟩)⟩;refine bX [9] ?_ ?_ ?_ (fun b d=>?_) ?_ ?_
   iterate 3· simp
   ·have:b=0∨b=1∨b=2∨b=3:=by omega
    rcases this with rfl|rfl|rfl|rfl<;>simp [cy,cJ,aT,aK,aO,bJ]<;>omega
   iterate 2· simp (maxDischargeDepth:=8)-implicitDefEqProofs [au,apF,cJ,aT,aK,aO,bJ]
  ·have e:cM p ps c k (.mk 6 n args thn els) [a] next=c:=by simp [cM,et,q]
   rw [e];simp (maxSteps:=9^7)-implicitDefEqProofs+contextual [-getElem?_pos,apF,tu,cJ,eE,dH,eP,bJ,ir,q];refine ⟨_,_,?_,.inl ⟨rfl,rfl⟩⟩;refine bX [] ?_ ?_ ?_ (fun b d=>?_) ?_ ?_
   iterate 3· simp
   ·have:b=0∨b=1∨b=2∨b=3:=by omega
    rcases this with rfl|rfl|rfl|rfl<;>simp [cy,cJ,aT,aK,aO,bJ]<;>omega
   iterate 2· simp (maxDischargeDepth:=8)-implicitDefEqProofs [au,apF,cJ,aT,aK,aO,bJ]
theorem HD {vals:List Int} (t:aC p.w p.vars=true) (u:ch p.w p.vars c.store=true) (f:c.trace.length<2^40) (r:0≤n∧n<p.vars.length) (A:ps.length<2^40)
 (y:(¬ 1<ak p.vars n∧vals=[])∨(1<ak p.vars n∧∃a,vals=[a])) (v:∀a∈vals,0≤a∧a<2^40):
 jH E O 60 [.agg (dH p),m8 ps,.agg (cJ c 0 1 2 3),.agg (eP (k,.mk 4 n args thn els)),m8 vals,.fs 6 (th next)] (eE c) (Qo (cM p ps c k (.mk 4 n args thn els) vals next)):=by
 refine jH.body (F:=tu) rfl rfl rfl ?_;by_cases d:ps.length≤c.used
 ·have e:cM p ps c k (.mk 4 n args thn els) vals next=eY c 4 k:=by simp [cM,d]
  rw [e];simp (maxSteps:=9^7)-implicitDefEqProofs+contextual [-getElem?_pos,apF,tu,cJ,eE,dH,eP,bJ,d];refine dO [0,1,2,3] [] (v5 (c:=c) (e:=4) (n:=k)) ?_ ?_ ?_ ?_ ?_ ?_ ?_
  iterate 6· first|rfl|simp (maxDischargeDepth:=8)-implicitDefEqProofs [-getElem?_pos,apF,au,eE,cJ]
  rintro o q ⟨rfl,rfl⟩ _;simp (maxSteps:=9^7)-implicitDefEqProofs+contextual [-getElem?_pos,apF,cJ,eE,cH];refine ⟨_,_,?_,.inr (.inr ⟨rfl,rfl⟩)⟩;refine bX [9] ?_ ?_ ?_ (fun b f=>?_) ?_ ?_
  iterate 3· simp
  ·have:b=0∨b=1∨b=2∨b=3:=by omega
   rcases this with rfl|rfl|rfl|rfl<;>simp [cy,cJ,aT,aK,aO,bJ]<;>omega
  iterate 2· simp (maxDischargeDepth:=8)-implicitDefEqProofs [au,apF,cJ,aT,aK,aO,bJ]
 ·obtain ⟨x,h⟩:∃x,ps[c.used]?=some x:=⟨_,apG (by omega)⟩
  have j:et ps c.used=x:=by simp [et,h]
  have m:IntKind.i64.wrap ((c.used:Int)+1)=(c.used:Int)+1:=aj ⟨by omega,by omega⟩;have l:IntKind.i64.wrap (c.used:Int)=(c.used:Int):=aj ⟨by omega,by omega⟩;have s:c.used<ps.length:=by omega
  rcases y with⟨g,rfl⟩|⟨g,a,rfl⟩
  ·have e:cM p ps c k (.mk 4 n args thn els) [] next=fL p.vars {c with used:=c.used+1} n 0 x:=by simp [cM,g,d,j]
   rw [e];simp (maxSteps:=9^7)-implicitDefEqProofs+contextual [-getElem?_pos,apF,tu,cJ,eE,dH,eP,bJ,d,m,l,s,Hi,h];refine dO [0,1,2,3] [] (BS (c:={c with used:=c.used+1}) (op:=4) (args:=args) (thn:=thn) (els:=els) (i:=0) (a:=x) t u r (by omega) f) ?_ ?_ ?_ ?_ ?_ ?_ ?_
   iterate 6· first|rfl|simp (maxDischargeDepth:=8)-implicitDefEqProofs [-getElem?_pos,apF,au,eE,cJ,dH,bJ,g]
   rintro o q ⟨rfl,rfl⟩ _;simp (maxSteps:=9^7)-implicitDefEqProofs+contextual [-getElem?_pos,apF,cJ,eE,cH];refine ⟨_,_,?_,.inr (.inl ⟨rfl,rfl⟩)⟩;refine bX [9] ?_ ?_ ?_ (fun b f=>?_) ?_ ?_
   iterate 3· simp
   ·have:b=0∨b=1∨b=2∨b=3:=by omega
    rcases this with rfl|rfl|rfl|rfl<;>simp [cy,cJ,aT,aK,aO,bJ]<;>omega
   iterate 2· simp (maxDischargeDepth:=8)-implicitDefEqProofs [au,apF,cJ,aT,aK,aO,bJ]
  ·have z:=v a (by simp)
   have e:cM p ps c k (.mk 4 n args thn els) [a] next=fL p.vars {c with used:=c.used+1} n a x:=by simp [cM,g,d,et,h]
   rw [e];simp (maxSteps:=9^7)-implicitDefEqProofs+contextual [-getElem?_pos,apF,tu,cJ,eE,dH,eP,bJ,d,m,l,s,Hi,h];refine dO [0,1,2,3] [] (BS (c:={c with used:=c.used+1}) (op:=4) (args:=args) (thn:=thn) (els:=els) (i:=a) (a:=x) t u r z f) ?_ ?_ ?_ ?_ ?_ ?_ ?_
   iterate 6· first|rfl|simp (maxDischargeDepth:=8)-implicitDefEqProofs [-getElem?_pos,apF,au,eE,cJ,dH,bJ,g]
   rintro o q ⟨rfl,rfl⟩ _;simp (maxSteps:=9^7)-implicitDefEqProofs+contextual [-getElem?_pos,apF,cJ,eE,cH];refine ⟨_,_,?_,.inr (.inl ⟨rfl,rfl⟩)⟩;refine bX [9] ?_ ?_ ?_ (fun b f=>?_) ?_ ?_
   iterate 3· simp
   ·have:b=0∨b=1∨b=2∨b=3:=by omega
    rcases this with rfl|rfl|rfl|rfl<;>simp [cy,cJ,aT,aK,aO,bJ]<;>omega
   iterate 2· simp (maxDischargeDepth:=8)-implicitDefEqProofs [au,apF,cJ,aT,aK,aO,bJ]
end
end P
namespace P
open Go Go.RowKit
theorem iB (l:List jM):(th l).take l.length=th l:=apN (by simp)
theorem iC (l:List jM):(th l).flatten=lT l:=rfl
set_option maxHeartbeats 1000000
section
variable{p:eD} {ps:List Int} {c:dS} {k n:Int} {args:List bY} {thn els:List bH} {next:List jM}
theorem Qr {a:Int} (d:c.trace.length<2^40) (j:next.length<2^35) (l:aw thn<2^30) (o:aw els<2^30) (m:0≤k∧k<2^30):
 jH E O 60 [.agg (dH p),m8 ps,.agg (cJ c 0 1 2 3),.agg (eP (k,.mk 1 n args thn els)),m8 [a],.fs 6 (th next)] (eE c) (Qo (cM p ps c k (.mk 1 n args thn els) [a] next)):=by
 have i:=eO thn;have h:=eO els;refine jH.body (F:=tu) rfl rfl rfl ?_;by_cases q:a=0
 ·have e:cM p ps c k (.mk 1 n args thn els) [a] next={c with trace:=c.trace++[⟨0,k,0⟩],todo:=bI els (k+1+al thn)++next}:=by simp [cM,et,q]
  rw [e];simp (maxSteps:=9^7)-implicitDefEqProofs+contextual [-getElem?_pos,apF,tu,cJ,eE,eP,bJ,ir,q];refine mE (BR false) ?_ ?_ ?_
  iterate 2· simp (maxDischargeDepth:=8)-implicitDefEqProofs [-getElem?_pos,apF]
  simp (maxSteps:=9^7)-implicitDefEqProofs+contextual [-getElem?_pos,apF];refine dO [0,1,2,3] [] (pE (c:=c) (k:=0) (a:=k) (v:=0) d) ?_ ?_ ?_ ?_ ?_ ?_ ?_
  iterate 6· first|rfl|simp (maxDischargeDepth:=8)-implicitDefEqProofs [-getElem?_pos,apF,au,eE,cJ]
  rintro f g ⟨rfl,rfl⟩ _;simp (maxSteps:=9^7)-implicitDefEqProofs+contextual [-getElem?_pos,apF,cJ,eE,cH];refine pv (HA (k:=k) (op:=1) (n:=n) (args:=args) (thn:=thn) (els:=els) (by omega) (by omega) (by omega)) ?_ ?_ ?_
  iterate 2· simp (maxDischargeDepth:=8)-implicitDefEqProofs [-getElem?_pos,apF,eP,bJ]
  simp (maxSteps:=9^7)-implicitDefEqProofs+contextual [-getElem?_pos,apF];apply fm
  iterate 9· first|rfl|omega|(simp-implicitDefEqProofs [-getElem?_pos,apF,iB,iC];first|done|rfl|omega)
  simp (maxSteps:=9^7)-implicitDefEqProofs+contextual [-getElem?_pos,apF,iB,iC,ir,q];refine ⟨_,_,?_,.inr (.inr ⟨rfl,rfl⟩)⟩;refine bX [9] ?_ ?_ ?_ (fun b d=>?_) ?_ ?_
  iterate 3· simp
  ·have:b=0∨b=1∨b=2∨b=3:=by omega
   rcases this with rfl|rfl|rfl|rfl<;>simp [cy,cJ,aT,aK,aO,bJ]<;>omega
  iterate 2· simp (maxDischargeDepth:=8)-implicitDefEqProofs [au,apF,cJ,aT,aK,aO,bJ]
 ·have e:cM p ps c k (.mk 1 n args thn els) [a] next={c with trace:=c.trace++[⟨0,k,1⟩],todo:=bI thn (k+1)++next}:=by simp [cM,et,q]
  rw [e];simp (maxSteps:=9^7)-implicitDefEqProofs+contextual [-getElem?_pos,apF,tu,cJ,eE,eP,bJ,ir,q];refine mE (BR true) ?_ ?_ ?_
  iterate 2· simp (maxDischargeDepth:=8)-implicitDefEqProofs [-getElem?_pos,apF]
  simp (maxSteps:=9^7)-implicitDefEqProofs+contextual [-getElem?_pos,apF];refine dO [0,1,2,3] [] (pE (c:=c) (k:=0) (a:=k) (v:=1) d) ?_ ?_ ?_ ?_ ?_ ?_ ?_
  iterate 6· first|rfl|simp (maxDischargeDepth:=8)-implicitDefEqProofs [-getElem?_pos,apF,au,eE,cJ]
  rintro f g ⟨rfl,rfl⟩ _;simp (maxSteps:=9^7)-implicitDefEqProofs+contextual [-getElem?_pos,apF,cJ,eE,cH];refine pv (HA (k:=k) (op:=1) (n:=n) (args:=args) (thn:=thn) (els:=els) (by omega) (by omega) (by omega)) ?_ ?_ ?_
  iterate 2· simp (maxDischargeDepth:=8)-implicitDefEqProofs [-getElem?_pos,apF,eP,bJ]
  simp (maxSteps:=9^7)-implicitDefEqProofs+contextual [-getElem?_pos,apF];apply fm
  iterate 9· first|rfl|omega|(simp-implicitDefEqProofs [-getElem?_pos,apF,iB,iC];first|done|rfl|omega)
  simp (maxSteps:=9^7)-implicitDefEqProofs+contextual [-getElem?_pos,apF,iB,iC,ir,q];refine pv (Hz (k:=k) (op:=1) (n:=n) (args:=args) (thn:=thn) (els:=els) (by omega) (by omega)) ?_ ?_ ?_
  iterate 2· simp (maxDischargeDepth:=8)-implicitDefEqProofs [-getElem?_pos,apF,eP,bJ]
  simp (maxSteps:=9^7)-implicitDefEqProofs+contextual [-getElem?_pos,apF];apply fm
  iterate 9· first|rfl|omega|(simp-implicitDefEqProofs [-getElem?_pos,apF,iB,iC];first|done|rfl|omega)
  simp (maxSteps:=9^7)-implicitDefEqProofs+contextual [-getElem?_pos,apF,iB,iC,ir,q];refine ⟨_,_,?_,.inr (.inr ⟨rfl,rfl⟩)⟩;refine bX [10] ?_ ?_ ?_ (fun b d=>?_) ?_ ?_
  iterate 3· simp
  ·have:b=0∨b=1∨b=2∨b=3:=by omega
   rcases this with rfl|rfl|rfl|rfl<;>simp [cy,cJ,aT,aK,aO,bJ]<;>omega
  iterate 2· simp (maxDischargeDepth:=8)-implicitDefEqProofs [au,apF,cJ,aT,aK,aO,bJ]
theorem Dp {a:Int} (h:c.todo=next) (d:c.trace.length<2^40) (l:next.length<2^35) (m:aw thn<2^30) (o:0≤k∧k<2^30):
 jH E O 60 [.agg (dH p),m8 ps,.agg (cJ c 0 1 2 3),.agg (eP (k,.mk 2 n args thn els)),m8 [a],.fs 6 (th next)] (eE c) (Qo (cM p ps c k (.mk 2 n args thn els) [a] next)):=by
 have j:=eO thn;have f:thn.length+1+next.length=thn.length+(next.length+1):=by omega
 refine jH.body (F:=tu) rfl rfl rfl ?_;by_cases q:a=0
 ·have e:cM p ps c k (.mk 2 n args thn els) [a] next={c with trace:=c.trace++[⟨0,k,0⟩]}:=by simp [cM,et,q,h]
  rw [e];simp (maxSteps:=9^7)-implicitDefEqProofs+contextual [-getElem?_pos,apF,tu,cJ,eE,eP,bJ,ir,q];refine mE (BR false) ?_ ?_ ?_
  iterate 2· simp (maxDischargeDepth:=8)-implicitDefEqProofs [-getElem?_pos,apF]
  simp (maxSteps:=9^7)-implicitDefEqProofs+contextual [-getElem?_pos,apF];refine dO [0,1,2,3] [] (pE (c:=c) (k:=0) (a:=k) (v:=0) d) ?_ ?_ ?_ ?_ ?_ ?_ ?_
  iterate 6· first|rfl|simp (maxDischargeDepth:=8)-implicitDefEqProofs [-getElem?_pos,apF,au,eE,cJ]
  rintro g i ⟨rfl,rfl⟩ _;simp (maxSteps:=9^7)-implicitDefEqProofs+contextual [-getElem?_pos,apF,cJ,eE,cH,ir,q];refine ⟨_,_,?_,.inl ⟨rfl,rfl⟩⟩;refine bX [] ?_ ?_ ?_ (fun b d=>?_) ?_ ?_
  iterate 3· simp
  ·have:b=0∨b=1∨b=2∨b=3:=by omega
   rcases this with rfl|rfl|rfl|rfl<;>simp [cy,cJ,aT,aK,aO,bJ]<;>omega
  iterate 2· simp (maxDischargeDepth:=8)-implicitDefEqProofs [au,apF,cJ,aT,aK,aO,bJ]
 ·have e:cM p ps c k (.mk 2 n args thn els) [a] next={c with trace:=c.trace++[⟨0,k,1⟩],todo:=bI thn (k+1)++(k,.mk 2 n args thn els)::next}:=by simp [cM,et,q]
  rw [e];simp (maxSteps:=9^7)-implicitDefEqProofs+contextual [-getElem?_pos,apF,tu,cJ,eE,eP,bJ,ir,q];refine mE (BR true) ?_ ?_ ?_
  iterate 2· simp (maxDischargeDepth:=8)-implicitDefEqProofs [-getElem?_pos,apF]
  simp (maxSteps:=9^7)-implicitDefEqProofs+contextual [-getElem?_pos,apF];refine dO [0,1,2,3] [] (pE (c:=c) (k:=0) (a:=k) (v:=1) d) ?_ ?_ ?_ ?_ ?_ ?_ ?_
  iterate 6· first|rfl|simp (maxDischargeDepth:=8)-implicitDefEqProofs [-getElem?_pos,apF,au,eE,cJ]
  rintro g i ⟨rfl,rfl⟩ _;simp (maxSteps:=9^7)-implicitDefEqProofs+contextual [-getElem?_pos,apF,cJ,eE,cH,ir,q];refine pv (Hz (k:=k) (op:=2) (n:=n) (args:=args) (thn:=thn) (els:=els) (by omega) (by omega)) ?_ ?_ ?_
  iterate 2· simp (maxDischargeDepth:=8)-implicitDefEqProofs [-getElem?_pos,apF,eP,bJ]
  simp (maxSteps:=9^7)-implicitDefEqProofs+contextual [-getElem?_pos,apF];apply fm
  iterate 9· first|rfl|omega|(simp-implicitDefEqProofs [-getElem?_pos,apF];first|done|rfl|omega)
  simp (maxSteps:=9^7)-implicitDefEqProofs+contextual [-getElem?_pos,apF];apply fm
  iterate 9· first|rfl|omega|(simp-implicitDefEqProofs [-getElem?_pos,apF,iB,iC];first|done|rfl|omega)
  simp (maxSteps:=9^7)-implicitDefEqProofs+contextual [-getElem?_pos,apF,iB,iC,ir,q];refine ⟨_,_,?_,.inr (.inr ⟨rfl,rfl⟩)⟩;refine bX [10] ?_ ?_ ?_ (fun b d=>?_) ?_ ?_
  iterate 3· simp
  ·have:b=0∨b=1∨b=2∨b=3:=by omega
   rcases this with rfl|rfl|rfl|rfl<;>simp [cy,cJ,aT,aK,aO,bJ,f]<;>omega
  iterate 2· simp (maxDischargeDepth:=8)-implicitDefEqProofs [au,apF,cJ,aT,aK,aO,bJ,f]
end
end P
namespace P
open Go Go.RowKit
section
variable{A:Nat→Prop} {σ:Nat→Nat} {h bs:PH}
@[simp]theorem aeW {b:Nat} {l:List (Int×Int)} (d:A b) (c:h[b]?=some (.cells 2 (pI l))):Vg A σ h bs (.sl 2 b 0 l.length l.length) (.fs 2 (Hv l))↔True:=⟨fun _=>trivial,fun _=>x8 (lv d c (by decide) (by simp) (by unfold Hv;intro r a;obtain ⟨x,_,rfl⟩:=aqd.1 a;simp) (jg (pD l)))⟩
@[simp]theorem aeX {b:Nat} {l:List Ev} (c:A b) (a:h[b]?=some (.cells 3 (nY l))):Vg A σ h bs (.sl 3 b 0 l.length l.length) (.fs 3 (Hu l))↔True:=⟨fun _=>trivial,fun _=>x8 (lv c a (by decide) (by simp) (by simp [Hu]) (jg (pC l)))⟩
@[simp]theorem aeY {b:Nat} {l:List jM} (d:A b) (c:h[b]?=some (.cells 6 (lT l))):Vg A σ h bs (.sl 6 b 0 l.length l.length) (.fs 6 (th l))↔True:=⟨fun _=>trivial,fun _=>x8 (lv d c (by decide) (by simp) (by unfold th;intro r a;obtain ⟨x,_,rfl⟩:=aqd.1 a;simp) (jg (mV l)))⟩
@[simp]theorem ain (b:Nat):lS b↔True:=Iff.rfl
def Ak:Option PB→List jM→Prop
 |some (.cells z cs),l=>z=6∧cs.drop 6=lT l∧cs.length=l.length*6+6
 |_,_=>False
@[simp]theorem aeZ (z:Nat) (cs:List PV) (l:List jM):Ak (some (.cells z cs)) l↔z=6∧cs.drop 6=lT l∧cs.length=l.length*6+6:=Iff.rfl
@[simp]theorem La {b:Nat} {l:List jM} (d:A b) (a:Ak h[b]? l):Vg A σ h bs (.sl 6 b 1 l.length l.length) (.fs 6 (th l))↔True:=⟨fun _=>trivial,fun _=>by
 cases e:h[b]? with
 |none=>rw [e]at a;exact a.elim
 |some P=>
  cases P with
  |cells z cs=>
   rw [e]at a;obtain ⟨rfl,f,h2⟩:=a;refine x8 (G0 d e (by omega) (by decide) (apK _) (apK _) (by simp) (by unfold th;intro r c;obtain ⟨x,_,rfl⟩:=aqd.1 c;simp) ?_)
   have:(cs.drop (1*6)).take (l.length*6)=(th l).flatten:=by
    rw [Nat.one_mul,f];exact apN (by simp)
   rw [this];exact jg (mV l)
  |_=>rw [e]at a;exact a.elim⟩
def Al (b:Nat) (l:List jM):PV:=if l.length=0 then .fs 6 []else .sl 6 b 1 l.length l.length
theorem v7 {b:Nat} {l:List jM} (a:Ak h[b]? l):∃cs,h[b]?=some (.cells 6 cs)∧cs.drop 6=lT l∧cs.length=l.length*6+6:=by
 cases e:h[b]? with
 |none=>rw [e]at a;exact a.elim
 |some P=>
  cases P with
  |cells z cs=>rw [e]at a;obtain ⟨rfl,c,h2⟩:=a;exact ⟨cs,rfl,c,h2⟩
  |_=>rw [e]at a;exact a.elim
theorem Lb {b:Nat} {l:List jM} (f:l.length<2^60) (c:Ak h[b]? l):Mo 6 h (.sl 6 b 0 (l.length+1) (l.length+1)) (some (.v (.int .i64 1))) none none=some (Al b l,h):=by
 obtain ⟨cs,e,_,g⟩:=v7 c
 have d:bQ (l.length+1) (l.length+1) (some (.int .i64 1)) none none=some (1,l.length+1,l.length+1):=by
  simp [bQ,iH];rw [if_pos (by omega)];rfl
 unfold Mo;simp only [Ky,e];rw [d];simp only;rw [if_pos (by refine ⟨trivial,by decide,trivial,by omega,apK _⟩),if_neg (by omega)];unfold Al;by_cases a:l.length=0
 ·rw [if_pos (by omega),if_pos a];rfl
 ·rw [if_neg (by omega),if_pos trivial,if_neg a];rfl
@[simp]theorem Wm (b:Nat) (l:List jM):qc (Al b l)=some l.length:=by
 unfold Al;split
 ·rename_i h;rw [h];rfl
 ·rfl
@[simp]theorem Qs {b:Nat} {l:List jM} (a:Ak h[b]? l):kf h 6 l.length (Al b l)=some (lT l):=by
 obtain ⟨cs,e,d,f⟩:=v7 a;unfold Al;split
 ·rename_i c
  have:l=[]:=ap9.1 c;subst this;rfl
 ·unfold kf
  simp only [e];rw [if_pos ⟨trivial,by omega,apK _,apK _⟩,Nat.one_mul,d,apN (by simp)]
@[simp]theorem Qt {b:Nat} {l:List jM} (a:Ak h[b]? l):iP h (Al b l)=true:=by
 obtain ⟨cs,e,d,c⟩:=v7 a;unfold Al;split
 ·rfl
 ·unfold iP
  simp only [e];exact decide_eq_true (by omega)
@[simp]theorem ae0 {b:Nat} {l:List jM} (c:A b) (a:Ak h[b]? l):Vg A σ h bs (Al b l) (.fs 6 (th l))↔True:=⟨fun _=>trivial,fun _=>by
 unfold Al;split
 ·rename_i d
  have:l=[]:=ap9.1 d;subst this;exact (G3 _ _).2 trivial
 ·exact (La c a).2 trivial⟩
@[simp]theorem ZF {b i:Nat} {l:List jM} (hs:σ i=b) (k:Im h[b]? bs[i]?):Vg A σ h bs (Al b l) (Al i l)↔True:=⟨fun _=>trivial,fun _=>by
 unfold Al;split
 ·exact (G3 _ _).2 trivial
 ·exact (Qb hs k).2 trivial⟩
def Qu (h:PH):Option PB→List Int→Prop
 |some (.cells z [.sl 1 b 0 n n']),s=>z=1∧n=s.length∧n'=s.length∧h[b]?=some (.cells 1 (s.map pi))
 |_,_=>False
@[simp]theorem ae1 (z b n a:Nat) (s:List Int):Qu h (some (.cells z [.sl 1 b 0 n a])) s↔z=1∧n=s.length∧a=s.length∧h[b]?=some (.cells 1 (s.map pi)):=Iff.rfl
@[simp]theorem ae2 {b:Nat} {s:List Int} (a:Qu h h[b]? s):Vg lS σ h bs (.sl 1 b 0 1 1) (K2 [s])↔True:=⟨fun _=>trivial,fun _=>by
 cases e:h[b]? with
 |none=>rw [e]at a;exact a.elim
 |some P=>
  cases P with
  |cells z cs=>
   rw [e]at a;unfold Qu at a;split at a
   ·rename_i d
    cases d;obtain ⟨rfl,rfl,rfl,c⟩:=a;refine x8 (G0 trivial e rfl (by decide) (apK _) (apK _) (by simp) (by simp) ?_);simp;exact Aa trivial c
   ·exact a.elim
  |_=>rw [e]at a;exact a.elim⟩
end
def DP (c:dS):List PV:=[pi c.en,m8 c.store,.fs 2 (Hv c.outs),.fs 3 (Hu c.trace),pi c.cost,pi c.used,pi c.wh,pi c.fuel,.fs 6 (th c.todo),pb c.dG]
theorem rv (c:dS):Fz E O 21 [.agg (DP c)] (pb (c.dG||decide (c.todo.length=0))):=by
 refine Fz.body (F:=Tq) rfl rfl rfl rfl ?_;cases h:c.dG
 ·simp (maxSteps:=9^7)-implicitDefEqProofs [-getElem?_pos,apF,Tq,DP,h]
 ·simp (maxSteps:=9^7)-implicitDefEqProofs [-getElem?_pos,apF,Tq,DP,h]
theorem yl:∀l:List Ev,iR (nY l)=true
 |[]=>rfl
 |a::l=>by rw [pB];simp [iR,mC,yl l]
structure tj (p:eD) (ps:List Int) (c:dS):Prop extends Inv p ps c where
 Dq:∀it∈c.todo,Dl it.2
 len:(c.todo.length:Int)+500*c.fuel≤2^30
def cfS (c:dS) (r:PV) (h:PH):Prop:=
 (r= .agg (cJ c 0 1 2 3)∧h=[.cells 1 (c.store.map pi),.cells 2 (pI c.outs),.cells 3 (nY c.trace),.cells 6 (lT c.todo)])∨
 (r= .agg (cJ c 0 1 2 4)∧h=[.cells 1 (c.store.map pi),.cells 2 (pI c.outs),.cells 3 (nY c.trace),.dead,.cells 6 (lT c.todo)])∨
 (r= .agg (cJ c 4 1 2 5)∧h=[.dead,.cells 2 (pI c.outs),.cells 3 (nY c.trace),.dead,.cells 1 (c.store.map pi),.cells 6 (lT c.todo)])
def HL (p:eD) (c:dS) (k:Int) (s:bH) (next:List jM) (i:Nat):PH:=
 [.cells 1 (c.store.map pi),.cells 2 (pI c.outs),.cells 3 (nY (c.trace++iX p.w p.vars [c.store] (s.args.take i))),.cells 6 (lT ((k,s)::next)),
  .cells 10 (cJ {c with trace:=c.trace++iX p.w p.vars [c.store] (s.args.take i),cost:=c.cost+1+aq (s.args.take i),fuel:=c.fuel- 1,todo:=next} 0 1 2 5),
  .cells 6 (lT next),.cells 6 (eP (k,s)),.cells 1 ((bP p.w p.vars [c.store] (s.args.take i)).map pi),.cells 3 (dH p),
  .cells 10 [pi 0,.v (.slice none 0 0),.v (.slice none 0 0),.v (.slice none 0 0),pi 0,pi 0,pi 0,pi 0,.v (.slice none 0 0),pb false]]
def FL (ps:List Int) (next:List jM) (i:Nat):List (Nat×PV):=[(1,m8 ps),(3,.ref 8 0 3),(5,.ref 4 0 10),(6,.ref 9 0 10),(7,.ref 6 0 6),(8,Al 3 next),(9,.sl 1 7 0 i i),(10,pi i)]
end P
set_option maxHeartbeats 1000000
namespace P
open Go Go.RowKit
theorem qe {w:Int} {V:List Vr} {S:List (List Int)} {l:List bY} {i:Nat} {y:bY} (h:l[i]?=some y):bP w V S (l.take (i+1))=bP w V S (l.take i)++[aZ w V S y]:=by
 rw [p9,p9,ap1,sG,h];rfl
theorem ym (l:List Ev):(nY l).take (l.length*3)=nY l:=apN (by simp)
def SI (p:eD) (ps:List Int) (c:dS) (k:Int) (s:bH) (next:List jM) (i:Nat) (fr:PF) (h:PH):Prop:=h=HL p c k s next i∧fr.get 1=m8 ps∧fr.get 3= .ref 8 0 3∧fr.get 5= .ref 4 0 10∧fr.get 6= .ref 9 0 10∧fr.get 7= .ref 6 0 6∧fr.get 8=Al 3 next∧fr.get 9= .sl 1 7 0 i i∧fr.get 10=pi i
theorem MK (p:eD) (ps:List Int) (c:dS) (k:Int) (s:bH) (next:List jM) (i:Nat):SI p ps c k s next i (PF.KV (FL ps next i)) (HL p c k s next i):=by simp [SI,FL]
theorem Wn {p:eD} {ps:List Int} {c b:dS} {k op n:Int} {args:List bY} {thn els:List bH} {next:List jM} (I:tj p ps c) (g:c.todo=(k,.mk op n args thn els)::next) (hf:c.fuel≠0) (o:iO p c (.mk op n args thn els) next=b):
 jH E O 60 [.agg (dH p),m8 ps,.agg (cJ b 0 1 2 3),.agg (eP (k,.mk op n args thn els)),m8 (bP p.w p.vars [c.store] args),.fs 6 (th next)] (eE b) (Qo (cM p ps b k (.mk op n args thn els) (bP p.w p.vars [c.store] args) next)):=by
 obtain ⟨J,H,C,v⟩:=I.todo (k,.mk op n args thn els) (by rw [g];simp);obtain ⟨M,U6,xI,D⟩:=fZ C;simp only at J H v;rw [bx]at v;have pa:=bh args;have Y:=bF thn;have Z:=bF els;have P:CZ p.w p.vars [c.store]:=fun t g=>by simp at g;subst g;exact I.store
 have A:=tZ (S:=[c.store]) I.head P args (fun e K=>(M e K).1);have Q:=jl (w:=p.w) (V:=p.vars) (S:=[c.store]) (l:=args) (fun e _=>dV e);have RO:=I.fuel;have zN:=I.tr;have F:=I.ou;have B:=I.used;have RI:=I.RN;have L:=jW (.mk op n args thn els);have hp:=iV (w:=p.w) ⟨(aF I.head).1,(aF I.head).2.1⟩;have j:=I.len;rw [g]at j;simp only [List.length_cons]at j;have X:b.store=c.store:=by rw [←o];rfl
 have W:b.trace=c.trace++iX p.w p.vars [c.store] args:=by rw [←o];rfl
 have T:b.todo=next:=by rw [←o];rfl
 have R:b.outs=c.outs:=by rw [←o];rfl
 have z:ch p.w p.vars b.store=true:=by rw [X];exact I.store
 have m:b.trace.length<2^40:=by rw [W,apP];omega
 have u:(bP p.w p.vars [c.store] args).length=args.length:=iz args
 have s:∀a∈bP p.w p.vars [c.store] args,0≤a∧a<2^40:=fun a N=>by
  obtain ⟨i,hi,e⟩:=List.getElem_of_mem N;have:=A i (by omega);have U:et (bP p.w p.vars [c.store] args) i=a:=by unfold et;rw [apG hi,e];rfl
  rw [U]at this;omega
 generalize bP p.w p.vars [c.store] args=d at*;have one:args.length=1→∃a,d=[a]:=fun h=>aqm.1 (by omega)
 rcases D with⟨rfl,q,r⟩|⟨rfl,x,rfl⟩|⟨rfl,x,rfl⟩|⟨rfl,x,rfl⟩|⟨rfl,q,r⟩|⟨G,x,rfl⟩
 ·refine K8 I.head z m q ?_ s
  rcases r with⟨f,x,rfl⟩|⟨f,x,y,rfl⟩
  ·exact .inl ⟨f,one rfl⟩
  ·refine .inr ⟨f,?_⟩
   match d,u with
   |[a,b],_=>exact ⟨a,b,rfl⟩
 ·obtain ⟨a,rfl⟩:=one rfl
  exact Qr m (by omega) (by omega) (by omega) (by omega)
 ·obtain ⟨a,rfl⟩:=one rfl
  exact Dp T m (by omega) (by omega) (by omega)
 ·obtain ⟨a,rfl⟩:=one rfl
  exact K9 (by rw [R];omega)
 ·refine HD I.head z m q (by omega) ?_ s
  rcases r with⟨f,rfl⟩|⟨f,x,rfl⟩
  ·exact .inl ⟨f,ap9.1 (by simpa using u)⟩
  ·exact .inr ⟨f,one rfl⟩
 ·obtain ⟨a,rfl⟩:=one rfl
  exact HC G
theorem Qv {p:eD} {ps:List Int} {c:dS} (I:tj p ps c):jH E O 22 [.agg (dH p),m8 ps,.agg (cJ c 0 1 2 3)] (eE c) (cfS (bG p ps c)):=by
 refine jH.body (F:=Rb) rfl rfl rfl ?_;cases A:(c.dG||decide (c.todo.length=0))
 case true=>
  have e:bG p ps c=c:=by
   simp only [Bool.or_eq_true,apS]at A;unfold bG;by_cases d:c.dG=true
   ·rw [if_pos d]
   ·rw [if_neg d]
    cases j:c.todo with
    |nil=>rfl
    |cons it next=>rw [j]at A;simp at A;exact absurd A d
  rw [e];simp (maxSteps:=9^7)-implicitDefEqProofs+contextual [-getElem?_pos,apF,Rb,cJ,eE];refine vV (rv c) ?_ ?_ ?_
  iterate 2· simp (maxDischargeDepth:=8)-implicitDefEqProofs [-getElem?_pos,apF,DP]
  have wG:c.dG=true∨c.todo=[]:=by simpa using A
  simp (maxSteps:=9^7)-implicitDefEqProofs+contextual [-getElem?_pos,apF,wG];refine ⟨_,_,?_,.inl ⟨rfl,rfl⟩⟩;refine bX [] ?_ ?_ ?_ (fun b m=>?_) ?_ ?_
  iterate 3· simp
  ·have:b=0∨b=1∨b=2∨b=3:=by omega
   rcases this with rfl|rfl|rfl|rfl<;>simp [cy,cJ]<;>omega
  iterate 2· simp (maxDischargeDepth:=8)-implicitDefEqProofs [au,apF,cJ]
 simp only [Bool.or_eq_false_iff,decide_eq_false_iff_not]at A;obtain ⟨d,U⟩:=A
 cases j:c.todo with
 |nil=>rw [j]at U;exact absurd rfl U
 |cons it next=>
 obtain ⟨k,s⟩:=it;obtain ⟨op,n,args,f,g⟩:=s;have a:(next.length+1)*6=next.length*6+1+1+1+1+1+1:=by omega
 by_cases u:c.fuel=0
 ·have e:bG p ps c=eY c 3 k:=by
   unfold bG;rw [if_neg (by simp [d]),j];show(if c.fuel=0 then _ else _)=_;rw [if_pos u]
  rw [e];simp (maxSteps:=9^7)-implicitDefEqProofs+contextual [-getElem?_pos,apF,Rb,cJ,eE];refine vV (rv c) ?_ ?_ ?_
  iterate 2· simp (maxDischargeDepth:=8)-implicitDefEqProofs [-getElem?_pos,apF,DP]
  simp (maxSteps:=9^7)-implicitDefEqProofs+contextual [-getElem?_pos,apF,d,u,j,bJ,dH,a];refine dO [0,1,2,3] [] (v5 (c:=c) (e:=3) (n:=k)) ?_ ?_ ?_ ?_ ?_ ?_ ?_
  iterate 6· first|rfl|simp (maxDischargeDepth:=8)-implicitDefEqProofs [-getElem?_pos,apF,au,eE,cJ,j,bJ,d,u,a]
  rintro r0 fS ⟨rfl,rfl⟩ _;simp (maxSteps:=9^7)-implicitDefEqProofs+contextual [-getElem?_pos,apF,cJ,eE,cH,j,d,u,bJ,a];refine ⟨_,_,?_,.inr (.inl ⟨rfl,rfl⟩)⟩;refine bX [8] ?_ ?_ ?_ (fun b m=>?_) ?_ ?_
  iterate 3· simp
  ·have:b=0∨b=1∨b=2∨b=3:=by omega
   rcases this with rfl|rfl|rfl|rfl<;>simp [cy,cJ,a]<;>omega
  iterate 2· simp (maxDischargeDepth:=8)-implicitDefEqProofs [au,apF,cJ,a]
 have RO:=I.fuel;have Dy:=I.co;have zN:=I.tr;have N:IntKind.i64.wrap (c.fuel- 1)=c.fuel- 1:=aj ⟨by omega,by omega⟩;have M:IntKind.i64.wrap (c.cost+1)=c.cost+1:=aj ⟨by omega,by omega⟩;have R:=I.len;rw [j]at R;simp only [List.length_cons]at R;simp (maxSteps:=9^7)-implicitDefEqProofs+contextual [-getElem?_pos,apF,Rb,cJ,eE];refine vV (rv c) ?_ ?_ ?_
 iterate 2· simp (maxDischargeDepth:=8)-implicitDefEqProofs [-getElem?_pos,apF,DP]
 have K:next.length<2^60:=by omega
 simp (maxSteps:=9^7)-implicitDefEqProofs+contextual [-getElem?_pos,apF,-Mo,Lb K,d,u,j,bJ,dH,a,N,M];apply fm
 iterate 9· first|rfl|omega|(simp-implicitDefEqProofs [-getElem?_pos,apF,-qc,-kf,-iP];first|done|rfl|omega)
 simp (maxSteps:=9^7)-implicitDefEqProofs+contextual [-getElem?_pos,apF,d,u,j,bJ,dH,a,N,M];obtain ⟨C8,C6,lK,T⟩:=I.todo (k,.mk op n args f g) (by rw [j];simp);obtain ⟨aH,U6,xI,Bo⟩:=fZ lK;have J:=I.Dq (k,.mk op n args f g) (by rw [j];simp);simp only at C8 C6 T J;rw [bx]at T;rw [Dl]at J;have H:=J.2.2.2.2.2.1;have pa:=bh args;have pt:=bF f;have pe:=bF g;have yB:CZ p.w p.vars [c.store]:=fun t j=>by simp at j;subst j;exact I.store
 refine vP (SI p ps c k (.mk op n args f g) next) args.length (BP (h2:=HL p c k (.mk op n args f g) next 0) [5,8,7,9,4,6] (FL ps next 0) ?_ ?_ ?_ ?_ ?_ ?_) (MK _ _ _ _ _ _ _) ?_
 ·simp [HL,FL,cJ,eP,bJ,dH,bH.args,iX,bP,aq,d,a]
 iterate 2· simp
 ·intro b m
  have:b=0∨b=1∨b=2∨b=3:=by omega
  rcases this with rfl|rfl|rfl|rfl<;>simp [cy,HL,FL,cJ,eP,bJ,dH,bH.args,iX,bP,aq,d,a]<;>omega
 iterate 2· simp (maxDischargeDepth:=8)-implicitDefEqProofs [au,apF,HL,FL,cJ,eP,bJ,dH,bH.args,iX,bP,aq,d,a]
 intro i fr h hi hI;obtain ⟨rfl,r,z,x,l,v,q,C,f10⟩:=hI;by_cases h:i<args.length
 ·obtain ⟨y,o⟩:∃y,args[i]?=some y:=⟨_,apG h⟩
  have B:=apL o;obtain ⟨W,O9⟩:=aH y B;have G:=yi H y B;have hal:=lh args;have Z:=eJ o;have t2:=bo args i;have t3:=bo args (i+1);have t4:=mq (w:=p.w) (V:=p.vars) (S:=[c.store]) args i;have t5:=dV (w:=p.w) (V:=p.vars) (S:=[c.store]) y;have D:(bP p.w p.vars [c.store] (args.take i)).length=i:=by rw [iz,List.length_take];omega
  have Y:IntKind.i64.wrap (c.cost+1+aq (args.take i)+aB y)=c.cost+1+aq (args.take (i+1)):=by rw [Z,←Int.add_assoc];exact aj ⟨by omega,by omega⟩
  have X:IntKind.i64.wrap ((i:Int)+1)=((i+1:Nat):Int):=aj ⟨by omega,by omega⟩;simp (maxSteps:=9^7)-implicitDefEqProofs+contextual [-getElem?_pos,apF,r,z,x,l,v,q,C,f10,h,o,HL,cJ,dH,eP,bJ,bH.args,d,a];refine vV (K5 (S:=[c.store]) I.head yB G W) ?_ ?_ ?_
  iterate 2· simp (maxDischargeDepth:=8)-implicitDefEqProofs [-getElem?_pos,apF]
  simp (maxSteps:=9^7)-implicitDefEqProofs+contextual [-getElem?_pos,apF];apply fm
  iterate 9· first|rfl|omega|(simp-implicitDefEqProofs [-getElem?_pos,apF,D];first|done|rfl|omega)
  simp (maxSteps:=9^7)-implicitDefEqProofs+contextual [-getElem?_pos,apF,r,z,x,l,v,q,C,f10];refine mE (K6 G (by omega)) ?_ ?_ ?_
  iterate 2· simp (maxDischargeDepth:=8)-implicitDefEqProofs [-getElem?_pos,apF]
  simp (maxSteps:=9^7)-implicitDefEqProofs+contextual [-getElem?_pos,apF,r,z,x,l,v,q,C,f10,Y];refine Ho (Hw (s:=c.store) I.head I.store G W (by omega)) ?_ ?_ ?_
  iterate 2· simp (maxDischargeDepth:=8)-implicitDefEqProofs [-getElem?_pos,apF,yl]
  simp (maxSteps:=9^7)-implicitDefEqProofs+contextual [-getElem?_pos,apF];apply fm
  iterate 9· first|rfl|omega|(simp-implicitDefEqProofs [-getElem?_pos,apF,ym];first|done|rfl|omega)
  simp (maxSteps:=9^7)-implicitDefEqProofs+contextual [-getElem?_pos,apF,r,z,x,l,v,q,C,f10,X,ym];refine .VX h (BP (h2:=HL p c k (.mk op n args f g) next (i+1)) [4,5,6,7,8,9] (FL ps next (i+1)) ?_ ?_ ?_ ?_ ?_ ?_) (MK _ _ _ _ _ _ _)
  ·simp [HL,FL,cJ,eP,bJ,dH,bH.args,d,a,mn o,qe o,aK,Nat.add_assoc,r,z,x,l,v,q]
  iterate 2· simp
  ·intro b m
   have:b=0∨b=1∨b=2∨b=3:=by omega
   rcases this with rfl|rfl|rfl|rfl<;>simp [cy,HL,FL,cJ,eP,bJ,dH,bH.args,d,a,mn o,qe o,aK,Nat.add_assoc,r,z,x,l,v,q]<;>omega
  iterate 2· simp (maxDischargeDepth:=8)-implicitDefEqProofs [au,apF,HL,FL,cJ,eP,bJ,dH,bH.args,d,a,mn o,qe o,aK,Nat.add_assoc,r,z,x,l,v,q]
 ·obtain rfl:i=args.length:=by omega
  obtain ⟨b,m⟩:∃b,iO p c (.mk op n args f g) next=b:=⟨_,rfl⟩
  have e:bG p ps c=cM p ps b k (.mk op n args f g) (bP p.w p.vars [c.store] args) next:=by
   unfold bG;rw [if_neg (by simp [d]),j,←m];show(if c.fuel=0 then _ else _)=_;rw [if_neg u];rfl
  have L:=Wn I j u m;have D:(bP p.w p.vars [c.store] args).length=args.length:=iz args;rw [e];generalize cM p ps b k (.mk op n args f g) (bP p.w p.vars [c.store] args) next=c' at L⊢
  generalize Q:bP p.w p.vars [c.store] args=P at L;subst m;simp (maxSteps:=9^7)-implicitDefEqProofs+contextual [-getElem?_pos,apF,r,z,x,l,v,q,C,f10,HL,cJ,dH,eP,bJ,bH.args,d,a];rw [Q];rw [←D,Q];refine dO [0,1,2,5] [3,7] L ?_ ?_ ?_ ?_ ?_ ?_ ?_
  iterate 6· first|rfl|simp (maxDischargeDepth:=8)-implicitDefEqProofs [-getElem?_pos,apF,au,eE,cJ,dH,eP,bJ,d,a,iO,bH.args,r,q]
  rintro r0 fS (⟨rfl,rfl⟩|⟨rfl,rfl⟩|⟨rfl,rfl⟩) _
  ·simp (maxSteps:=9^7)-implicitDefEqProofs+contextual [-getElem?_pos,apF,cJ,eE,cH,l,a]
   refine ⟨_,_,?_,.inr (.inl ⟨rfl,rfl⟩)⟩;refine bX [5] ?_ ?_ ?_ (fun b m=>?_) ?_ ?_
   iterate 3· simp
   ·have:b=0∨b=1∨b=2∨b=3:=by omega
    rcases this with rfl|rfl|rfl|rfl<;>simp [cy,cJ,a]<;>omega
   iterate 2· simp (maxDischargeDepth:=8)-implicitDefEqProofs [au,apF,cJ,a]
  ·simp (maxSteps:=9^7)-implicitDefEqProofs+contextual [-getElem?_pos,apF,cJ,eE,cH,l,a]
   refine ⟨_,_,?_,.inr (.inr ⟨rfl,rfl⟩)⟩;refine bX [10,5] ?_ ?_ ?_ (fun b m=>?_) ?_ ?_
   iterate 3· simp
   ·have:b=0∨b=1∨b=2∨b=3:=by omega
    rcases this with rfl|rfl|rfl|rfl<;>simp [cy,cJ,a]<;>omega
   iterate 2· simp (maxDischargeDepth:=8)-implicitDefEqProofs [au,apF,cJ,a]
  ·simp (maxSteps:=9^7)-implicitDefEqProofs+contextual [-getElem?_pos,apF,cJ,eE,cH,l,a]
   refine ⟨_,_,?_,.inr (.inl ⟨rfl,rfl⟩)⟩;refine bX [10] ?_ ?_ ?_ (fun b m=>?_) ?_ ?_
   iterate 3· simp
   ·have:b=0∨b=1∨b=2∨b=3:=by omega
    rcases this with rfl|rfl|rfl|rfl<;>simp [cy,cJ,a]<;>omega
   iterate 2· simp (maxDischargeDepth:=8)-implicitDefEqProofs [au,apF,cJ,a]
open Go Go.RowKit
theorem kM:∀{l:List bH} {k:Int},Af l→∀it∈bI l k,Dl it.2
 |[],k,_,it,h=>by simp [bI]at h
 | .mk op n args a b::l,k,ok,it,h=>by
  rw [bI]at h;rcases apY.1 h with rfl|h
  ·exact ok.1
  ·exact kM ok.2 it h
theorem HE (p:eD) (ps:List Int) (b:dS) (k op n:Int) (args:List bY) (thn els:List bH) (vals:List Int) (next:List jM) (a:b.todo=next):
 (cM p ps b k (.mk op n args thn els) vals next).todo=[]∨(cM p ps b k (.mk op n args thn els) vals next).todo=next∨(cM p ps b k (.mk op n args thn els) vals next).todo=bI els (k+1+al thn)++next∨(cM p ps b k (.mk op n args thn els) vals next).todo=bI thn (k+1)++next∨(cM p ps b k (.mk op n args thn els) vals next).todo=bI thn (k+1)++(k,.mk op n args thn els)::next:=by
 unfold cM;simp only;by_cases h:op=0
 ·rw [if_pos h];exact .inr (.inl a)
 rw [if_neg h];by_cases g:op=1
 ·rw [if_pos g]
  by_cases v:et vals 0=0
  ·rw [if_pos v];exact .inr (.inr (.inl (by rw [if_pos v])))
  ·rw [if_neg v];exact .inr (.inr (.inr (.inl (by rw [if_neg v]))))
 rw [if_neg g];by_cases f:op=2
 ·rw [if_pos f]
  by_cases v:et vals 0=0
  ·rw [if_pos v];exact .inr (.inl (by rw [if_pos v]))
  ·rw [if_neg v];exact .inr (.inr (.inr (.inr (by rw [if_neg v]))))
 rw [if_neg f];by_cases e:op=3
 ·rw [if_pos e];exact .inr (.inl a)
 rw [if_neg e];by_cases d:op=4
 ·rw [if_pos d]
  by_cases v:ps.length≤b.used
  ·rw [if_pos v];exact .inl rfl
  ·rw [if_neg v];exact .inr (.inl a)
 rw [if_neg d];by_cases c:op=5
 ·rw [if_pos c]
  by_cases v:et vals 0=0
  ·rw [if_pos v];exact .inl rfl
  ·rw [if_neg v];exact .inr (.inl a)
 rw [if_neg c];by_cases v:et vals 0=0
 ·rw [if_pos v];exact .inl rfl
 ·rw [if_neg v];exact .inr (.inl a)
theorem Dr (p:eD) (ps:List Int) (c:dS):((bG p ps c).todo=c.todo∧(bG p ps c).fuel=c.fuel)∨((bG p ps c).todo=[]∧((bG p ps c).fuel=c.fuel∨(bG p ps c).fuel=c.fuel- 1))∨
 ∃k op n args thn els next,c.todo=(k,.mk op n args thn els)::next∧(bG p ps c).fuel=c.fuel- 1∧
  ((bG p ps c).todo=next∨(bG p ps c).todo=bI els (k+1+al thn)++next∨(bG p ps c).todo=bI thn (k+1)++next∨(bG p ps c).todo=bI thn (k+1)++(k,.mk op n args thn els)::next):=by
 by_cases d:c.dG=true
 ·have e:bG p ps c=c:=by unfold bG;rw [if_pos d]
  rw [e];exact .inl ⟨rfl,rfl⟩
 ·cases b:c.todo with
  |nil=>
   have e:bG p ps c=c:=zQ (by simp [cW,b]);rw [e];exact .inl ⟨b,rfl⟩
  |cons it next=>
   obtain ⟨k,s⟩:=it;obtain ⟨op,n,args,thn,els⟩:=s;by_cases f:c.fuel=0
   ·have e:bG p ps c=eY c 3 k:=by
     unfold bG;rw [if_neg d,b];show(if c.fuel=0 then _ else _)=_;rw [if_pos f]
    rw [e];exact .inr (.inl ⟨rfl,.inl rfl⟩)
   ·have e:bG p ps c=cM p ps (iO p c (.mk op n args thn els) next) k (.mk op n args thn els) (bP p.w p.vars [c.store] args) next:=by
     unfold bG;rw [if_neg d,b];show(if c.fuel=0 then _ else _)=_;rw [if_neg f];rfl
    have a:(bG p ps c).fuel=c.fuel- 1:=by rw [e,xP];rfl
    rcases HE p ps (iO p c (.mk op n args thn els) next) k op n args thn els (bP p.w p.vars [c.store] args) next rfl with q|q|q|q|q
    ·exact .inr (.inl ⟨by rw [e,q],.inr a⟩)
    ·exact .inr (.inr ⟨k,op,n,args,thn,els,next,rfl,a,.inl (by rw [e,q])⟩)
    ·exact .inr (.inr ⟨k,op,n,args,thn,els,next,rfl,a,.inr (.inl (by rw [e,q]))⟩)
    ·exact .inr (.inr ⟨k,op,n,args,thn,els,next,rfl,a,.inr (.inr (.inl (by rw [e,q])))⟩)
    ·exact .inr (.inr ⟨k,op,n,args,thn,els,next,rfl,a,.inr (.inr (.inr (by rw [e,q])))⟩)
theorem uz {p:eD} {ps:List Int} {c:dS} (h:tj p ps c):tj p ps (bG p ps c):=by
 have hi:=xM h.toInv;have o:=h.len;have y:=hi.fuel;have r:=h.fuel;rcases Dr p ps c with⟨a,f⟩|⟨a,f⟩|⟨k,op,n,args,b,d,next,g,f,a⟩
 ·exact {toInv:=hi,Dq:=by rw [a];exact h.Dq,len:=by rw [a,f];exact h.len}
 ·refine {toInv:=hi,Dq:=by rw [a];simp,len:=?_}
  rw [a];simp;omega
 ·have l:=h.Dq (k,.mk op n args b d) (by rw [g];simp)
  have j:∀it∈next,Dl it.2:=fun it e=>h.Dq it (by rw [g];simp [e])
  have i:=l;rw [Dl]at i;obtain ⟨_,_,x,m⟩:=h.todo (k,.mk op n args b d) (by rw [g];simp);simp only at m;rw [bx]at m;have u:=bh args;have s:=bF b;have t:=bF d;have w:=eO b;have v:=eO d;rw [g]at o;simp only [List.length_cons]at o;rcases a with a|a|a|a
  ·exact {toInv:=hi,Dq:=by rw [a];exact j,len:=by rw [a,f];omega}
  ·refine {toInv:=hi,Dq:=?_,len:=by rw [a,f,apP,fH];omega}
   rw [a];intro it e;rcases ap0.1 e with q|q
   ·exact kM i.2.2.2.2.2.2.2 it q
   ·exact j it q
  ·refine {toInv:=hi,Dq:=?_,len:=by rw [a,f,apP,fH];omega}
   rw [a];intro it e;rcases ap0.1 e with q|q
   ·exact kM i.2.2.2.2.2.2.1 it q
   ·exact j it q
  ·refine {toInv:=hi,Dq:=?_,len:=by rw [a,f,apP,fH,List.length_cons];omega}
   rw [a];intro it e;rcases ap0.1 e with q|q
   ·exact kM i.2.2.2.2.2.2.1 it q
   ·rcases apY.1 q with rfl|q
    ·exact l
    ·exact j it q
theorem Lc {p:eD} {t:wu} {fuel:Int} (hs:t.store.length≤2^40) (a:aw p.body<2^40):
 jH E O 18 [.agg (dH p),pi fuel,.agg (tg t)] [] (fun r h=>r= .agg (cJ (gI p fuel t) 0 1 2 3)∧h=eE (gI p fuel t)):=by
 refine jH.body (F:=WY) rfl rfl rfl ?_;simp (maxSteps:=9^7)-implicitDefEqProofs+contextual [-getElem?_pos,apF,WY,dH,tg];refine pv (Ag hs) ?_ ?_ ?_
 iterate 2· simp (maxDischargeDepth:=8)-implicitDefEqProofs [-getElem?_pos,apF]
 simp (maxSteps:=9^7)-implicitDefEqProofs+contextual [-getElem?_pos,apF];refine pv (vZ a (n0:=0) (by omega)) ?_ ?_ ?_
 iterate 2· simp (maxDischargeDepth:=8)-implicitDefEqProofs [-getElem?_pos,apF]
 simp (maxSteps:=9^7)-implicitDefEqProofs+contextual [-getElem?_pos,apF,dH,tg];simp only [eE,cJ,gI];refine bX [3,90,91,4] ?_ ?_ ?_ (fun b c=>?_) ?_ ?_
 iterate 3· simp
 ·omega
 iterate 2· simp (maxDischargeDepth:=8)-implicitDefEqProofs [au,apF,fH]
end P
namespace P
open Go Go.RowKit
def ae5 (r:pg):List PV:=[pi r.en,m8 r.store,.fs 2 (Hv r.outs),.fs 3 (Hu r.trace),pi r.cost,pi r.used,pi r.wh]
open Go Go.RowKit
theorem HF {F:Nat→Prop} {H:AH}:∀{l:List (List Value)} {rs:List (List Value)},ll F H (l.map fun r=>r.map PV.v) rs→rs=l:=by
 have one:∀{r:List Value} {q:List Value},gg F H (r.map PV.v) q→q=r:=by
  intro r
  induction r with
  |nil=>intro q h;cases h;rfl
  |cons a r ih=>intro q h;cases h with|cons a b=>cases a;rw [ih b]
 intro l
 induction l with
 |nil=>intro rs h;cases h;rfl
 |cons a l ih=>intro rs h;cases h with|cons a b=>rw [one a,ih b]
theorem BU {F:Nat→Prop} {H:AH} {sz:Nat} {rows:List (List PV)} {l:List (List Value)} {x:Value} (e:rows=l.map fun r=>r.map PV.v) (h:RF F H (.fs sz rows) x):Rows H sz x l:=by
 subst e;obtain ⟨rs,a,h2,_⟩:=fG h;rwa [HF h2]at a
end P
namespace P
open Go Go.RowKit
theorem Ld {F:Nat→Prop} {H:AH} {c:List Value} {r:pg} (h:gg F H (ae5 r) c) (hs:Small r):vG H c r:=by
 cases h with|cons a h=>
 cases h with|cons g h=>
 cases h with|cons i h=>
 cases h with|cons f h=>
 cases h with|cons b h=>
 cases h with|cons d h=>
 cases h with|cons e h=>
 cases h;cases a;cases b;cases d;cases e;exact ⟨_,_,_,rfl,jZ g,BU (by simp [Hv,dw,zM,pi]) i,BU (by simp [Hu,cU,Ev.row,pi]) f,hs⟩
open Go Go.RowKit
section
variable{T:Type} {enc:TypeId×Value→T} {W:World}
theorem v8:∀{l:List bY},(∀e∈l,Hq e)→Dk l
 |[],_=>trivial
 |e::l,h=>⟨h e (by simp),v8 fun x a=>h x (by simp [a])⟩
theorem rz:∀{l:List bH},(∀e∈l,Dl e)→Af l
 |[],_=>trivial
 |e::l,h=>⟨h e (by simp),rz fun x a=>h x (by simp [a])⟩
theorem Lf:∀(n:Nat) (cs:List Value) (d:DataW T),Rd enc Tryz.prog W n 107 cs d→tV Tryz.prog 107 d→∃l e,aQ W.heap.size cs=some l∧gg (F0 W) (H0 W) (mG e) l∧Hq e:=by
 intro n
 induction n using Nat.strongRecOn with
 |_ n ih=>
  intro cs d h z;obtain ⟨j,m,J,a⟩:=kE Tryz.underlying107 h z;rw [cE]at j;obtain ⟨S,R,Q,P,rfl⟩:=Uj j;obtain ⟨O,f,x⟩:=a 0 _ rfl;obtain ⟨N,c,w⟩:=a 1 _ rfl;obtain ⟨M,h2,u⟩:=a 2 _ rfl;obtain ⟨L,b,g⟩:=a 3 _ rfl;simp only [List.getElem_toArray,List.getElem_cons_zero,List.getElem_cons_succ]at f c h2 b x w u g;rw [cI]at f c h2;rw [cEs]at b;obtain ⟨op,r,I⟩:=jy Tryz.underlying3 f;obtain ⟨i,q,H⟩:=jy Tryz.underlying3 c;obtain ⟨s,p,G⟩:=jy Tryz.underlying3 h2;obtain ⟨v,t,D,o,C,B⟩:=te mG (ok:=Hq) Tryz.underlying83 (by rw [cE];omega) (by rw [cE];omega) (by decide+kernel) (by simpa using b) g (fun k F E K A y=>ih k (by omega) F E A y);rw [cE]at o;simp at r q p;subst r;subst q;subst p;refine ⟨[.int .i64 op,.int .i64 i,.int .i64 s,v],.mk op i s t,ei (ei (ei D)),.cons (.v _) (.cons (.v _) (.cons (.v _) (.cons (by rw [kL];exact o) .nil))),wf_i64 I,wf_i64 H,wf_i64 G,CQ B (by decide+kernel),v8 C⟩
theorem Lg:∀(n:Nat) (cs:List Value) (d:DataW T),Rd enc Tryz.prog W n 85 cs d→tV Tryz.prog 85 d→∃l e,aQ W.heap.size cs=some l∧gg (F0 W) (H0 W) (bJ e) l∧Dl e:=by
 intro n
 induction n using Nat.strongRecOn with
 |_ n ih=>
  intro cs d h U;obtain ⟨y,m,Y,c⟩:=kE Tryz.underlying85 h U;rw [cS]at y;obtain ⟨c0,c1,c2,c3,c4,rfl⟩:=Uk y;obtain ⟨d0,p,G⟩:=c 0 _ rfl;obtain ⟨d1,o,F⟩:=c 1 _ rfl;obtain ⟨d2,h2,s⟩:=c 2 _ rfl;obtain ⟨d3,j,r⟩:=c 3 _ rfl;obtain ⟨Z,i,q⟩:=c 4 _ rfl;simp only [List.getElem_toArray,List.getElem_cons_zero,List.getElem_cons_succ]at p o h2 j i G F s r q;rw [cI]at p o;rw [cEs]at h2;rw [cSs]at j i;obtain ⟨op,B,X⟩:=jy Tryz.underlying3 p;obtain ⟨x,A,V⟩:=jy Tryz.underlying3 o;obtain ⟨J,E,S,w,R,Q⟩:=te mG (ok:=Hq) Tryz.underlying83 (by rw [cE];omega) (by rw [cE];omega) (by decide+kernel) (by simpa using h2) s (fun k g f z b a=>Lf k g f b a);obtain ⟨H,C,P,u,O,N⟩:=te bJ (ok:=Dl) Tryz.underlying23 (by rw [cS];omega) (by rw [cS];omega) (by decide+kernel) (by simpa using j) r (fun k g f z b a=>ih k (by omega) g f b a);obtain ⟨I,D,M,t,L,K⟩:=te bJ (ok:=Dl) Tryz.underlying23 (by rw [cS];omega) (by rw [cS];omega) (by decide+kernel) (by simpa using i) q (fun k g f z b a=>ih k (by omega) g f b a);rw [cE]at w;rw [cS]at u t;simp at B A;subst B;subst A;exact ⟨[.int .i64 op,.int .i64 x,J,H,I],.mk op x E C D,ei (ei (jU S (jU P M))),.cons (.v _) (.cons (.v _) (.cons (by rw [kL];exact w) (.cons (by rw [jn];exact u) (.cons (by rw [jn];exact t) .nil)))),wf_i64 X,wf_i64 V,CQ Q (by decide+kernel),CQ N (by decide+kernel),CQ K (by decide+kernel),v8 R,rz O,rz L⟩
theorem Qy (n:Nat) (cs:List Value) (d:DataW T) (h:Rd enc Tryz.prog W n 75 cs d) (a:tV Tryz.prog 75 d):∃l y,aQ W.heap.size cs=some l∧gg (F0 W) (H0 W) (Dj y) l∧y.name.size<2^60:=by
 obtain ⟨l,y,c,rfl,b⟩:=Oz n cs d h a;exact ⟨_,y,c,.cons (.v _) (.cons (.v _) (.cons (.v _) .nil)),b⟩
theorem BV {n:Nat} {c:Value} {d:DataW T} (h:Rd enc Tryz.prog W n 26 [c] d) (g:tV Tryz.prog 26 d):∃v l,aQ W.heap.size [c]=some [v]∧RF (F0 W) (H0 W) (m8 l) v∧l.length<2^44∧∀n∈l,oh n:=by
 obtain ⟨v,f,q,a,p,o⟩:=te (fun n:Int=>[pi n]) (ok:=oh) Tryz.underlying26 (by rw [cI];omega) (by rw [cI];omega) (by decide+kernel) h g (fun k u t s i r=>by
  obtain ⟨m,e,b⟩:=jy Tryz.underlying3 i;subst e
  exact ⟨_,m,ei rfl,.cons (.v _) .nil,wf_i64 b⟩)
 rw [cI]at a;refine ⟨v,f,q,a,?_,p⟩;have j:Tryz.prog.bytesOf 3=8:=by kernel_rfl
 rw [j]at o;have:reachBytes<2^47:=reachBytes_lt;omega
theorem Lh (n:Nat) (cs:List Value) (d:DataW T) (h:Rd enc Tryz.prog W n 25 cs d) (G:tV Tryz.prog 25 d):∃l p,aQ W.heap.size cs=some l∧gg (F0 W) (H0 W) (dH p) l∧K3 p:=by
 obtain ⟨s,m,L,c⟩:=kE Tryz.underlying25 h G;rw [cP]at s;obtain ⟨R,Q,P,rfl⟩:=FR s;obtain ⟨O,f,z⟩:=c 0 _ rfl;obtain ⟨N,e,o⟩:=c 1 _ rfl;obtain ⟨M,h2,j⟩:=c 2 _ rfl;simp only [List.getElem_toArray,List.getElem_cons_zero,List.getElem_cons_succ]at f e h2 z o j;rw [cI]at f;rw [cVs]at e;rw [cSs]at h2;obtain ⟨w,t,I⟩:=jy Tryz.underlying3 f;obtain ⟨J,u,F,r,E,D⟩:=te Dj (ok:=fun y=>y.name.size<2^60) Tryz.underlying22 (by rw [cV];omega) (by rw [cV];omega) (by decide+kernel) (by simpa using e) o (fun k i g H b a=>Qy k i g b a);obtain ⟨K,x,C,q,B,A⟩:=te bJ (ok:=Dl) Tryz.underlying23 (by rw [cS];omega) (by rw [cS];omega) (by decide+kernel) (by simpa using h2) j (fun k i g H b a=>Lg k i g b a);rw [cV]at r;rw [cS]at q;simp at t;subst t;exact ⟨_,⟨w,u,x⟩,ei (jU F C),.cons (.v _) (.cons r (.cons (by rw [jn];exact q) .nil)),wf_i64 I,⟨CQ D (by decide+kernel),E⟩,rz B,CQ A (by decide+kernel)⟩
theorem HG (n:Nat) (cs:List Value) (d:DataW T) (h:Rd enc Tryz.prog W n 28 cs d) (t:tV Tryz.prog 28 d):∃l s,aQ W.heap.size cs=some l∧gg (F0 W) (H0 W) (tg s) l∧Zz s:=by
 obtain ⟨g,m,y,i⟩:=kE Tryz.underlying28 h t;rw [cT]at g;obtain ⟨C,B,rfl⟩:=FQ g;obtain ⟨A,b,e⟩:=i 0 _ rfl;obtain ⟨z,a,c⟩:=i 1 _ rfl;simp only [List.getElem_toArray,List.getElem_cons_zero,List.getElem_cons_succ]at b a e c;rw [cIs]at b a;obtain ⟨u,ls,r,q,x,p⟩:=BV (by simpa using b) e;obtain ⟨v,f,o,k,w,j⟩:=BV (by simpa using a) c;exact ⟨_,⟨ls,f⟩,jU r o,.cons q (.cons k .nil),by show ls.length<2^60;omega,by show f.length<2^60;omega,p,j⟩
end
end P
namespace P
open Go Go.RowKit
section
variable{F F':Nat→Prop} {H H':AH} {φ:Nat→Nat} {h:PH}
mutual
theorem RV.tk (n0:H'.n0=H.n0) (c:∀x,F x→F' x∧H'.get x=H.get x):∀{p:PV} {x:Value},RV ⟨F,H,φ,h⟩ p x→RV ⟨F',H',φ,h⟩ p x
 |_,_,.v x=>.v x
 |_,_,.ref f e d k=>.ref f e d k
 |_,_,.sl f e d k=>.sl f e d k
 |_,_,.mp f e k=>.mp f e k
 |_,_,.fs k=>.fs (k.mono n0 c)
 |_,_,.fp g d k=>.fp (c _ g).1 (by rw [←d];exact eS (c _ g).2 n0) (k.mono n0 c)
 |_,_,.agg k=>.agg (cK.tk n0 c k)
 |_,_,.kG k=>.kG (cK.tk n0 c k)
 |_,_,.fn a b=>.fn (cK.tk n0 c a) (cK.tk n0 c b)
 |_,_,.pj a=>.pj (RV.tk n0 c a)
 |_,_,.any x=>.any x
theorem cK.tk (n0:H'.n0=H.n0) (c:∀x,F x→F' x∧H'.get x=H.get x):∀{ps:List PV} {xs:List Value},cK ⟨F,H,φ,h⟩ ps xs→cK ⟨F',H',φ,h⟩ ps xs
 |_,_,.nil=>.nil
 |_,_,.cons a b=>.cons (RV.tk n0 c a) (cK.tk n0 c b)
end
theorem cK.qP {c:Nat→Nat} {h2:PH}:∀{ps:List PV} {xs:List Value},ps.all P.qP=true→cK ⟨F,H,φ,h⟩ ps xs→cK ⟨F,H,c,h2⟩ ps xs
 |_,_,_,.nil=>.nil
 |p::ps,_,k,.cons a b=>by
  simp only [List.all_cons,apJ]at k;refine .cons ?_ (cK.qP k.2 b)
  cases a with
  |v=>exact .v _
  |fs q=>exact .fs q
  |_=>exact absurd k.1 (by simp [P.qP])
theorem RV.ZG {D:Cx} {sz b b' o n c:Nat} {x:Value} (k:RV ⟨F,H,φ,h⟩ (.sl sz b o n c) x) (e:D.h[b']?=h[b]?) (f:D.φ b'=φ b):RV D (.sl sz b' o n c) x:=by
 cases k with
 |sl j i d k=>
  have g:b'<D.h.length:=by
   have:b<h.length:=i;rw [apG this]at e;exact (apM.1 e).1
  refine .sl j g (fun z cs q=>d z cs (by rw [←e];exact q)) (fun⟨z,cs,q,a⟩=>?_);rw [f];exact k ⟨z,cs,by rw [←e];exact q,a⟩
theorem im.nF {C:Cx} (S:eu C) {W:Nat→Prop} {x:Nat} (k:im C W x):¬ C.F x∧C.H.n0≤x:=by
 obtain ⟨b,_,f,rfl⟩:=k;rcases f with⟨es,c⟩|⟨t,z,cs,c,d⟩
 ·obtain ⟨_,_,_,_,a,b⟩:=S.um b es c
  exact ⟨b,a⟩
 ·obtain ⟨_,_,_,a,b⟩:=S.aU b z cs c (by intro e;subst e;simp at d)
  exact ⟨b,a⟩
theorem eu.to (S:eu ⟨F,H,φ,h⟩) (n0:H'.n0=H.n0) (p:H.nx≤H'.nx) (j:∀x,F x→F' x∧H'.get x=H.get x) (i:∀x,im ⟨F,H,φ,h⟩ lS x→H'.get x=H.get x∧¬ F' x) (n:∀x,F' x→x<H'.nx):eu ⟨F',H',φ,h⟩where
 wf:=by have:=S.wf;dsimp only at this⊢;omega
 fz:=n
 inj:=S.inj
 aU:=fun b z cs e f=>by
  obtain ⟨m,g,R,a,_⟩:=S.aU b z cs e f;obtain ⟨d,c⟩:=i (φ b) ⟨b,trivial,.inr ⟨cs.length- 1,z,cs,e,by cases cs with|nil=>exact absurd rfl f|cons x l=>simp⟩,rfl⟩;exact ⟨m,d.trans g,R.tk n0 j,by dsimp only at a⊢;omega,c⟩
 um:=fun b es e=>by
  obtain ⟨k,g,o,R,a,_⟩:=S.um b es e;obtain ⟨d,c⟩:=i (φ b) ⟨b,trivial,.inl ⟨es,e⟩,rfl⟩;exact ⟨k,d.trans g,o,R.tk n0 j,by dsimp only at a⊢;omega,c⟩
end
def CO (F:Nat→Prop) (H:AH) (W:Nat→Prop) (cs:List Value) (c:dS):Prop:=∃φ,eu ⟨F,H,φ,eE c⟩∧cK ⟨F,H,φ,eE c⟩ (cJ c 0 1 2 3) cs∧∀x,W x↔im ⟨F,H,φ,eE c⟩ lS x
section
variable{F F' W:Nat→Prop} {H H':AH} {cs:List Value} {c:dS}
theorem CO.nF (k:CO F H W cs c) {x:Nat} (h:W x):¬ F x∧x<H.nx:=by
 obtain ⟨b,S,R,a⟩:=k;exact ⟨(im.nF S ((a x).1 h)).1,im.lt S ((a x).1 h)⟩
theorem CO.fz (k:CO F H W cs c) {x:Nat} (h:F x):x<H.nx:=by
 obtain ⟨a,S,R,b⟩:=k;exact S.fz x h
theorem CO.to (k:CO F H W cs c) (n0:H'.n0=H.n0) (e:H.nx≤H'.nx) (b:∀x,F x→F' x∧H'.get x=H.get x) (h:∀x,W x→H'.get x=H.get x∧¬ F' x) (g:∀x,F' x→x<H'.nx):CO F' H' W cs c:=by
 obtain ⟨d,S,R,a⟩:=k;exact ⟨d,S.to n0 e b (fun x f=>h x ((a x).2 f)) g,R.tk n0 b,a⟩
theorem CO.mod {T:Nat→Prop} (k:CO F H W cs c) (M:Mod T H H') (d:∀b,T b→¬ F b∧¬ W b):CO F H' W cs c:=
 k.to M.n0 M.nx (fun x a=>⟨a,M.old x (k.fz a) fun q=>(d x q).1 a⟩) (fun x a=>⟨M.old x (k.nF a).2 fun q=>(d x q).2 a,(k.nF a).1⟩) (fun x a=>ap3 (k.fz a) M.nx)
theorem CO.ext (k:CO F H W cs c) (X:Ext H H'):CO F H' W cs c:=k.mod (Mod.bU (S:=fun _=>False) X) (by simp)
theorem CO.len (k:CO F H W cs c):cs.length=10:=by
 obtain ⟨a,S,R,b⟩:=k;have:=R.length
 simpa [cJ]using this.symm
theorem CO.nW (k:CO F H W cs c):gg (fun x=>F x∨W x) H (DP c) cs:=by
 obtain ⟨b,S,R,d⟩:=k;have:gg (add F (eE c) b lS) H (DP c) cs:=DN.ok (h:=eE c) (ps:=cJ c 0 1 2 3) (qs:=DP c) (show DN lS (eE c) (cJ c 0 1 2 3) (DP c) from⟨x7 _,Aa trivial rfl,lv trivial rfl (by decide) (by simp) (by unfold Hv;intro r a;obtain ⟨x,_,rfl⟩:=aqd.1 a;simp) (jg (pD _)),lv trivial rfl (by decide) (by simp) (by simp [Hu]) (jg (pC _)),x7 _,x7 _,x7 _,x7 _,lv trivial rfl (by decide) (by simp) (by unfold th;intro r a;obtain ⟨x,_,rfl⟩:=aqd.1 a;simp) (jg (mV _)),x7 _,trivial⟩) S R;refine gg.mono rfl (fun x e=>⟨?_,rfl⟩) this;rcases e with q|q
 ·exact .inl q
 ·exact .inr ((d x).2 q)
theorem CO.wf (k:CO F H W cs c):H.n0≤H.nx:=by
 obtain ⟨a,S,R,b⟩:=k;exact S.wf
theorem Li {i z:Nat} {l:List PV} (e:(eE c)[i]?=some (.cells z l)):l.all qP=true:=by
 rcases i with _|_|_|_|i
 ·cases e;simp [qP]
 ·cases e;exact pD _
 ·cases e;exact pC _
 ·cases e;exact mV _
 ·simp [eE]at e
theorem CO.of {φ:Nat→Nat} {h:PH} {m k f i3:Nat} (S:eu ⟨F,H,φ,h⟩) (R:cK ⟨F,H,φ,h⟩ (cJ c m k f i3) cs) (P:h[m]?=some (.cells 1 (c.store.map pi))) (O:h[k]?=some (.cells 2 (pI c.outs))) (N:h[f]?=some (.cells 3 (nY c.trace))) (M:h[i3]?=some (.cells 6 (lT c.todo))) (G:m≠k∧m≠f∧m≠i3∧k≠f∧k≠i3∧f≠i3):
 ∃W,CO F H W cs c∧∀x,W x→im ⟨F,H,φ,h⟩ (fun b=>b=m∨b=k∨b=f∨b=i3) x:=by
 obtain ⟨d,u,r,p,o⟩:∃d:Nat→Nat,d 0=m∧d 1=k∧d 2=f∧d 3=i3:=⟨fun|0=>m|1=>k|2=>f|_=>i3,rfl,rfl,rfl,rfl⟩
 have four:∀{i:Nat},i<4→i=0∨i=1∨i=2∨i=3:=fun h=>by omega
 have key:∀i,i<4→h[d i]?=(eE c)[i]?:=fun i hi=>by
  rcases four hi with rfl|rfl|rfl|rfl
  ·rw [u,P];rfl
  ·rw [r,O];rfl
  ·rw [p,N];rfl
  ·rw [o,M];rfl
 have inj:∀i j,i<4→j<4→d i=d j→i=j:=fun i j hi K q=>by
  obtain ⟨n1,n2,n3,n4,Z,Y⟩:=G;rcases four hi with rfl|rfl|rfl|rfl<;>rcases four K with rfl|rfl|rfl|rfl<;>omega
 have w:∀i,aY (eE c) i→i<4∧aY h (d i):=fun i s=>by
  have hi:i<4:=bu s;refine ⟨hi,?_⟩;rcases s with⟨es,q⟩|⟨t,z,l,q,E⟩
  ·exact .inl ⟨es,(key i hi).trans q⟩
  ·exact .inr ⟨t,z,l,(key i hi).trans q,E⟩
 refine ⟨fun x=>im ⟨F,H,fun i=>φ (d i),eE c⟩ lS x,⟨fun i=>φ (d i),{wf:=S.wf,fz:=S.fz,inj:=?_,aU:=?_,um:=?_},?_,fun x=>Iff.rfl⟩,?_⟩
 ·intro b A s D q
  obtain ⟨J,y⟩:=w b s;obtain ⟨I,C⟩:=w A D;exact inj b A J I (S.inj _ _ y C q)
 ·intro b z l e L
  have n:b<4:=(apM.1 e).1;obtain ⟨B,g,R,a⟩:=S.aU (d b) z l ((key b n).trans e) L;exact ⟨B,g,R.qP (Li e),a⟩
 ·intro b es e
  have n:b<4:=(apM.1 e).1;rcases four n with rfl|rfl|rfl|rfl<;>cases e
 ·unfold cJ at R⊢
  cases R with|cons X R=>
  cases R with|cons V R=>
  cases R with|cons U R=>
  cases R with|cons T R=>
  cases R with|cons a4 R=>
  cases R with|cons a5 R=>
  cases R with|cons a6 R=>
  cases R with|cons a7 R=>
  cases R with|cons Q R=>
  cases R with|cons a9 R=>
  cases R;cases X;cases a4;cases a5;cases a6;cases a7;cases a9;exact .cons (.v _) (.cons (V.ZG (by rw [←u];exact (key 0 (by omega)).symm) (by rw [←u])) (.cons (U.ZG (by rw [←r];exact (key 1 (by omega)).symm) (by rw [←r])) (.cons (T.ZG (by rw [←p];exact (key 2 (by omega)).symm) (by rw [←p])) (.cons (.v _) (.cons (.v _) (.cons (.v _) (.cons (.v _) (.cons (Q.ZG (by rw [←o];exact (key 3 (by omega)).symm) (by rw [←o])) (.cons (.v _) .nil)))))))))
 ·rintro x ⟨b,_,s,rfl⟩
  obtain ⟨n,y⟩:=w b s;refine ⟨d b,?_,y,rfl⟩;rcases four n with rfl|rfl|rfl|rfl
  ·exact .inl u
  ·exact .inr (.inl r)
  ·exact .inr (.inr (.inl p))
  ·exact .inr (.inr (.inr o))
end
structure Fw (F W:Nat→Prop) (n:Nat) (F':Nat→Prop):Prop where
 up:∀x,F x→F' x
 of:∀x,F' x→F x∨W x∨n≤x
theorem Fw.kg {F c:Nat→Prop} {H H':AH} {φ d:Nat→Nat} {h f:PH} {W V:Nat→Prop} {n:Nat} (T:dR n V ⟨F,H,φ,h⟩ ⟨c,H',d,f⟩) (e:∀x,im ⟨F,H,φ,h⟩ lS x→W x):Fw F W H.nx c where
 up:=fun x a=>(T.fz x a).1
 of:=fun x a=>by
  by_cases b:H.nx≤x
  ·exact .inr (.inr b)
  ·by_cases h2:im ⟨F,H,φ,h⟩ lS x
   ·exact .inr (.inl (e x h2))
   ·exact .inl (T.fo x (Nat.lt_of_not_le b) h2 a)
theorem Mod.kg {F f:Nat→Prop} {H H':AH} {φ a:Nat→Nat} {h e:PH} {W:Nat→Prop} {n:Nat} (T:dR n lS ⟨F,H,φ,h⟩ ⟨f,H',a,e⟩) (b:∀x,im ⟨F,H,φ,h⟩ lS x→W x):Mod W H H':=⟨T.n0,T.nx,fun x c d=>T.out x c fun q=>d (b x q)⟩
theorem im.kg {F d:Nat→Prop} {H H':AH} {φ a:Nat→Nat} {h c:PH} {W V U:Nat→Prop} {n:Nat} (T:dR n V ⟨F,H,φ,h⟩ ⟨d,H',a,c⟩) (f:∀x,im ⟨F,H,φ,h⟩ lS x→W x) {x:Nat} (k:im ⟨d,H',a,c⟩ U x):W x∨H.nx≤x:=by
 obtain ⟨b,_,s,rfl⟩:=k;rcases T.loc b s with q|⟨q,e⟩
 ·exact .inr q
 ·exact .inl (f _ ⟨b,trivial,q,e.symm⟩)
theorem Am {C:Cx} {ps:List PV} {x:Value} (k:RV C (.agg ps) x):∃cs:List Value,x= .agg cs.toArray∧cK C ps cs:=by
 cases k with|agg k=>exact ⟨_,rfl,k⟩
theorem BW {p:eD} {ps:List Int} {F W:Nat→Prop} {H:AH} {cs o:List Value} {n:Value} {c:dS} (k:CO F H W cs c) (I:tj p ps c) (y:gg F H (dH p) o) (l:RF F H (m8 ps) n):
 Ca E O 22 [.agg o.toArray,n,.agg cs.toArray] H (fun x H'=>∃a d b,x= .agg a.toArray∧CO d H' b a (bG p ps c)∧Mod W H H'∧Fw F W H.nx d∧∀x,b x→W x∨H.nx≤x):=by
 obtain ⟨q,S,R,u⟩:=k;refine (Qv I F H q _ S (.cons (.agg (y.pk (C:=⟨_,_,_,_⟩))) (.cons (l.pk (C:=⟨_,_,_,_⟩)) (.cons (.agg R) .nil)))).mono ?_;rintro x H' ⟨r,i,d,L,w,J,G,T⟩;have j:=fun x=>(u x).2
 have fin:∀h g f e,r= .agg (cJ (bG p ps c) h g f e)→i[h]?=some (.cells 1 ((bG p ps c).store.map pi))→i[g]?=some (.cells 2 (pI (bG p ps c).outs))→i[f]?=some (.cells 3 (nY (bG p ps c).trace))→i[e]?=some (.cells 6 (lT (bG p ps c).todo))→(h≠g∧h≠f∧h≠e∧g≠f∧g≠e∧f≠e)→∃a d b,x= .agg a.toArray∧CO d H' b a (bG p ps c)∧Mod W H H'∧Fw F W H.nx d∧∀x,b x→W x∨H.nx≤x:=by
  rintro h g f e rfl D B A z s;obtain ⟨a,rfl,K⟩:=Am J;obtain ⟨b,t,m⟩:=CO.of G K D B A z s;exact ⟨a,d,b,rfl,t,Mod.kg T j,Fw.kg T j,fun x v=>im.kg T j (m x v)⟩
 rcases w with⟨rfl,rfl⟩|⟨rfl,rfl⟩|⟨rfl,rfl⟩
 ·exact fin 0 1 2 3 rfl rfl rfl rfl rfl (by decide)
 ·exact fin 0 1 2 4 rfl rfl rfl rfl rfl (by decide)
 ·exact fin 4 1 2 5 rfl rfl rfl rfl rfl (by decide)
theorem BX {F:Nat→Prop} {H:AH} (c:∀x,F x→x<H.nx) (a:H.n0≤H.nx):eu ⟨F,H,id,[]⟩where
 wf:=a
 fz:=c
 inj:=fun b d s=>by have:=bu s;simp at this
 aU:=fun b z cs e=>by simp at e
 um:=fun b es e=>by simp at e
theorem rA {F:Nat→Prop} {H:AH} {V:Nat→Prop} {x:Nat}:¬ im ⟨F,H,id,[]⟩ V x:=by
 rintro ⟨b,_,s,_⟩;have:=bu s;simp at this
theorem yp {p:eD} {t:wu} {fuel:Int} {F:Nat→Prop} {H:AH} {f d:List Value} (l:∀x,F x→x<H.nx) (g:H.n0≤H.nx) (i:gg F H (dH p) f) (h:gg F H (tg t) d) (hs:t.store.length≤2^40) (j:aw p.body<2^40):
 Ca E O 18 [.agg f.toArray,.int .i64 fuel,.agg d.toArray] H (fun x H'=>∃cs c W,x= .agg cs.toArray∧CO c H' W cs (gI p fuel t)∧Ext H H'∧Fw F (fun _=>False) H.nx c∧∀x,W x→H.nx≤x):=by
 refine (Lc hs j F H id _ (BX l g) (.cons (.agg (i.pk (C:=⟨_,_,_,_⟩))) (.cons (.v _) (.cons (.agg (h.pk (C:=⟨_,_,_,_⟩))) .nil)))).mono ?_;rintro x H' ⟨r,u,c,e,⟨rfl,rfl⟩,o,n,T⟩;obtain ⟨m,rfl,s⟩:=Am o;refine ⟨m,c,im ⟨c,H',e,eE (gI p fuel t)⟩ lS,rfl,⟨e,n,s,fun x=>Iff.rfl⟩,⟨T.n0,T.nx,fun b k=>T.out b k rA⟩,Fw.kg T (fun x a=>absurd a rA),fun x a=>?_⟩;rcases im.kg (W:=fun _=>False) T (fun x a=>absurd a rA) a with q|q
 ·exact q.elim
 ·exact q
theorem iD {F W:Nat→Prop} {H:AH} {cs:List Value} {c:dS} (k:CO F H W cs c):
 Ca E O 21 [.agg cs.toArray] H (fun x H'=>x= .bool (cW c)∧Ext H H'):=by
 refine (rv c (fun x=>F x∨W x) H id _ (BX (fun x a=>a.elim (fun q=>k.fz q) (fun q=>(k.nF q).2)) k.wf) (.cons (.agg (k.nW.pk (C:=⟨_,_,_,_⟩))) .nil)).mono ?_;rintro x H' ⟨r,g,i,f,⟨rfl,rfl,_⟩,e,h,T⟩;refine ⟨?_,T.n0,T.nx,fun b d=>T.out b d rA⟩;cases e
 have:(c.dG||decide (c.todo.length=0))=cW c:=by
  unfold cW;cases c.dG
  ·cases c.todo<;>simp
  ·rfl
 rw [this]
end P
namespace P
open Go Go.RowKit
theorem BZ:∀l:List Int,iR (l.map pi)=true
 |[]=>rfl
 |a::l=>by simp [iR,mC,BZ l]
theorem HI (l:List Ev):(nY l).take (l.length*3)=nY l:=apN (by simp)
theorem HJ (l:List (Int×Int)):(pI l).take (l.length*2)=pI l:=apN (by simp)
theorem HK (l:List jM):(lT l).take (l.length*6)=lT l:=apN (by simp)
def Ws (c:dS) (b0 b1 b2:Nat):List PV:=[pi c.en,.sl 1 b0 0 c.store.length c.store.length,.sl 2 b1 0 c.outs.length c.outs.length,.sl 3 b2 0 c.trace.length c.trace.length,pi c.cost,pi c.used,pi c.wh]
def So (c:dS):PH:=[.cells 1 (c.store.map pi),.cells 2 (pI c.outs),.cells 3 (nY c.trace)]
theorem Lj {c:dS} (hs:c.store.length≤2^40) (d:c.outs.length<2^40) (a:c.trace.length<2^40):
 jH E O 55 [.agg (Ws c 0 1 2)] (So c) (fun r h=>r= .agg (Ws c 3 4 5)∧h=So c++So c):=by
 refine jH.body (F:=Xj) rfl rfl rfl ?_;simp (maxSteps:=9^7)-implicitDefEqProofs+contextual [-getElem?_pos,apF,Xj,Ws,So];refine Ho (Ag hs) ?_ ?_ ?_
 iterate 2· simp (maxDischargeDepth:=8)-implicitDefEqProofs [-getElem?_pos,apF,BZ]
 simp (maxSteps:=9^7)-implicitDefEqProofs+contextual [-getElem?_pos,apF];apply fm
 iterate 9· first|rfl|omega|(simp-implicitDefEqProofs [-getElem?_pos,apF];first|done|rfl|omega)
 simp (maxSteps:=9^7)-implicitDefEqProofs+contextual [-getElem?_pos,apF];apply fm
 iterate 9· first|rfl|omega|(simp-implicitDefEqProofs [-getElem?_pos,apF];first|done|rfl|omega)
 simp (maxSteps:=9^7)-implicitDefEqProofs+contextual [-getElem?_pos,apF];refine bX [5,6,7] ?_ ?_ ?_ (fun b e=>?_) ?_ ?_
 iterate 3· simp
 ·have:b=0∨b=1∨b=2:=by omega
  rcases this with rfl|rfl|rfl<;>simp [cy,HI,HJ]<;>omega
 iterate 2· simp (maxDischargeDepth:=8)-implicitDefEqProofs [au,apF,HI,HJ]
theorem Lk {c:dS} (hs:c.store.length≤2^40) (d:c.outs.length<2^40) (a:c.trace.length<2^40) (g:c.todo.length<2^40):
 jH E O 20 [.agg (cJ c 0 1 2 3)] (eE c) (fun r h=>r= .agg (cJ c 4 5 6 7)∧h=eE c++eE c):=by
 refine jH.body (F:=WZ) rfl rfl rfl ?_;simp (maxSteps:=9^7)-implicitDefEqProofs+contextual [-getElem?_pos,apF,WZ,cJ,eE];refine dO [0,1,2] [] (Lj hs d a) ?_ ?_ ?_ ?_ ?_ ?_ ?_
 iterate 6· first|rfl|simp (maxDischargeDepth:=8)-implicitDefEqProofs [-getElem?_pos,apF,au,Ws,So]
 rintro e f ⟨rfl,rfl⟩ _;simp (maxSteps:=9^7)-implicitDefEqProofs+contextual [-getElem?_pos,apF,Ws,So,cH];apply fm
 iterate 9· first|rfl|omega|(simp-implicitDefEqProofs [-getElem?_pos,apF];first|done|rfl|omega)
 simp (maxSteps:=9^7)-implicitDefEqProofs+contextual [-getElem?_pos,apF];refine bX [6,7,8,9] ?_ ?_ ?_ (fun b i=>?_) ?_ ?_
 iterate 3· simp
 ·have:b=0∨b=1∨b=2∨b=3:=by omega
  rcases this with rfl|rfl|rfl|rfl<;>simp [cy,HK]<;>omega
 iterate 2· simp (maxDischargeDepth:=8)-implicitDefEqProofs [au,apF,HK]
open Go Go.RowKit
theorem B1 {F W:Nat→Prop} {H:AH} {cs:List Value} {c:dS} (k:CO F H W cs c) (hs:c.store.length≤2^40) (y:c.outs.length<2^40) (w:c.trace.length<2^40) (z:c.todo.length<2^40):
 Ca E O 20 [.agg cs.toArray] H (fun x H'=>∃i h g f,x= .agg i.toArray∧CO h H' g cs c∧CO h H' f i c∧Mod W H H'∧Fw F W H.nx h∧(∀x,g x→W x∨H.nx≤x)∧(∀x,f x→H.nx≤x)∧∀x,g x→¬ f x):=by
 obtain ⟨o,S,R,v⟩:=k;have j:=fun x=>(v x).2
 refine (Lk hs y w z F H o _ S (.cons (.agg R) .nil)).mono ?_;rintro x H' ⟨r,K,h,I,⟨rfl,rfl⟩,C,m,T⟩;obtain ⟨i,rfl,G⟩:=Am C;have D:=cK.step (T.mono (apK _) (fun _ q=>q) T.len) R;obtain ⟨g,u,n⟩:=CO.of m D rfl rfl rfl rfl (by decide);obtain ⟨f,t,a⟩:=CO.of m G rfl rfl rfl rfl (by decide);refine ⟨i,h,g,f,rfl,u,t,Mod.kg T j,Fw.kg T j,fun x l=>im.kg T j (n x l),fun x l=>?_,fun x B h2=>?_⟩
 ·obtain ⟨b,A,s,rfl⟩:=a x l
  rcases T.loc b s with q|⟨q,e⟩
  ·exact q
  ·have:b<4:=bu q
   omega
 ·obtain ⟨b,A,s,rfl⟩:=n x B
  obtain ⟨d,J,p,e⟩:=a _ h2;have:=m.inj _ _ p s e;omega
theorem CO.run {F W:Nat→Prop} {H:AH} {cs:List Value} {c:dS} (k:CO F H W cs c) (hs:Small c.run):∃vs vo vt a rs,cs=[.int .i64 c.en,vs,vo,vt,.int .i64 c.cost,.int .i64 c.used,.int .i64 c.wh,.int .i64 c.fuel,a,.bool c.dG]∧vG H [.int .i64 c.en,vs,vo,vt,.int .i64 c.cost,.int .i64 c.used,.int .i64 c.wh] c.run∧ep H vs c.store∧Rows H 6 a rs∧rs.length=c.todo.length∧∀n s l,c.todo=(n,s)::l→∃f rs',rs=(.int .i64 n::f)::rs':=by
 have h:=k.nW;unfold DP at h
 cases h with|cons d h=>
 cases h with|cons b h=>
 cases h with|cons m h=>
 cases h with|cons j h=>
 cases h with|cons a4 h=>
 cases h with|cons a5 h=>
 cases h with|cons a6 h=>
 cases h with|cons a7 h=>
 cases h with|cons i h=>
 cases h with|cons a9 h=>
 cases h;have R:=Ld (r:=c.run) (.cons d (.cons b (.cons m (.cons j (.cons a4 (.cons a5 (.cons a6 .nil))))))) hs;have hi:=jZ b;obtain ⟨rs,g,h2,_⟩:=fG i;cases d;cases a4;cases a5;cases a6;cases a7;cases a9;refine ⟨_,_,_,_,rs,rfl,R,hi,g,by have:=h2.length;simpa using this.symm,fun n s l e=>?_⟩;rw [e]at h2
 cases h2 with|cons q _=>
 cases q with|cons u _=>
 cases u;exact ⟨_,_,rfl⟩
end P
end Go.Proofs.YtppcmpmnglaleaaGreat.A
