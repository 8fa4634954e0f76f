/- Texts that stand one behind the other: Pm13, Pm14, Pm15, Q1, Q2, Q3, Q4, Q5, Q6, Q7, Q8, Q9, Q10, Q11, Q13, Q14, Q15, U1, U2. -/
import Derived.Test.YtppcmpmnglaleaaGreatDoorG18
set_option linter.unusedVariables false
set_option linter.unusedSimpArgs false
namespace Go.Proofs.YtppcmpmnglaleaaGreatDoor.A.P
open Go Go.RowKit
variable{E:Env} {O:kj}
mutual
def Bi (τ:Nat→Nat):PV→PV
 | .ref b o t=>.ref (τ b) o t
 | .sl sz b o n c=>.sl sz (τ b) o n c
 | .mp b=>.mp (τ b)
 | .agg cs=>.agg (mQ τ cs)
 | .gA cs=>.gA (mQ τ cs)
 | .fn f a b=>.fn f (mQ τ a) (mQ τ b)
 | .qS t p=>.qS t (Bi τ p)
 | .v x=>.v x
 | .fs sz rows=>.fs sz rows
 | .fp cells=>.fp cells
 | .any=>.any
def mQ (τ:Nat→Nat):List PV→List PV
 |[]=>[]
 |p::ps=>Bi τ p::mQ τ ps
end
attribute [simp] Bi mQ
mutual
theorem Di (τ:Nat→Nat):∀{p:PV},qX p=true→Bi τ p=p
 | .v _,_=>rfl
 | .fs _ _,_=>rfl
 | .fp _,_=>rfl
 | .agg cs,h=>by rw [Bi,lj τ (by simpa using h)]
 | .gA cs,h=>by rw [Bi,lj τ (by simpa using h)]
 | .fn f a b,h=>by
  simp only [qX,aso]at h
  rw [Bi,lj τ h.1,lj τ h.2]
 | .qS t p,h=>by rw [Bi,Di τ (by simpa using h)]
theorem lj (τ:Nat→Nat):∀{l:List PV},dL l=true→mQ τ l=l
 |[],_=>rfl
 |p::l,h=>by
  simp only [dL,aso]at h
  rw [mQ,Di τ h.1,lj τ h.2]
end
@[simp]theorem VB {τ:Nat→Nat} {l:List PV} (h:dL l=true):mQ τ l=l:=lj τ h
def N0 (τ:Nat→Nat):PB→PB
 | .cells z cs=>.cells z (mQ τ cs)
 | .map es=>.map (es.map fun e=>(e.1,Bi τ e.2))
 | .dead=>.dead
theorem je (τ:Nat→Nat):∀l:List PV,(mQ τ l).length=l.length
 |[]=>rfl
 |_::l=>by simp [mQ,je τ l]
theorem zg (τ:Nat→Nat):∀es:List (Value×PV),(es.map fun e=>(e.1,Bi τ e.2)).map (·.2)=mQ τ (es.map (·.2))
 |[]=>rfl
 |_::l=>by simp only [List.map_cons,mQ,zg τ l]
structure Fb (τ:Nat→Nat) (bs h:PH):Prop where
 get:∀i,i<bs.length→h[τ i]?=(bs[i]?).map (N0 τ)
section
variable{τ:Nat→Nat} {bs h:PH}
theorem Fb.at (M:Fb τ bs h) {i t:Nat} (hi:i<bs.length):At h (τ i) t↔At bs i t:=by
 unfold At
 rw [M.get i hi]
 constructor
 ·rintro ⟨z,cs,e,rfl⟩
  obtain ⟨P,hP,e⟩:=asv.1 e
  cases P with
  |cells z' dF=>cases e;exact ⟨_,dF,hP,(je _ _).symm⟩
  |_=>cases e
 ·rintro ⟨z,cs,e,rfl⟩
  exact ⟨z,mQ τ cs,by rw [e];rfl,je _ _⟩
theorem Fb.le (M:Fb τ bs h) {i t:Nat} (hi:i<bs.length):Le h (τ i) t↔Le bs i t:=by
 unfold Le
 rw [M.get i hi]
 constructor
 ·intro k z cs e
  have:=k z (mQ τ cs) (by rw [e];rfl)
  rwa [je]at this
 ·intro k z cs e
  obtain ⟨P,hP,e⟩:=asv.1 e
  cases P with
  |cells z' dF=>cases e;rw [je];exact k _ dF hP
  |_=>cases e
theorem Fb.c7 (M:Fb τ bs h) {i:Nat} (hi:i<bs.length):P.c7 h (τ i)↔P.c7 bs i:=by
 unfold P.c7
 rw [M.get i hi]
 constructor
 ·rintro ⟨es,e⟩
  obtain ⟨P,hP,e⟩:=asv.1 e
  cases P with
  |map es'=>exact ⟨es',hP⟩
  |_=>cases e
 ·rintro ⟨es,e⟩
  exact ⟨_,by rw [e];rfl⟩
theorem Fb.aY (M:Fb τ bs h) {i:Nat} (hi:i<bs.length):P.aY h (τ i)↔P.aY bs i:=by
 unfold P.aY
 simp only [M.c7 hi,M.at hi]
theorem Fb.lt (M:Fb τ bs h) {i:Nat} (hi:i<bs.length):τ i<h.length:=by
 have:=M.get i hi
 rw [asl hi]at this
 exact (asr.1 this).1
mutual
theorem Bj (M:Fb τ bs h) {F:Nat→Prop} {H:AH} {χ ψ:Nat→Nat} (hx:∀i,i<bs.length→χ (τ i)=ψ i):∀{p:PV} {x:Value},RV ⟨F,H,ψ,bs⟩ p x→RV ⟨F,H,χ,h⟩ (Bi τ p) x
 |_,_, .v x=> .v x
 |_,_, .ref a hb hl ha=> .ref a (M.lt hb) ((M.le hb).2 hl) fun k=>by
  have:=ha ((M.at hb).1 k)
  dsimp only at this⊢
  rwa [hx _ hb]
 |_,_, .sl a hb hl ha=> .sl a (M.lt hb) ((M.le hb).2 hl) fun k=>by
  have:=ha ((M.at hb).1 k)
  dsimp only at this⊢
  rwa [hx _ hb]
 |_,_, .mp a hb ha=> .mp a (M.lt hb) fun k=>by
  have:=ha ((M.c7 hb).1 k)
  dsimp only at this⊢
  rwa [hx _ hb]
 |_,_, .fs k=> .fs k
 |_,_, .fp a b c=> .fp a b c
 |_,_, .agg k=> .agg (lW M hx k)
 |_,_, .gA k=> .gA (lW M hx k)
 |_,_, .fn a b=> .fn (lW M hx a) (lW M hx b)
 |_,_, .qS a=> .qS (Bj M hx a)
 |_,_, .any x=> .any x
theorem lW (M:Fb τ bs h) {F:Nat→Prop} {H:AH} {χ ψ:Nat→Nat} (hx:∀i,i<bs.length→χ (τ i)=ψ i):∀{p:List PV} {x:List Value},dq ⟨F,H,ψ,bs⟩ p x→dq ⟨F,H,χ,h⟩ (mQ τ p) x
 |_,_, .nil=> .nil
 |_,_, .cons a b=> .cons (Bj M hx a) (lW M hx b)
end
end
def iH:PH→List Nat→PH→PH
 |h,[],_=>h
 |h,_::_,[]=>h
 |h,b::L,P::Ps=>iH (h.set b P) L Ps
theorem e8:∀(L:List Nat) (Ps h:PH),(iH h L Ps).length=h.length
 |[],_,h=>by simp [iH]
 |_::_,[],h=>by simp [iH]
 |b::L,P::Ps,h=>by rw [iH,e8 L Ps];simp
theorem pd:∀(L:List Nat) (Ps h:PH) (c:Nat),c∉L→(iH h L Ps)[c]?=h[c]?
 |[],_,h,c,_=>by simp [iH]
 |_::_,[],h,c,_=>by simp [iH]
 |b::L,P::Ps,h,c,hc=>by
  rw [iH,pd L Ps _ c (fun q=>hc (List.mem_cons_of_mem _ q)),fD (fun q=>hc (List.mem_cons.2 (.inl q)))]
theorem vF:∀(L:List Nat) (Ps h:PH),L.Nodup→L.length=Ps.length→(∀b∈L,b<h.length)→∀(i b:Nat),L[i]?=some b→(iH h L Ps)[b]?=Ps[i]?
 |[],_,h,_,_,_,i,b,e=>by simp at e
 |_::_,[],h,_,hl,_,i,b,e=>by simp at hl
 |c::L,P::Ps,h,nd,hl,c8,i,b,e=>by
  rw [List.nodup_cons]at nd
  rw [iH]
  cases i with
  |zero=>
   simp only [asj,asm]at e
   subst e
   rw [pd L Ps _ c nd.1,fi (c8 c (by simp))]
   rfl
  |succ i=>
   have:=vF L Ps (h.set c P) nd.2 (by simpa using hl) (fun q hq=>by simpa using c8 q (by simp [hq])) i b (by simpa using e)
   rw [this];rfl
def qg (L:List Nat) (m:Nat):Nat→Nat:=fun i=>if i<L.length then L.getD i 0 else m+(i- L.length)
def merge (h:PH) (L:List Nat) (hs:PH):PH:=iH h L ((hs.take L.length).map (N0 (qg L h.length)))++(hs.drop L.length).map (N0 (qg L h.length))
theorem Fc {h hs:PH} {L:List Nat} (nd:L.Nodup) (c8:∀b∈L,b<h.length) (hl:L.length≤hs.length):Fb (qg L h.length) hs (merge h L hs):=by
 refine ⟨fun i hi=>?_⟩
 unfold merge
 by_cases h1:i<L.length
 ·have e1:L[i]?=some (qg L h.length i):=by
   unfold qg
   rw [if_pos h1,List.getD_eq_getElem?_getD,asl h1];rfl
  have hb:=c8 _ (asq e1)
  rw [asy (by rw [e8];exact hb),vF L _ h nd (by simp;omega) c8 i _ e1,List.getElem?_map,List.getElem?_take,if_pos h1]
 ·have e1:qg L h.length i=h.length+(i- L.length):=by unfold qg;rw [if_neg h1]
  rw [e1,List.getElem?_append_right (by rw [e8];omega),e8,show h.length+(i- L.length)- h.length=i- L.length by omega,List.getElem?_map,List.getElem?_drop,show L.length+(i- L.length)=i by omega]
theorem fb {h hs:PH} {L:List Nat} {b:Nat} (hb:b<h.length) (hL:b∉L):(merge h L hs)[b]?=h[b]?:=by
 unfold merge
 rw [asy (by rw [e8];exact hb),pd _ _ _ _ hL]
def P6 (L:List Nat) (m:Nat) (φ ψ:Nat→Nat):Nat→Nat:=fun b=>match L.idxOf? b with
 |some i=>ψ i
 |none=>if b<m then φ b else ψ (b- m+L.length)
theorem TE {L:List Nat} {m:Nat} {φ ψ:Nat→Nat} (nd:L.Nodup) (c8:∀b∈L,b<m) (i:Nat):P6 L m φ ψ (qg L m i)=ψ i:=by
 unfold P6 qg
 by_cases h1:i<L.length
 ·rw [if_pos h1,List.getD_eq_getElem?_getD,asl h1,Option.getD_some]
  have:L.idxOf? L[i]=some i:=by
   clear c8
   induction L generalizing i with
   |nil=>simp at h1
   |cons x L ih=>
    rw [List.nodup_cons]at nd
    rw [List.idxOf?_cons]
    cases i with
    |zero=>simp
    |succ i=>
     have gF:(x==(x::L)[i+1])=false:=by
      simp only [List.getElem_cons_succ,beq_eq_false_iff_ne]
      intro e
      exact nd.1 (e▸List.getElem_mem _)
     rw [gF]
     simp only [List.getElem_cons_succ]
     rw [ih nd.2 i (by simpa using h1)]
     rfl
  rw [this]
 ·rw [if_neg h1]
  have:L.idxOf? (m+(i- L.length))=none:=by
   rw [List.idxOf?_eq_none_iff]
   intro hm
   have:=c8 _ hm
   omega
  rw [this]
  simp only
  rw [if_neg (by omega),show m+(i- L.length)- m+L.length=i by omega]
theorem jC {L:List Nat} {m b:Nat} {φ ψ:Nat→Nat} (hb:b<m) (hL:b∉L):P6 L m φ ψ b=φ b:=by
 unfold P6
 rw [List.idxOf?_eq_none_iff.2 hL]
 simp only
 rw [if_pos hb]
theorem Bk {F F':Nat→Prop} {H H':AH} {φ ψ:Nat→Nat} {h hs fF:PH} {L:List Nat} (S:eo ⟨F,H,φ,h⟩) (nd:L.Nodup) (c8:∀b∈L,b<h.length) (hl:L.length=hs.length)
 (TF:∀i,aY hs i→aY h (L.getD i 0)) (iu:∀i b,L[i]?=some b→da h b=da hs i∧(c7 hs i→c7 h b)∧(c7 h b→c7 hs i)) (SB:eo ⟨F',H',ψ,fF⟩) (T:dU hs.length qw ⟨F,H,fun i=>φ (L.getD i 0),hs⟩ ⟨F',H',ψ,fF⟩):
 eo ⟨F',H',P6 L h.length φ ψ,merge h L fF⟩∧dU h.length (· ∈L) ⟨F,H,φ,h⟩ ⟨F',H',P6 L h.length φ ψ,merge h L fF⟩∧∀p x,RV ⟨F',H',ψ,fF⟩ p x→RV ⟨F',H',P6 L h.length φ ψ,merge h L fF⟩ (Bi (qg L h.length) p) x:=by
 have hls:hs.length≤fF.length:=T.len (asp _)
 have M:=Fc (h:=h) (hs:=fF) nd c8 (by omega)
 have FZ:=fun i=>TE (φ:=φ) (ψ:=ψ) nd c8 i
 have get?:∀i,i<L.length→L[i]?=some (qg L h.length i):=fun i h1=>by
  unfold qg
  rw [if_pos h1,List.getD_eq_getElem?_getD,asl h1];rfl
 have gD:∀i,i<L.length→L.getD i 0=qg L h.length i:=fun i h1=>by unfold qg;rw [if_pos h1]
 have Zy:(merge h L fF).length=h.length+(fF.length- L.length):=by unfold merge;rw [asu,e8,List.length_map,List.length_drop]
 have cases:∀b,b<(merge h L fF).length→(∃i,i<fF.length∧b=qg L h.length i)∨(b<h.length∧b∉L):=by
  intro b hb
  by_cases h1:b∈L
  ·obtain ⟨i,hi⟩:=List.mem_iff_getElem?.1 h1
   have qG:=(asr.1 hi).1
   left
   refine ⟨i,by omega,?_⟩
   have:=get? i qG
   rw [hi]at this
   exact asn this
  ·by_cases h2:b<h.length
   ·exact .inr ⟨h2,h1⟩
   ·left
    refine ⟨b- h.length+L.length,by rw [Zy]at hb;omega,?_⟩
    unfold qg
    rw [if_neg (by omega)]
    omega
 have TG:∀b,b∉L→aY h b→¬ im ⟨F,H,fun i=>φ (L.getD i 0),hs⟩ qw (φ b):=by
  rintro b hb s ⟨i,_,si,e⟩
  have hi:i<L.length:=by have:=aW si;dsimp only at this;omega
  have s1:=TF _ si
  have:=S.inj _ _ s1 s e
  rw [gD i hi]at this
  exact hb (this▸asq (get? i hi))
 have Zz:∀{x:Nat},im ⟨F,H,fun i=>φ (L.getD i 0),hs⟩ qw x→im ⟨F,H,φ,h⟩ (· ∈L) x:=by
  rintro x ⟨i,_,si,e⟩
  have hi:i<L.length:=by have:=aW si;dsimp only at this;omega
  exact ⟨_,by rw [gD i hi];exact asq (get? i hi),TF _ si,e⟩
 have same:∀b,b∉L→aY h b→H'.get (φ b)=H.get (φ b):=fun b hb s=>T.out _ (S.lt s) (TG b hb s)
 have fo:∀b,b∉L→aY h b→F' (φ b)→F (φ b):=fun b hb s q=>T.fo _ (S.lt s) (TG b hb s) q
 have shape:∀i,i<L.length→(∀t,At h (qg L h.length i) t↔At hs i t)∧(c7 h (qg L h.length i)↔c7 hs i):=by
  intro i hi
  obtain ⟨a,b,c⟩:=iu i _ (get? i hi)
  refine ⟨fun t=>?_,c,b⟩
  have tl:∀{h:PH} {b t:Nat},At h b t↔da h b=some t:=by
   intro h b t
   constructor
   ·rintro ⟨z,cs,e,rfl⟩;unfold da;rw [e]
   ·intro e;exact (lU e).2 rfl
  rw [tl,tl,a]
 have ZA:∀i,i<L.length→∀t,Le h (qg L h.length i) t→Le hs i t:=by
  intro i hi t k z cs e
  obtain ⟨a,_⟩:=iu i _ (get? i hi)
  have e2:da h (qg L h.length i)=some cs.length:=by rw [a];unfold da;rw [e]
  exact (lV e2).1 k
 have T2:dU h.length (· ∈L) ⟨F,H,φ,h⟩ ⟨F',H',P6 L h.length φ ψ,merge h L fF⟩:=by
  refine ⟨T.n0,T.nx,fun x hx=>T.fz x hx,fun x hx hi q=>T.fo x hx (fun w=>hi (let⟨b,_,c⟩:=Zz w;⟨b,trivial,c⟩)) q,fun x hx hi=>T.out x hx fun w=>hi (Zz w),fun b s=>?_,fun _=>by rw [Zy];omega,fun b _ hb t ht=>?_,fun b _ hb t ht ha=>?_,fun b _ hb ha=>?_⟩
  ·rcases cases b (aW s)with⟨i,hi,rfl⟩|⟨h1,h2⟩
   ·dsimp only
    rw [FZ]
    rcases T.loc i ((M.aY hi).1 s)with q|⟨q,e⟩
    ·exact .inl q
    ·right
     have qG:i<L.length:=by have:=aW q;dsimp only at this;omega
     refine ⟨?_,?_⟩
     ·rw [←gD i qG];exact TF _ q
     ·rw [←gD i qG];exact e
   ·right
    dsimp only
    rw [jC h1 h2]
    exact ⟨(dx (fb h1 h2)).1 s,rfl⟩
  ·by_cases hL:b∈L
   ·obtain ⟨i,hi⟩:=List.mem_iff_getElem?.1 hL
    have qG:=(asr.1 hi).1
    obtain rfl:b=qg L h.length i:=asn (hi.symm.trans (get? i qG))
    exact (M.le (by omega)).2 (T.le i (show i<hs.length by omega) (show i<hs.length by omega) t (ZA i qG t ht))
   ·exact (rL (fb hb hL)).2 ht
  ·by_cases hL:b∈L
   ·obtain ⟨i,hi⟩:=List.mem_iff_getElem?.1 hL
    have qG:=(asr.1 hi).1
    obtain rfl:b=qg L h.length i:=asn (hi.symm.trans (get? i qG))
    obtain ⟨a1,a2⟩:=T.uV i (show i<hs.length by omega) (show i<hs.length by omega) t (ZA i qG t ht) ((M.at (by omega)).1 ha)
    dsimp only at a2⊢
    rw [FZ,a2,gD i qG]
    exact ⟨((shape i qG).1 t).2 a1,rfl⟩
   ·exact ⟨(rK (fb hb hL)).1 ha,jC hb hL⟩
  ·by_cases hL:b∈L
   ·obtain ⟨i,hi⟩:=List.mem_iff_getElem?.1 hL
    have qG:=(asr.1 hi).1
    obtain rfl:b=qg L h.length i:=asn (hi.symm.trans (get? i qG))
    obtain ⟨a1,a2⟩:=T.vA i (show i<hs.length by omega) (show i<hs.length by omega) ((M.c7 (by omega)).1 ha)
    dsimp only at a2⊢
    rw [FZ,a2,gD i qG]
    exact ⟨(shape i qG).2.2 a1,rfl⟩
   ·exact ⟨(fC (fb hb hL)).1 ha,jC hb hL⟩
 have P7:∀i b,i<fF.length→aY fF i→b∉L→aY h b→ψ i≠φ b:=by
  intro i b hi s hb s' e
  rcases T.loc i s with q|⟨q,e'⟩
  ·have a1:φ b<H.nx:=S.lt s'
   dsimp only at q
   omega
  ·dsimp only at e'
   exact TG b hb s' ⟨i,trivial,q,e'.symm.trans e⟩
 refine ⟨⟨SB.wf,SB.fz,fun b b' s s' e=>?_,fun b z cs e hc=>?_,fun b es e=>?_⟩,T2,fun p x hr=>Bj M (fun i _=>FZ i) hr⟩
 ·dsimp only at e
  rcases cases b (aW s)with⟨i,hi,rfl⟩|⟨h1,h2⟩
  ·rcases cases b' (aW s')with⟨j,hj,rfl⟩|⟨g1,g2⟩
   ·rw [FZ,FZ]at e
    rw [SB.inj _ _ ((M.aY hi).1 s) ((M.aY hj).1 s') e]
   ·rw [FZ,jC g1 g2]at e
    exact absurd e (P7 i b' hi ((M.aY hi).1 s) g2 ((dx (fb g1 g2)).1 s'))
  ·rcases cases b' (aW s')with⟨j,hj,rfl⟩|⟨g1,g2⟩
   ·rw [FZ,jC h1 h2]at e
    exact absurd e.symm (P7 j b hj ((M.aY hj).1 s') h2 ((dx (fb h1 h2)).1 s))
   ·rw [jC h1 h2,jC g1 g2]at e
    exact S.inj _ _ ((dx (fb h1 h2)).1 s) ((dx (fb g1 g2)).1 s') e
 ·rcases cases b (aW (cn e hc))with⟨i,hi,rfl⟩|⟨h1,h2⟩
  ·dsimp only
   rw [FZ]
   rw [show(merge h L fF)[qg L h.length i]?=_ from M.get i hi]at e
   obtain ⟨P,hP,e⟩:=asv.1 e
   cases P with
   |cells z' dF=>
    cases e
    obtain ⟨vs,k1,k2,k3,k4⟩:=SB.aX i _ dF hP (by rintro rfl;exact hc rfl)
    exact ⟨vs,k1,lW M (fun i _=>FZ i) k2,k3,k4⟩
   |_=>cases e
  ·dsimp only
   rw [jC h1 h2]
   rw [show(merge h L fF)[b]?=_ from fb h1 h2]at e
   have s:=cn e hc
   obtain ⟨vs,k1,k2,k3,k4⟩:=S.aX b z cs e hc
   exact ⟨vs,(same b h2 s).trans k1,k2.step T2,T.n0▸k3,fun q=>k4 (fo b h2 s q)⟩
 ·rcases cases b (aW (e7 e))with⟨i,hi,rfl⟩|⟨h1,h2⟩
  ·dsimp only
   rw [FZ]
   rw [show(merge h L fF)[qg L h.length i]?=_ from M.get i hi]at e
   obtain ⟨P,hP,e⟩:=asv.1 e
   cases P with
   |map es'=>
    cases e
    obtain ⟨ys,k1,k2,k3,k4,k5⟩:=SB.yZ i es' hP
    refine ⟨ys,k1,?_,?_,k4,k5⟩
    ·rw [←k2];simp [List.map_map,Function.comp_def]
    ·rw [zg];exact lW M (fun i _=>FZ i) k3
   |_=>cases e
  ·dsimp only
   rw [jC h1 h2]
   rw [show(merge h L fF)[b]?=_ from fb h1 h2]at e
   have s:=e7 e
   obtain ⟨ys,k1,k2,k3,k4,k5⟩:=S.yZ b es e
   exact ⟨ys,(same b h2 s).trans k1,k2,k3.step T2,T.n0▸k4,fun q=>k5 (fo b h2 s q)⟩
theorem fP.frame {f:Nat} {args gC:List PV} {h hs:PH} (L Z:List Nat) {R:PV→PH→Prop} (k:fP E O f gC hs R) (nd:L.Nodup) (c8:∀b∈L,b<h.length∧b∉Z) (hl:L.length=hs.length)
 (K:kc (· ∈Z) (fun i=>L.getD i 0) h hs 0 hs) (iu:∀i b,L[i]?=some b→da h b=da hs i∧(c7 hs i→c7 h b)∧(c7 h b→c7 hs i)) (hv:mf (· ∈Z) (fun i=>L.getD i 0) h hs args gC):
 E9 E O f args h (· ∈L) (fun r h'=>∃r0 fF,R r0 fF∧L.length≤fF.length∧r=Bi (qg L h.length) r0∧h'=merge (bO h Z) L fF):=by
 intro F H φ vs S Rv
 have KK:=iF.at (A:=(· ∈Z)) L hl nd (fun b hb=>(c8 b hb).2) K
 have S0:=KK.ok S
 obtain ⟨S1,T1⟩:=vD S Z
 have SR:=gX Z h
 have same:∀b,b∈L→(bO h Z)[b]?=h[b]?:=fun b hb=>by rw [lh,if_neg (fun q=>(c8 b hb).2 q.1)]
 refine (k _ H _ vs S0 (hv.ok S Rv)).mono ?_
 rintro x H' ⟨r0,fF,F',ψ,hR,hr,SB,T⟩
 have mem:∀i,i<L.length→L.getD i 0∈L:=fun i hi=>by
  rw [List.getD_eq_getElem?_getD,asl hi];exact List.getElem_mem _
 obtain ⟨SD,TD,RD⟩:=Bk (h:=bO h Z) (hs:=hs) (L:=L) S1 nd (fun b hb=>by rw [SR];exact (c8 b hb).1) hl (fun i si=>(dx (same _ (mem i (by have:=aW si;omega)))).2 (KK.aY si)) (fun i b e=>by
  have e2:=same b (asq e)
  obtain ⟨a1,a2,a3⟩:=iu i b e
  refine ⟨?_,fun q=>(fC e2).2 (a2 q),fun q=>a3 ((fC e2).1 q)⟩
  rw [←a1];unfold da;rw [e2]) SB T
 rw [SR]at SD TD RD
 exact ⟨_,_,F',_,⟨r0,fF,hR,by have:=T.len (asp _);dsimp only at this;omega,rfl,rfl⟩,RD _ _ hr,SD,T1.trans TD (asp _) (fun _ q=>q.elim) (fun _ q=>q)⟩
def JH:Option PB→Option PB→Prop
 |some (.cells _ cs),some (.cells _ dF)=>cs.length=dF.length
 |some (.map _),some (.map _)=>True
 |_,_=>False
@[simp]theorem aiH (z z':Nat) (cs dF:List PV):JH (some (.cells z cs)) (some (.cells z' dF))↔cs.length=dF.length:=Iff.rfl
@[simp]theorem aiI (es es':List (Value×PV)):JH (some (.map es)) (some (.map es'))↔True:=Iff.rfl
def P8 (h hs:PH):Nat→List Nat→Prop
 |_,[]=>True
 |i,b::L=>JH h[b]? hs[i]?∧P8 h hs (i+1) L
@[simp]theorem acN (h hs:PH) (i:Nat):P8 h hs i []↔True:=Iff.rfl
@[simp]theorem ZB (h hs:PH) (i b:Nat) (L:List Nat):P8 h hs i (b::L)↔JH h[b]? hs[i]?∧P8 h hs (i+1) L:=Iff.rfl
theorem P8.ok {h hs:PH}:∀{L:List Nat} {i:Nat},P8 h hs i L→∀j b,L[j]?=some b→da h b=da hs (i+j)∧(c7 hs (i+j)→c7 h b)∧(c7 h b→c7 hs (i+j))
 |[],i,_,j,b,e=>by simp at e
 |c::L,i,k,j+1,b,e=>by
  have:=P8.ok k.2 j b (by simpa using e)
  rwa [show i+1+j=i+(j+1) by omega]at this
 |c::L,i,k,0,b,e=>by
  simp only [asj,asm]at e
  subst e
  have k1:=k.1
  rw [Nat.add_zero]
  unfold da c7
  cases h1:h[c]? with
  |none=>rw [h1]at k1;exact k1.elim
  |some P=>
   cases h2:hs[i]? with
   |none=>rw [h1,h2]at k1;cases P<;>exact k1.elim
   |some P'=>
    rw [h1,h2]at k1
    cases P with
    |cells z cs=>
     cases P' with
     |cells z' dF=>simp only [JH]at k1;exact ⟨by simp [k1],(fun⟨es,e⟩=>by cases e),(fun⟨es,e⟩=>by cases e)⟩
     |_=>exact k1.elim
    |map es=>
     cases P' with
     |map es'=>exact ⟨rfl,fun _=>⟨_,rfl⟩,fun _=>⟨_,rfl⟩⟩
     |_=>exact k1.elim
    |dead=>exact k1.elim
section
variable{n:Nat} {Q:Ex→PF→PH→Prop} {ks:List Kp} {fr:PF} {h:PH} {m:Mp} {l:List AO} {d:Option Nat}
theorem de {f:Nat} {«as»:List X} {gC:List PV} {hs:PH} (L Z:List Nat) {R:PV→PH→Prop} (k:fP E O f gC hs R) (nd:L.Nodup) (c8:∀b∈L,b<h.length∧b∉Z) (hl:L.length=hs.length)
 (K:kc (· ∈Z) (fun i=>L.getD i 0) h hs 0 hs) (sz:P8 h hs 0 L) (hv:mf (· ∈Z) (fun i=>L.getD i 0) h hs («as».map (gh fr)) gC)
 (next:∀r0 fF,R r0 fF→L.length≤fF.length→PK E O n Q (.ops (m.up L (fr.aU d (Bi (qg L h.length) r0)) (merge (bO h Z) L fF)) l ks) (fr.aU d (Bi (qg L h.length) r0)) (merge (bO h Z) L fF)):PK E O n Q (.ops m (⟨none,d,.call f «as»⟩::l) ks) fr h:=
 j7 (W:=L) rfl ((fP.frame L Z k nd c8 hl K (fun i b e=>by simpa using sz.ok i b e) hv).mono (by
  rintro r' h' ⟨r0,fF,hR,hle,rfl,rfl⟩
  exact next r0 fF hR hle))
end
attribute [simp] qg merge iH N0
end Go.Proofs.YtppcmpmnglaleaaGreatDoor.A.P
namespace Go.Proofs.YtppcmpmnglaleaaGreatDoor.A.P
open Go Go.RowKit
variable{E:Env} {O:kj}
theorem qW.list {A:Nat→Prop} {σ:Nat→Nat} {h bs:PH} {fr:PF}:∀{l:List (Nat×PV)},qW A σ h bs fr l→mf A σ h bs (l.map fun e=>fr.get e.1) (l.map (·.2))
 |[],_=>trivial
 |(t,p)::l,k=>⟨k.1,qW.list k.2⟩
theorem Dj {C:Cx} {af:Fr}:∀{l:List (Nat×PV)},dq C (l.map (·.2)) (l.map fun e=>af.get e.1)→nM C (PF.uK l) af
 |[],_,t=>.any _
 |(a,p)::l,k,t=>by
  cases k with|cons k1 k2=>
  rw [ze]
  split
  ·rename_i e;subst e;exact k1
  ·exact Dj k2 t
theorem JI {C:Cx} {fr:PF} {af:Fr} (R:nM C fr af):∀l:List (Nat×PV),dq C (l.map fun e=>fr.get e.1) (l.map fun e=>af.get e.1)
 |[]=>.nil
 |(a,p)::l=>.cons (R a) (JI R l)
theorem cz {n:Nat} {fr:PF} {h h2:PH} (L:List Nat) (l:List (Nat×PV)) (hL:L.length+n=h2.length) (nd:L.Nodup) (Lh:∀b∈L,n≤b) (hs:∀b,b<n→bX h h2 b) (K:kc (fun _=>False) (fun i=>if i<n then i else L.getD (i- n) 0) h h2 0 h2) (V:qW (fun _=>False) (fun i=>if i<n then i else L.getD (i- n) 0) h h2 fr l):Gh n fr h (PF.uK l) h2:=by
 intro F H φ af S R
 obtain ⟨F',dT,S',R',T⟩:=bQ L hL nd Lh hs K (Be V.list) F H φ (.tuple (l.map fun e=>af.get e.1).toArray) S (.gA (JI R l))
 refine ⟨F',dT,S',?_,T⟩
 generalize hv:(Value.tuple (l.map fun e=>af.get e.1).toArray)=v at R'
 cases R' with|gA r=>
 rename_i xs
 have:xs=l.map fun e=>af.get e.1:=by
  have:=Value.tuple.inj hv
  exact (congrArg Array.toList this).symm
 subst this
 exact Dj r
theorem fP.aiJ {f:Nat} {args gC:List PV} {h:PH} {sz k:Nat} {cs:List PV} (q:Fo E O f gC sz k cs) (hc:kb cs=true) (hv:mf qw id h [] args gC):
 E9 E O f args h (· ∈[]) (fun r h'=>r= .sl sz h.length 0 k k∧h'=h++[.cells sz cs]):=by
 intro F H φ vs S Rv
 have S0:=(iF.none qw id h).ok S
 refine (q _ H _ vs S0 (hv.ok S Rv)).mono ?_
 rintro x H' ⟨r,bs,F',ψ,⟨rfl,rfl,hz,hl⟩,hr,SB,T⟩
 have Tv:∀{V:Nat→Prop} {x:Nat} {F:Nat→Prop} {φ:Nat→Nat},¬ im ⟨F,H,φ,[]⟩ V x:=by
  rintro V x F φ ⟨b,_,s,_⟩
  have:=aW s
  simp at this
 have no:∀{b:Nat} {F:Nat→Prop} {φ:Nat→Nat},¬ aY (Cx.mk F H φ []).h b:=fun s=>by have:=aW s;simp at this
 have same:∀x,x<H.nx→H'.get x=H.get x:=fun x hx=>T.out x hx Tv
 have new:∀b,aY [PB.cells sz cs] b→H.nx≤ψ b:=fun b hb=>by
  rcases T.loc b hb with q|⟨q,_⟩
  ·exact q
  ·exact absurd q no
 have SB2:eo ⟨F,H',ψ,[.cells sz cs]⟩:={
  wf:=SB.wf
  fz:=fun x hx=>Nat.lt_of_lt_of_le (S.fz x hx) T.nx
  inj:=SB.inj
  aX:=fun b z dF e he=>by
   obtain ⟨vs,k1,k2,k3,_⟩:=SB.aX b z dF e he
   refine ⟨vs,k1,?_,k3,fun q=>?_⟩
   ·cases b with
    |zero=>simp at e;obtain ⟨_,rfl⟩:=e;exact nD hc k2
    |succ b=>simp at e
   ·have:=S.fz _ q
    have:=new b (cn e he)
    dsimp only at*
    omega
  yZ:=fun b es e=>by
   cases b with
   |zero=>simp at e
   |succ b=>simp at e}
 have T2:dU 0 qw ⟨F,H,φ,[]⟩ ⟨F,H',ψ,[.cells sz cs]⟩:={
  n0:=T.n0
  nx:=T.nx
  fz:=fun x hx=>⟨hx,same x (S.fz x hx)⟩
  fo:=fun _ _ _ h=>h
  out:=fun x hx _=>same x hx
  loc:=fun b hb=>.inl (new b hb)
  len:=fun _=>Nat.zero_le _
  le:=fun b hb=>absurd hb (Nat.not_lt_zero _)
  uV:=fun b hb=>absurd hb (Nat.not_lt_zero _)
  vA:=fun b hb=>absurd hb (Nat.not_lt_zero _)}
 obtain ⟨SD,TD⟩:=Dg (W:=(· ∈[])) S SB2 T2
 have hr2:RV ⟨F,H',ψ,[.cells sz cs]⟩ (.sl sz 0 0 k k) x:=by
  cases hr with|sl a b c d=>exact .sl a b c d
 have hr3:=Df (φ:=φ) (h:=h) hr2
 refine ⟨_,_,F,join h φ ψ,⟨rfl,rfl⟩,?_,?_,?_⟩
 ·have e:sh h.length (.sl sz 0 0 k k)= .sl sz h.length 0 k k:=by simp
  rw [e]at hr3
  simpa [ub,jA _ hz]using hr3
 ·simpa [ub,jA _ hz]using SD
 ·simpa [ub,jA _ hz]using TD
section
variable{n:Nat} {Q:Ex→PF→PH→Prop} {ks:List Kp} {fr:PF} {h:PH} {m:Mp} {l:List AO} {d:Option Nat}
theorem pf {f:Nat} {«as»:List X} {args:List PV} {sz k:Nat} {cs:List PV} (q:Fo E O f args sz k cs) (hv:mf qw id h [] («as».map (gh fr)) args) (hc:kb cs=true) (next:PK E O n Q (.ops (m.up [] (fr.aU d (.sl sz h.length 0 k k)) (h++[.cells sz cs])) l ks) (fr.aU d (.sl sz h.length 0 k k)) (h++[.cells sz cs])):PK E O n Q (.ops m (⟨none,d,.call f «as»⟩::l) ks) fr h:=
 j7 (W:=[]) rfl ((fP.aiJ q hc hv).mono (by rintro r' h' ⟨rfl,rfl⟩;exact next))
end
end Go.Proofs.YtppcmpmnglaleaaGreatDoor.A.P
namespace Go.Proofs.YtppcmpmnglaleaaGreatDoor.A.P
open Go Go.RowKit
section
variable{T:Type} {enc:TypeId×Value→T} {P:Program} {W:World}
def F0 (W:World):Nat→Prop:=fun b=>b<W.heap.size
theorem st0 (W:World) (φ:Nat→Nat):eo ⟨F0 W,H0 W,φ,[]⟩where
 wf:=asp _
 fz:=fun x hx=>hx
 inj:=fun b b' s=>by have:=aW s;simp at this
 aX:=fun b z cs e=>by simp at e
 yZ:=fun b es e=>by simp at e
def SlC (v:Value):Prop:=∃a n c,v= .slice a n c∧n≤c∧(c=0∨∀x,a=some x→x.spot=none)
theorem Fe {n0:Nat} {c v:Value} (h:c= .slice none 0 0∨∃a len cap,c= .slice (some a) len cap∧len≤cap) (hc:bo n0 c=some v):SlC v:=by
 rcases h with rfl|⟨a,len,cap,rfl,hl⟩
 ·simp [bo,flat]at hc;subst hc;exact ⟨_,_,_,rfl,asp _,.inl rfl⟩
 ·simp only [bo]at hc
  cases h1:(decide (a.block<n0)&&a.spot.isNone)with
  |true=>rw [h1]at hc;simp only [cond_true,asm]at hc;subst hc;exact ⟨_,_,_,rfl,hl,.inr fun x hx=>by cases hx;simp only [aso]at h1;exact Option.isNone_iff_eq_none.1 h1.2⟩
  |false=>
   rw [h1]at hc
   simp only [cond_false]at hc
   cases h2:Nat.beq len 0 with
   |true=>rw [h2]at hc;simp only [cond_true,asm]at hc;subst hc;exact ⟨_,_,_,rfl,asp _,.inl rfl⟩
   |false=>rw [h2]at hc;simp at hc
theorem aiK {b z:Nat} {c:List Value} (h:(H0 W).get b=some (.cells z c)):z=1048576:=by
 have h2:vd W b=some (.cells z c):=by
  rw [AH.fv (AH.a8 h)]at h
  rw [←As];exact h
 unfold vd at h2
 split at h2
 ·cases h2;rfl
 ·cases h2
theorem aiL {b o sz:Nat} {r:List Value} (h:(H0 W).ldn ⟨b,o,none⟩ sz=some r) (hs:sz≤1048576):F0 W b∧(H0 W).lE b sz=true:=by
 unfold AH.ldn at h
 split at h
 ·rename_i z c _ e
  have:=aiK e
  refine ⟨AH.a8 e,?_⟩
  unfold AH.lE
  rw [show(H0 W).get b=_ from e]
  exact decide_eq_true (by omega)
 ·cases h
theorem Bl {α:Type} {F:Nat→Prop} {H:AH} {en:α→List PV} {ok:α→Prop}:∀{rows:List (List Value)} {ys:List α},fN (fun l y=>iQ F H (en y) l∧ok y) rows ys→lD F H (ys.map en) rows∧∀y∈ys,ok y
 |_,_, .nil=>⟨.nil,by simp⟩
 |_,_, .cons a b=>⟨.cons a.1 (Bl b).1,fun y hy=>by
    rcases List.mem_cons.1 hy with rfl|hy
    · exact a.2
    · exact (Bl b).2 y hy⟩
theorem uh {α:Type} (en:α→List PV) {ok:α→Prop} {t e:TypeId} {fuel:Nat} {c:Value} {d:DataW T} (ht:P.underlying t=some (.slice e)) (U8:0<P.cellsOf e) (hcm:P.cellsOf e≤1048576) (hbe:0<P.bytesOf e)
 (h:Rd enc P W fuel t [c] d) (hw:wK P t d) (rd:∀m dF d',m<fuel→Rd enc P W m e dF d'→wK P e d'→∃l y,aT W.heap.size dF=some l∧iQ (F0 W) (H0 W) (en y) l∧ok y):
 ∃(v:Value) (ys:List α),aT W.heap.size [c]=some [v]∧RF (F0 W) (H0 W) (.fs (P.cellsOf e) (ys.map en)) v∧(∀y∈ys,ok y)∧ys.length*P.bytesOf e≤reachBytes:=by
 obtain ⟨v,rows,ys,g1,g2,g3,g4⟩:=MP (C:=fun l y=>iQ (F0 W) (H0 W) (en y) l∧ok y) ht U8 hbe h hw rd
 obtain ⟨r1,r2⟩:=Bl g3
 have hs:SlC v:=by
  obtain ⟨ps,h⟩:=h
  simp only [aT]at g1
  cases h2:bo W.heap.size c with
  |none=>rw [h2]at g1;simp at g1
  |some x=>
   rw [h2]at g1
   simp only [asm,List.cons.injEq,and_true]at g1
   subst g1
   refine Fe ?_ h2
   rcases DataW.trod_slice ht h with⟨e,_⟩|⟨a,len,cap,_,_,_,_,e,_,_,hlc,_⟩
   ·simp only [List.cons.injEq,and_true]at e;exact .inl e
   ·simp only [List.cons.injEq,and_true]at e;exact .inr ⟨a,len,cap,e,hlc⟩
 refine ⟨v,ys,g1,?_,r2,by rw [←g3.length];exact g4⟩
 obtain ⟨a,n,cp,rfl,hn,ji⟩:=hs
 have g2':=g2
 obtain ⟨a2,c2,e,k⟩:=g2.is
 cases e
 have hl:(ys.map en).length=rows.length:=by rw [List.length_map,g3.length]
 have:RF (F0 W) (H0 W) (.fs (P.cellsOf e) (ys.map en)) (.slice a (ys.map en).length cp):=by
  refine .fs (by rw [hl];exact g2') (by rw [hl];exact hn) (fun d hd=>⟨?_,?_⟩) r1
  ·rcases ji with q|q
   ·exact .inr q
   ·exact .inl (q d hd)
  ·rw [hl]
   by_cases h0:rows.length=0
   ·exact .inl h0
   ·obtain ⟨r,hr⟩:∃r,rows[0]?=some r:=⟨_,asl (by omega)⟩
    obtain ⟨b,o,e1,e2⟩:=k 0 r hr
    subst e1
    cases hd
    exact .inr (aiL e2 hcm)
 rw [hl]at this
 exact this
end
end Go.Proofs.YtppcmpmnglaleaaGreatDoor.A.P
set_option maxRecDepth 10000
namespace Go.Proofs.YtppcmpmnglaleaaGreatDoor.A.P
open Go Go.RowKit
mutual
def ic:b9→List PV
 | .mk op n cp args=>[pi op,pi n,pi cp,.fs 4 (ik args)]
def ik:List b9→List (List PV)
 |[]=>[]
 |e::l=>ic e::ik l
end
mutual
def bM:bD→List PV
 | .mk op n args thn els=>[pi op,pi n,.fs 4 (ik args),.fs 5 (il thn),.fs 5 (il els)]
def il:List bD→List (List PV)
 |[]=>[]
 |e::l=>bM e::il l
end
theorem ll:∀l:List b9,ik l=l.map ic
 |[]=>rfl
 |_::l=>by simp [ik,ll l]
theorem jL:∀l:List bD,il l=l.map bM
 |[]=>rfl
 |_::l=>by simp [il,jL l]
@[simp]theorem N1 (l:List b9):(ik l).length=l.length:=by simp [ll]
@[simp]theorem N2 (l:List bD):(il l).length=l.length:=by simp [jL]
@[simp]theorem VC (l:List b9) (i:Nat):(ik l)[i]?=(l[i]?).map ic:=by simp [ll]
@[simp]theorem VD (l:List bD) (i:Nat):(il l)[i]?=(l[i]?).map bM:=by simp [jL]
@[simp]theorem ZC (e:b9):dL (ic e)=true:=by cases e;rfl
@[simp]theorem P9 (e:b9):(ic e).length=4:=by cases e;rfl
@[simp]theorem Qa (e:bD):(bM e).length=5:=by cases e;rfl
@[simp]theorem VE (e:b9):(ic e).take 4=ic e:=ass (by simp)
def zh (v:Vr):List PV:=[ps v.name,pi v.level,pi v.cells]
abbrev lq (l:List Vr):PV:=.fs 3 (l.map zh)
def au (p:bf):List PV:=[pi p.w,lq p.vars,.fs 5 (il p.body)]
def cF (t:eG):List PV:=[iG t.store,iG t.bS]
abbrev N3 (l:List (List Int)):PV:=.fs 1 (l.map fun s=>[iG s])
@[simp]theorem ZD (p:bf):dL (au p)=true:=rfl
@[simp]theorem ZE (p:eG):dL (cF p)=true:=rfl
@[simp]theorem VF (p:List Vr):qX (lq p)=true:=rfl
@[simp]theorem ZF (p:List (List Int)):qX (N3 p)=true:=rfl
mutual
def F3:b9→Prop
 | .mk op n cp args=>kK op∧kK n∧kK cp∧args.length<2^60∧Bm args
def Bm:List b9→Prop
 |[]=>True
 |e::l=>F3 e∧Bm l
end
mutual
def Dk:bD→Prop
 | .mk op n args thn els=>kK op∧kK n∧args.length<2^60∧thn.length<2^60∧els.length<2^60∧Bm args∧w8 thn∧w8 els
def w8:List bD→Prop
 |[]=>True
 |e::l=>Dk e∧w8 l
end
def fV (p:bf):Prop:=kK p.w∧oM p.vars∧w8 p.body∧p.body.length<2^60
def Bn (t:eG):Prop:=t.store.length<2^60∧t.bS.length<2^60∧(∀n∈t.store,kK n)∧∀n∈t.bS,kK n
theorem zi:∀{l:List b9},Bm l→∀e∈l,F3 e
 |_::_,h,e,he=>by
  rcases List.mem_cons.1 he with rfl|he
  ·exact h.1
  ·exact zi h.2 e he
section
variable{F:Nat→Prop} {H:AH}
theorem iR {sz:Nat} {rows:List (List PV)} {x:Value} (h:RF F H (.fs sz rows) x):∃rs,Rows H sz x rs∧lD F H rows rs∧∃a c,x= .slice a rows.length c:=by
 cases h with|fs hr hl hk qR=>exact ⟨_,hr,qR,_,_,rfl⟩
mutual
theorem w9:∀{e:b9} {c:List Value},F3 e→iQ F H (ic e) c→nX H c e
 | .mk op n cp args,c,ok,h=>by
  simp only [ic]at h
  cases h with|cons h0 h=>
  cases h with|cons h1 h=>
  cases h with|cons h2 h=>
  cases h with|cons h3 h=>
  cases h
  cases h0;cases h1;cases h2
  obtain ⟨rs,hr,qR,_⟩:=iR h3
  simp only [F3]at ok
  exact .mk ok.1 ok.2.1 ok.2.2.1 ok.2.2.2.1 hr (xb ok.2.2.2.2 qR)
theorem xb:∀{l:List b9} {rs:List (List Value)},Bm l→lD F H (ik l) rs→gG H rs l
 |[],rs,_,h=>by cases h;exact .nil
 |e::l,rs,ok,h=>by
  simp only [ik]at h
  cases h with|cons a b=>
  exact .cons (w9 ok.1 a) (xb ok.2 b)
end
mutual
theorem TJ:∀{e:bD} {c:List Value},Dk e→iQ F H (bM e) c→oN H c e
 | .mk op n args thn els,c,ok,h=>by
  simp only [bM]at h
  cases h with|cons h0 h=>
  cases h with|cons h1 h=>
  cases h with|cons h2 h=>
  cases h with|cons h3 h=>
  cases h with|cons h4 h=>
  cases h
  cases h0;cases h1
  obtain ⟨ra,ha,G4,_⟩:=iR h2
  obtain ⟨rt,ht,SQ,_⟩:=iR h3
  obtain ⟨re,he,yQ,_⟩:=iR h4
  simp only [Dk]at ok
  exact .mk ok.1 ok.2.1 ok.2.2.1 ok.2.2.2.1 ok.2.2.2.2.1 ha (xb ok.2.2.2.2.2.1 G4) ht (qh ok.2.2.2.2.2.2.1 SQ) he (qh ok.2.2.2.2.2.2.2 yQ)
theorem qh:∀{l:List bD} {rs:List (List Value)},w8 l→lD F H (il l) rs→iN H rs l
 |[],rs,_,h=>by cases h;exact .nil
 |e::l,rs,ok,h=>by
  simp only [il]at h
  cases h with|cons a b=>
  exact .cons (TJ ok.1 a) (qh ok.2 b)
end
theorem jD {l:List Int} {x:Value} (h:RF F H (iG l) x):eM H x l:=by
 obtain ⟨rs,hr,qR,_⟩:=iR h
 have:∀{l:List Int} {rs:List (List Value)},lD F H (ir l) rs→rs=l.map fun n=>[.int .i64 n]:=by
  intro l
  induction l with
  |nil=>intro rs h;cases h;rfl
  |cons a l ih=>
   intro rs h
   simp only [ir,List.map_cons]at h
   cases h with|cons a b=>
   cases a with|cons a c=>
   cases a;cases c
   rw [ih b];rfl
 rw [this qR]at hr
 exact hr
theorem lr {l:List Vr} {x:Value} (h:RF F H (lq l) x):dz H x l:=by
 obtain ⟨rs,hr,qR,_⟩:=iR h
 have:∀{l:List Vr} {rs:List (List Value)},lD F H (l.map zh) rs→rs=l.map Vr.row:=by
  intro l
  induction l with
  |nil=>intro rs h;cases h;rfl
  |cons a l ih=>
   intro rs h
   simp only [zh,List.map_cons]at h
   cases h with|cons h b=>
   cases h with|cons h0 h=>
   cases h with|cons h1 h=>
   cases h with|cons h2 h=>
   cases h
   cases h0;cases h1;cases h2
   rw [ih b];rfl
 rw [this qR]at hr
 exact hr
theorem Ff {l:List (List Int)} {x:Value} (h:RF F H (N3 l) x):et H x l:=by
 obtain ⟨rs,hr,qR,_⟩:=iR h
 refine ⟨rs,hr,?_⟩
 have:∀{l:List (List Int)} {rs:List (List Value)},lD F H (l.map fun s=>[iG s]) rs→fN (fun r s=>∃v,r=[v]∧eM H v s) rs l:=by
  intro l
  induction l with
  |nil=>intro rs h;cases h;exact .nil
  |cons a l ih=>
   intro rs h
   simp only [List.map_cons]at h
   cases h with|cons h b=>
   cases h with|cons h0 h=>
   cases h
   exact .cons ⟨_,rfl,jD h0⟩ (ih b)
 exact this qR
theorem xd {p:bf} {c:List Value} (ok:fV p) (h:iQ F H (au p) c):qI H c p:=by
 simp only [au]at h
 cases h with|cons h0 h=>
 cases h with|cons h1 h=>
 cases h with|cons h2 h=>
 cases h
 cases h0
 obtain ⟨rs,hr,qR,_⟩:=iR h2
 exact ⟨_,_,_,rfl,ok.1,lr h1,ok.2.1,hr,qh ok.2.2.1 qR,ok.2.2.2⟩
theorem JJ {t:eG} {c:List Value} (ok:Bn t) (h:iQ F H (cF t) c):yq H c t:=by
 simp only [cF]at h
 cases h with|cons h0 h=>
 cases h with|cons h1 h=>
 cases h
 exact ⟨_,_,rfl,jD h0,jD h1,ok⟩
theorem Bo {C:Cx} {sz:Nat} {rows:List (List PV)} {x:Value} (h:RV C (.fs sz rows) x):RF C.F C.H (.fs sz rows) x:=by cases h;assumption
theorem Qb {C:Cx}:∀{ps:List PV} {xs:List Value},ps.all uf=true→dq C ps xs→iQ C.F C.H ps xs
 |[],_,_,.nil=>.nil
 |p::ps,_,h,.cons a b=>by
  simp only [List.all_cons,aso]at h
  refine .cons ?_ (Qb h.2 b)
  cases p<;>first
   |(simp [uf]at h;done)
   |(cases a;exact .v _)
   |exact Bo a
theorem oy {C:Cx} {ps:List PV} {x:Value} (hp:ps.all uf=true) (h:RV C (.agg ps) x):∃c,x= .agg c.toArray∧iQ C.F C.H ps c:=by
 cases h with|agg a=>exact ⟨_,rfl,Qb hp a⟩
end
@[simp]theorem ZG (e:b9):(ic e).all uf=true:=by cases e;rfl
@[simp]theorem ZH (e:bD):(bM e).all uf=true:=by cases e;rfl
@[simp]theorem ZI (p:bf):(au p).all uf=true:=rfl
@[simp]theorem ZJ (p:eG):(cF p).all uf=true:=rfl
theorem Fz.ke {f:Nat} {args:List PV} {y:Value} (k:∀F H φ vs,H.n0≤H.nx→dq ⟨F,H,φ,[]⟩ args vs→Ca E O f vs H (fun x H'=>x=y∧Ext H H')):Fz E O f args (.v y):=by
 intro F H φ vs S Rv
 refine (k F H φ vs S.wf Rv).mono ?_
 rintro x H' ⟨rfl,X⟩
 have T:dU 0 qw ⟨F,H,φ,[]⟩ ⟨F,H',φ,[]⟩:=⟨X.n0,X.nx,fun x hx=>⟨hx,X.old x (S.fz x hx)⟩,fun _ _ _ h=>h,fun x hx _=>X.old x hx,fun b hb=>absurd (aW hb) (Nat.not_lt_zero _),fun _=>asp _,fun b hb=>absurd hb (Nat.not_lt_zero _),fun b hb=>absurd hb (Nat.not_lt_zero _),fun b hb=>absurd hb (Nat.not_lt_zero _)⟩
 exact ⟨_,[],F,φ,⟨rfl,rfl,rfl⟩,.v _,⟨X.wf S.wf,fun x hx=>Nat.lt_of_lt_of_le (S.fz x hx) X.nx,fun b b' s=>absurd (aW s) (Nat.not_lt_zero _),fun b z cs e=>by simp at e,fun b es e=>by simp at e⟩,T⟩
theorem Fo.ke {f:Nat} {args:List PV} {sz:Nat} {rows:List (List Value)} (hz:0<sz) (k:∀F H φ vs,H.n0≤H.nx→dq ⟨F,H,φ,[]⟩ args vs→Ca E O f vs H (fun x H'=>dN H' sz x rows∧Ext H H'∧∀b,aX x b→H.nx≤b)):Fo E O f args sz rows.length (rows.flatten.map .v):=by
 intro F H φ vs S Rv
 refine (k F H φ vs S.wf Rv).mono ?_
 rintro x H' ⟨o,X,hb⟩
 have hlen:(rows.flatten.map PV.v).length=rows.length*sz:=by rw [List.length_map,cC o.len]
 obtain ⟨a,ha⟩:∃a:Nat,(rows≠[]→x= .slice (some ⟨a,0,none⟩) rows.length rows.length∧H'.get a=some (.cells sz rows.flatten)∧H.nx≤a∧H'.n0≤a):=by
  rcases o.is with⟨_,rfl⟩|⟨a,rfl,h0,hg⟩
  ·exact ⟨0,fun h=>absurd rfl h⟩
  ·exact ⟨a,fun _=>⟨rfl,hg,hb a ((bG _ _ _ _ _).2 rfl),h0⟩⟩
 have one:∀{b:Nat} {P:PB},[PB.cells sz (rows.flatten.map .v)][b]?=some P→b=0∧P= .cells sz (rows.flatten.map .v):=by
  intro b P e
  cases b with
  |zero=>simp only [asj,asm]at e;exact ⟨rfl,e.symm⟩
  |succ b=>simp at e
 have sol:∀{b:Nat},aY [PB.cells sz (rows.flatten.map .v)] b→b=0∧rows≠[]:=by
  intro b s
  rcases lg s with⟨es,e⟩|⟨z,cs,e,hc⟩
  ·have:=(one e).2;cases this
  ·obtain ⟨rfl,e2⟩:=one e
   cases e2
   exact ⟨rfl,by rintro rfl;exact hc rfl⟩
 have T:dU 0 qw ⟨F,H,φ,[]⟩ ⟨F,H',fun _=>a,[.cells sz (rows.flatten.map .v)]⟩:=⟨X.n0,X.nx,fun x hx=>⟨hx,X.old x (S.fz x hx)⟩,fun _ _ _ h=>h,fun x hx _=>X.old x hx,fun b hb=>.inl (ha (sol hb).2).2.2.1,fun _=>Nat.zero_le _,fun b hb=>absurd hb (Nat.not_lt_zero _),fun b hb=>absurd hb (Nat.not_lt_zero _),fun b hb=>absurd hb (Nat.not_lt_zero _)⟩
 refine ⟨_,_,F,fun _=>a,⟨rfl,rfl,?_,hlen⟩,?_,⟨X.wf S.wf,fun x hx=>Nat.lt_of_lt_of_le (S.fz x hx) X.nx,fun b b' s s' _=>by rw [(sol s).1,(sol s').1],fun b z cs e hc=>?_,fun b es e=>?_⟩,T⟩
 ·rw [mP];simp
 ·refine .sl ?_ (by simp) (fun z cs e=>?_) (fun _=>?_)
  ·rcases o.is with⟨rfl,e0⟩|⟨_,rfl,_⟩
   ·exact ⟨none,0,by rw [e0];rfl⟩
   ·exact ⟨_,_,rfl⟩
  ·obtain ⟨_,e2⟩:=one e
   cases e2
   rw [hlen];simp
  ·by_cases hr:rows=[]
   ·subst hr
    refine .inl ⟨rfl,rfl,?_⟩
    rcases o.is with⟨rfl,_⟩|⟨b,rfl,_⟩
    ·exact ⟨none,rfl,by simp⟩
    ·exact ⟨_,rfl,by rintro e ⟨⟩;rfl⟩
   ·exact .inr ⟨List.length_pos_iff.2 hr,by rw [(ha hr).1];simp⟩
 ·obtain ⟨rfl,e2⟩:=one e
  cases e2
  have hr:rows≠[]:=by rintro rfl;exact hc rfl
  obtain ⟨_,h2,h3,h4⟩:=ha hr
  exact ⟨rows.flatten,h2,dq.lits _,h4,fun hf=>by have:=S.fz _ hf;dsimp only at this;omega⟩
 ·have:=(one e).2;cases this
end Go.Proofs.YtppcmpmnglaleaaGreatDoor.A.P
namespace Go.Proofs.YtppcmpmnglaleaaGreatDoor.A.P
open Go Go.RowKit
theorem sy {α:Type} {x:α}:∀{l:List α} {k:Nat},k<l.length→uW l k [x]=l.set k x
 |[],k,h=>by simp at h
 |y::l,0,_=>by simp [uW]
 |y::l,k+1,h=>by simp [uW,sy (l:=l) (k:=k) (by simpa using h)]
@[simp]theorem N4 (l:List Int):dL (l.map pi)=true:=by rw [mP];simp
theorem gU (l:List Int):(a7 l).flatten.map PV.v=l.map pi:=by
 induction l with
 |nil=>rfl
 |cons a l ih=>simp_all [a7]
theorem ui {l:List Int} (hb:l.length≤2^40):Fo E O 27 [iG l] 1 l.length (l.map pi):=by
 have:=Fo.ke (f:=27) (args:=[iG l]) (rows:=a7 l) Nat.one_pos (fun F H φ vs w Rv=>by
  cases Rv with|cons a b=>
  cases b
  exact Ir w (jD (Bo a)) hb)
 rw [gU]at this
 simpa [a7]using this
theorem Dl (b:Bool):Fz E O 63 [pb b] (pi (if b then 1 else 0)):=by
 refine Fz.body (F:=Rw) rfl rfl rfl rfl ?_
 cases b
 ·simp (maxSteps:=4000000)-implicitDefEqProofs+contextual [-getElem?_pos,asj,Rw]
 ·simp (maxSteps:=4000000)-implicitDefEqProofs+contextual [-getElem?_pos,asj,Rw]
theorem ZK {l:List Int} {k:Nat} {a:Int} (hb:l.length≤2^40) (hk:k<l.length):Fo E O 152 [iG l,pi k,pi a] 1 l.length ((l.set k a).map pi):=by
 refine Fo.body (F:=a152) rfl rfl rfl (N4 _) (by simp) ?_
 simp (maxSteps:=4000000)-implicitDefEqProofs+contextual [-getElem?_pos,asj,a152]
 refine qf (ui hb) ?_ ?_ ?_
 iterate 2· simp (maxDischargeDepth:=8)-implicitDefEqProofs [-getElem?_pos,asj]
 simp (maxSteps:=4000000)-implicitDefEqProofs+contextual [-getElem?_pos,asj,hk,sy]
 omega
theorem aiN {w n i:Int} {V:List Vr} (hV:aC w V=true) (hn:0≤n∧n<V.length) (hi:0≤i∧i<2^40):Fz E O 121 [lq V,pi n,pi i] (pi (bk V n+i%al V n)):=
 Fz.ke fun F H φ vs w Rv=>by
  cases Rv with|cons a Rv=>
  cases Rv with|cons b Rv=>
  cases Rv with|cons c Rv=>
  cases Rv;cases b;cases c
  refine (Iw (lr (Bo a)) hV hn hi).mono ?_
  rintro x H' ⟨rfl,rfl⟩
  exact ⟨rfl,Ext.refl _⟩
theorem N5 {w:Int} {V:List Vr} {S:List (List Int)} {e:b9} (hV:aC w V=true) (hS:EO w V S) (ok:F3 e) (hf:dA w V S.length e=true):Fz E O 90 [pi w,lq V,N3 S,.agg (ic e)] (pi (GH w V S e)):=
 Fz.ke fun F H φ vs hw Rv=>by
  cases Rv with|cons a Rv=>
  cases Rv with|cons b Rv=>
  cases Rv with|cons c Rv=>
  cases Rv with|cons d Rv=>
  cases Rv;cases a
  obtain ⟨cs,rfl,hc⟩:=oy (by simp) d
  exact yM hV hS _ e cs H (asA _) hw (lr (Bo b)) (Ff (Bo c)) (w9 ok hc) hf
theorem N6 {e:b9} (ok:F3 e) (hn:aB e<2^60):Fz E O 91 [.agg (ic e)] (pi (aB e)):=
 Fz.ke fun F H φ vs hw Rv=>by
  cases Rv with|cons d Rv=>
  cases Rv
  obtain ⟨cs,rfl,hc⟩:=oy (by simp) d
  exact EP _ e cs H (asA _) hw (w9 ok hc) hn
theorem eQ:∀l:List bD,(l.length:Int)≤av l
 |[]=>by simp [av]
 |s::l=>by
  have:=eQ l
  have:=ku s
  rw [av,List.length_cons]
  omega
def Dn (l:List Ev):List (List PV):=l.map fun e=>[pi e.kind,pi e.at_,pi e.val]
def vG (l:List (Int×Int)):List (List PV):=l.map fun e=>[pi e.1,pi e.2]
def uL (l:List kv):List (List PV):=l.map fun it=>pi it.1::bM it.2
def q6 (l:List Ev):List PV:=(Dn l).flatten
@[simp]theorem N7:q6 []=[]:=rfl
@[simp]theorem qi (a:Ev) (l:List Ev):q6 (a::l)=[pi a.kind,pi a.at_,pi a.val]++q6 l:=by simp [q6,Dn]
theorem aH (a b:List Ev):q6 (a++b)=q6 a++q6 b:=by simp [q6,Dn]
@[simp]theorem TK (l:List Ev):(Dn l).length=l.length:=by simp [Dn]
@[simp]theorem Bp:∀l:List Ev,(q6 l).length=l.length*3
 |[]=>rfl
 |a::l=>by rw [qi,asu,Bp l];simp;omega
@[simp]theorem xe:∀l:List Ev,(q6 l).all uf=true
 |[]=>rfl
 |a::l=>by rw [qi,List.all_append,xe l];simp [uf]
@[simp]theorem acO (l:List Ev):dL (q6 l)=true:=qe (xe l)
def qF (l:List (Int×Int)):List PV:=(vG l).flatten
@[simp]theorem acP:qF []=[]:=rfl
@[simp]theorem zj (a:(Int×Int)) (l:List (Int×Int)):qF (a::l)=[pi a.1,pi a.2]++qF l:=by simp [qF,vG]
theorem aL (a b:List (Int×Int)):qF (a++b)=qF a++qF b:=by simp [qF,vG]
@[simp]theorem TM (l:List (Int×Int)):(vG l).length=l.length:=by simp [vG]
@[simp]theorem Bq:∀l:List (Int×Int),(qF l).length=l.length*2
 |[]=>rfl
 |a::l=>by rw [zj,asu,Bq l];simp;omega
@[simp]theorem xf:∀l:List (Int×Int),(qF l).all uf=true
 |[]=>rfl
 |a::l=>by rw [zj,List.all_append,xf l];simp [uf]
@[simp]theorem acQ (l:List (Int×Int)):dL (qF l)=true:=qe (xf l)
def nN (l:List kv):List PV:=(uL l).flatten
@[simp]theorem acR:nN []=[]:=rfl
@[simp]theorem zk (a:kv) (l:List kv):nN (a::l)=(pi a.1::bM a.2)++nN l:=by simp [nN,uL]
theorem aM (a b:List kv):nN (a++b)=nN a++nN b:=by simp [nN,uL]
@[simp]theorem TN (l:List kv):(uL l).length=l.length:=by simp [uL]
@[simp]theorem Br:∀l:List kv,(nN l).length=l.length*6
 |[]=>rfl
 |a::l=>by rw [zk,asu,Br l];simp;omega
@[simp]theorem sA:∀l:List kv,(nN l).all uf=true
 |[]=>rfl
 |a::l=>by rw [zk,List.all_append,sA l];simp [uf]
@[simp]theorem acS (l:List kv):dL (nN l)=true:=qe (sA l)
theorem JK {w:Int} {V:List Vr} {s:List Int} {e:b9} (hV:aC w V=true) (hS:aO w V s=true) (ok:F3 e) (hf:dA w V 1 e=true) (hn:aB e≤2^30):Fo E O 92 [pi w,lq V,iG s,.agg (ic e)] 3 (nw w V [s] e).length (q6 (nw w V [s] e)):=by
 have:=Fo.ke (f:=92) (args:=[pi w,lq V,iG s,.agg (ic e)]) (rows:=c9 (nw w V [s] e)) (show 0<3 by omega) (fun F H φ vs hw Rv=>by
  cases Rv with|cons a Rv=>
  cases Rv with|cons b Rv=>
  cases Rv with|cons c Rv=>
  cases Rv with|cons d Rv=>
  cases Rv;cases a
  obtain ⟨cs,rfl,hc⟩:=oy (by simp) d
  exact ER hV hS _ e cs H (asA _) hw (lr (Bo b)) (jD (Bo c)) (w9 ok hc) hf hn)
 have e2:∀l:List Ev,(c9 l).flatten.map PV.v=q6 l:=by
  intro l
  induction l with
  |nil=>rfl
  |cons a l ih=>simp_all [c9,Ev.row]
 rw [e2,cO]at this
 exact this
theorem xg:∀(N:Nat) (l:List bD),SizeOf.sizeOf l<N→av l<2^60→Fz E O 120 [.fs 5 (il l)] (pi (ar l)):=by
 intro N
 induction N with
 |zero=>intro l h;omega
 |succ N ih=>
  intro l hN nz
  refine Fz.body (F:=LD) rfl rfl rfl rfl ?_
  simp (maxSteps:=4000000)-implicitDefEqProofs+contextual [-getElem?_pos,asj,LD]
  refine Js (fun i fr h=>h=[]∧fr.get 0= .fs 5 (il l)∧fr.get 4=pi i∧fr.get 3=pi (ar (l.take i))) l.length ?_ ?_
  ·exact ⟨rfl,by simp,by simp,by simp [ar]⟩
  rintro i fr h hi ⟨rfl,f0,f4,f3⟩
  by_cases h:i<l.length
  ·obtain ⟨⟨op,n,args,thn,els⟩,hy⟩:∃y,l[i]?=some y:=⟨_,asl h⟩
   have hs:=mC hy
   have t1:=gv hy
   have t2:=cm l i
   have t3:=aV l i
   have t4:=cm l (i+1)
   have t5:=aV l (i+1)
   have u4:=aQ thn
   have u5:=aQ els
   have hm:=oO (asq hy)
   have gF:=bF els
   have U3:=bF thn
   have hlen:=eQ l
   rw [bw]at t1
   have w1:IntKind.i64.wrap (ar (l.take i)+1)=ar (l.take i)+1:=ai ⟨by omega,by omega⟩
   have w2:IntKind.i64.wrap (ar (l.take i)+1+ar thn)=ar (l.take i)+1+ar thn:=ai ⟨by omega,by omega⟩
   have w3:IntKind.i64.wrap (ar (l.take i)+1+ar thn+ar els)=ar (l.take i)+1+ar thn+ar els:=ai ⟨by omega,by omega⟩
   have w4:IntKind.i64.wrap ((i:Int)+1)=((i+1:Nat):Int):=ai ⟨by omega,by omega⟩
   simp (maxSteps:=4000000)-implicitDefEqProofs+contextual [-getElem?_pos,asj,f0,f4,f3,h,hy,bM,w1]
   refine aN (ih thn (by omega) (by omega)) ?_ ?_ ?_
   iterate 2· simp (maxDischargeDepth:=8)-implicitDefEqProofs [-getElem?_pos,asj]
   simp (maxSteps:=4000000)-implicitDefEqProofs+contextual [-getElem?_pos,asj,w2]
   refine aN (ih els (by omega) (by omega)) ?_ ?_ ?_
   iterate 2· simp (maxDischargeDepth:=8)-implicitDefEqProofs [-getElem?_pos,asj]
   simp (maxSteps:=4000000)-implicitDefEqProofs+contextual [-getElem?_pos,asj,w3,f0,f4,f3,w4]
   refine .for h ⟨rfl,by simp [f0],by simp,by simp;omega⟩
  ·simp (maxSteps:=4000000)-implicitDefEqProofs+contextual [-getElem?_pos,asj,f0,f4,f3,h]
   rw [ass (by omega)]
open Go Go.RowKit
theorem uj:∀(l:List bD) (i:Nat) (k:Int) (s:bD),l[i]?=some s→bK (l.take (i+1)) k=bK (l.take i) k++[(k+ar (l.take i),s)]
 |[],i,k,s,h=>by simp at h
 | .mk op' n' Cp En Eo::l,0,k,s,h=>by
  simp at h
  subst h
  simp [bK,ar]
 | .mk op' n' Cp En Eo::l,i+1,k,s,h=>by
  simp only [List.take_succ_cons,bK,ar,bw]
  rw [uj l i _ s (by simpa using h)]
  simp only [List.cons_append]
  rw [show k+1+ar En+ar Eo+ar (l.take i)=k+(1+ar En+ar Eo+ar (l.take i)) by omega]
@[simp]theorem fI:∀(l:List bD) (k:Int),(bK l k).length=l.length
 |[],k=>rfl
 | .mk _ _ _ _ _::l,k=>by simp [bK,fI l]
theorem xh {l:List bD} {n0:Int} (nz:av l<2^40) (nJ:0≤n0∧n0≤2^40):Fo E O 88 [.fs 5 (il l),pi n0] 6 l.length (nN (bK l n0)):=by
 refine Fo.body (F:=a88) rfl rfl rfl (by simp) (by simp) ?_
 have hlen:=eQ l
 simp (maxSteps:=4000000)-implicitDefEqProofs+contextual [-getElem?_pos,asj,a88]
 refine fu (fun i fr h=>h=[.cells 6 (nN (bK (l.take i) n0))]∧fr.get 0= .fs 5 (il l)∧fr.get 1=pi (n0+ar (l.take i))∧fr.get 5= .sl 6 0 0 i i∧fr.get 6=pi i) l.length (Bf (h2:=[.cells 6 []]) (fun _=>False) id [(0,.fs 5 (il l)),(1,pi n0),(5,.sl 6 0 0 0 0),(6,pi 0)] (iF.id' (by simp)) (by simp)) ?_ ?_
 ·simp [bK,ar]
 rintro i fr h hi ⟨rfl,f0,f1,f5,f6⟩
 by_cases h:i<l.length
 ·obtain ⟨s,hy⟩:∃y,l[i]?=some y:=⟨_,asl h⟩
  have ht:=uj l i n0 s hy
  obtain ⟨op,n,args,thn,els⟩:=s
  have t1:=gv hy
  have t2:=cm l i
  have t3:=aV l i
  have t4:=cm l (i+1)
  have t5:=aV l (i+1)
  have u4:=aQ thn
  have u5:=aQ els
  have hm:=oO (asq hy)
  have gF:=bF els
  have U3:=bF thn
  rw [bw]at t1
  have w1:IntKind.i64.wrap (n0+ar (l.take i)+1)=n0+ar (l.take i)+1:=ai ⟨by omega,by omega⟩
  have w2:IntKind.i64.wrap (n0+ar (l.take i)+1+ar thn)=n0+ar (l.take i)+1+ar thn:=ai ⟨by omega,by omega⟩
  have w3:IntKind.i64.wrap (n0+ar (l.take i)+1+ar thn+ar els)=n0+ar (l.take i)+1+ar thn+ar els:=ai ⟨by omega,by omega⟩
  have w4:IntKind.i64.wrap ((i:Int)+1)=((i+1:Nat):Int):=ai ⟨by omega,by omega⟩
  have qG:(bK (l.take i) n0).length=i:=by simp;omega
  simp (maxSteps:=4000000)-implicitDefEqProofs+contextual [-getElem?_pos,asj,f0,f1,f5,f6,h,hy,bM]
  apply cR
  iterate 9· first|rfl|omega|(simp-implicitDefEqProofs [-getElem?_pos,asj,qG];first|done|rfl|omega)
  simp (maxSteps:=4000000)-implicitDefEqProofs+contextual [-getElem?_pos,asj,f0,f1,f5,f6,h,hy,bM,w1]
  refine aN (xg _ thn (asA _) (by omega)) ?_ ?_ ?_
  iterate 2· simp (maxDischargeDepth:=8)-implicitDefEqProofs [-getElem?_pos,asj]
  simp (maxSteps:=4000000)-implicitDefEqProofs+contextual [-getElem?_pos,asj,w2]
  refine aN (xg _ els (asA _) (by omega)) ?_ ?_ ?_
  iterate 2· simp (maxDischargeDepth:=8)-implicitDefEqProofs [-getElem?_pos,asj]
  simp (maxSteps:=4000000)-implicitDefEqProofs+contextual [-getElem?_pos,asj,w3,f0,f1,f5,f6,w4]
  refine .qb h (Bf (h2:=[.cells 6 (nN (bK (l.take (i+1)) n0))]) (fun _=>False) id [(0,.fs 5 (il l)),(1,pi (n0+ar (l.take i)+1+ar thn+ar els)),(5,.sl 6 0 0 (i+1) (i+1)),(6,pi (i+1:Nat))] (iF.id' ?_) ?_) ?_
  ·rw [ht,aM];simp [bM,aj]
  ·rw [ht,aM];simp [f0,qG,bM]
  ·simp;omega
 ·obtain rfl:i=l.length:=by omega
  simp (maxSteps:=4000000)-implicitDefEqProofs+contextual [-getElem?_pos,asj,f0,f1,f5,f6]
def eR (it:kv):List PV:=pi it.1::bM it.2
theorem JL {k op n:Int} {args:List b9} {thn els:List bD} (nz:av thn<2^40) (hk:0≤k∧k<2^40):Fo E O 127 [.agg (eR (k,.mk op n args thn els))] 6 thn.length (nN (bK thn (k+1))):=by
 refine Fo.body (F:=a127) rfl rfl rfl (by simp) (by simp) ?_
 have w1:IntKind.i64.wrap (k+1)=k+1:=ai ⟨by omega,by omega⟩
 simp (maxSteps:=4000000)-implicitDefEqProofs+contextual [-getElem?_pos,asj,a127,eR,bM,w1]
 refine qf (xh nz (n0:=k+1) (by omega)) ?_ ?_ ?_
 iterate 2· simp (maxDischargeDepth:=8)-implicitDefEqProofs [-getElem?_pos,asj]
 simp (maxSteps:=4000000)-implicitDefEqProofs+contextual [-getElem?_pos,asj]
theorem JM {k op n:Int} {args:List b9} {thn els:List bD} (nz:av els<2^40) (U3:av thn<2^36) (hk:0≤k∧k<2^36):Fo E O 126 [.agg (eR (k,.mk op n args thn els))] 6 els.length (nN (bK els (k+1+ar thn))):=by
 refine Fo.body (F:=LI) rfl rfl rfl (by simp) (by simp) ?_
 have u4:=aQ thn
 have w1:IntKind.i64.wrap (k+1)=k+1:=ai ⟨by omega,by omega⟩
 have w2:IntKind.i64.wrap (k+1+ar thn)=k+1+ar thn:=ai ⟨by omega,by omega⟩
 simp (maxSteps:=4000000)-implicitDefEqProofs+contextual [-getElem?_pos,asj,LI,eR,bM,w1]
 refine aN (xg _ thn (asA _) (by omega)) ?_ ?_ ?_
 iterate 2· simp (maxDischargeDepth:=8)-implicitDefEqProofs [-getElem?_pos,asj]
 simp (maxSteps:=4000000)-implicitDefEqProofs+contextual [-getElem?_pos,asj,w2]
 refine qf (xh nz (n0:=k+1+ar thn) (by omega)) ?_ ?_ ?_
 iterate 2· simp (maxDischargeDepth:=8)-implicitDefEqProofs [-getElem?_pos,asj]
 simp (maxSteps:=4000000)-implicitDefEqProofs+contextual [-getElem?_pos,asj]
def cy (c:ek) (b0 b1 b2 b3:Nat):List PV:=[pi c.en,.sl 1 b0 0 c.store.length c.store.length,.sl 2 b1 0 c.outs.length c.outs.length,.sl 3 b2 0 c.trace.length c.trace.length,pi c.cost,pi c.used,pi c.wh,pi c.fuel,.sl 6 b3 0 c.todo.length c.todo.length,pb c.over]
def fQ (c:ek):PH:=[.cells 1 (c.store.map pi),.cells 2 (qF c.outs),.cells 3 (q6 c.trace),.cells 6 (nN c.todo)]
theorem qj {c:ek} {k a v:Int} (hb:c.trace.length<2^40):fP E O 125 [.agg (cy c 0 1 2 3),pi k,pi a,pi v] (fQ c) (fun r h=>r= .agg (cy {c with trace:=c.trace++[⟨k,a,v⟩]} 0 1 2 3)∧h=fQ {c with trace:=c.trace++[⟨k,a,v⟩]}):=by
 refine fP.body (F:=LH) rfl rfl rfl ?_
 simp (maxSteps:=4000000)-implicitDefEqProofs+contextual [-getElem?_pos,asj,LH,cy,fQ]
 apply cR
 iterate 9· first|rfl|omega|(simp-implicitDefEqProofs [-getElem?_pos,asj];first|done|rfl|omega)
 simp (maxSteps:=4000000)-implicitDefEqProofs+contextual [-getElem?_pos,asj]
 simp only [aH,qi,N7,List.append_nil]
 refine NU (m:=4) ?_ ?_ ?_ ?_
 ·omega
 ·simp
 ·simp (maxDischargeDepth:=8)-implicitDefEqProofs [aj,asj]
 ·simp (maxDischargeDepth:=8)-implicitDefEqProofs [aj,asj]
theorem xi {c:ek} {e n:Int}:fP E O 89 [.agg (cy c 0 1 2 3),pi e,pi n] (fQ c) (fun r h=>r= .agg (cy (dY c e n) 0 1 2 4)∧h=fQ c++[.cells 6 []]):=by
 refine fP.body (F:=a89) rfl rfl rfl ?_
 simp (maxSteps:=4000000)-implicitDefEqProofs+contextual [-getElem?_pos,asj,a89,cy,fQ,dY]
 refine JF (iF.id' ?_) ?_ ?_ (fun b hb=>?_)
 ·simp (maxDischargeDepth:=8)-implicitDefEqProofs [aj,asj]
 ·simp (maxDischargeDepth:=8)-implicitDefEqProofs [aj,asj]
 ·simp
 ·have:b=0∨b=1∨b=2∨b=3:=by omega
  rcases this with rfl|rfl|rfl|rfl<;>simp [c7]
end Go.Proofs.YtppcmpmnglaleaaGreatDoor.A.P
namespace Go.Proofs.YtppcmpmnglaleaaGreatDoor.A.P
open Go Go.RowKit
theorem Dp {p:bf} {c:ek} {op n:Int} {args:List b9} {thn els:List bD} {i a:Int} (hV:aC p.w p.vars=true) (hS:aO p.w p.vars c.store=true) (hn:0≤n∧n<p.vars.length) (hi:0≤i∧i<2^40) (hb:c.trace.length<2^40):
 fP E O 124 [.agg (au p),.agg (cy c 0 1 2 3),.agg (bM (.mk op n args thn els)),pb (decide (1<al p.vars n)),pi i,pi a] (fQ c) (fun r h=>r= .agg (cy (fO p.vars c n i a) 4 1 2 3)∧h=[.dead,.cells 2 (qF c.outs),.cells 3 (q6 (fO p.vars c n i a).trace),.cells 6 (nN c.todo),.cells 1 ((fO p.vars c n i a).store.map pi)]):=by
 have eB:1≤p.w∧p.w≤8:=⟨(aF hV).1,(aF hV).2.1⟩
 have mG:=ny hV hn i
 obtain ⟨x,hx,Gi,zL,AT⟩:=iY eB hS (i:=bk p.vars n+i%al p.vars n) (by omega)
 have c8:=(asr.1 hx).1
 obtain ⟨y,hy⟩:∃y,p.vars[n.toNat]?=some y:=⟨_,asl (by omega)⟩
 have AU:al p.vars n=y.cells:=by simp [al,hy]
 have y0:¬ y.cells=0:=by omega
 have rn:=iB (a:=i) (b:=y.cells) hi.1
 rw [if_neg y0]at rn
 have ot:c.store.length≤2^40:=by
  simp only [aO,aso,asx]at hS
  have:=(iC hV).2.2
  omega
 obtain ⟨k,hk⟩:∃k:Nat,(k:Int)=bk p.vars n+i%al p.vars n:=⟨(bk p.vars n+i%al p.vars n).toNat,by omega⟩
 refine fP.body (F:=a124) rfl rfl rfl ?_
 simp (maxSteps:=4000000)-implicitDefEqProofs+contextual [-getElem?_pos,asj,a124,cy,fQ,au,bM]
 refine aN (aiN hV hn hi) ?_ ?_ ?_
 iterate 2· simp (maxDischargeDepth:=8)-implicitDefEqProofs [-getElem?_pos,asj]
 simp (maxSteps:=4000000)-implicitDefEqProofs+contextual [-getElem?_pos,asj]
 rw [←hk]
 refine TC [0] (ZK ot (k:=k) (a:=a) (by omega)) ?_ ?_
 ·simp (maxDischargeDepth:=8)-implicitDefEqProofs [-getElem?_pos,asj]
 simp (maxSteps:=4000000)-implicitDefEqProofs+contextual [-getElem?_pos,asj,bO,hn.1,hn.2,hy,zh,I3,rn]
 have EV:(bk p.vars n+i%al p.vars n).toNat=k:=by omega
 have aqG:(c.store.set (bk p.vars n+i%al p.vars n).toNat a).map pi=(c.store.map pi).set k (pi a):=by rw [List.map_set,EV]
 refine yr (fun h1=>?_) (fun h1=>?_)
 ·refine de [8,1,2,3] [] (qj (c:={c with store:=c.store.set k a}) (k:=2) (a:=n) (v:=i%y.cells) hb) ?_ ?_ ?_ ?_ ?_ ?_ ?_
  iterate 6· first|rfl|simp (maxDischargeDepth:=8)-implicitDefEqProofs [-getElem?_pos,asj,aj,fQ,cy]
  rintro r0 fF ⟨rfl,rfl⟩ _
  have JN:fO p.vars c n i a={c with store:=c.store.set (bk p.vars n+i%al p.vars n).toNat a,trace:=c.trace++[⟨2,n,i%al p.vars n⟩]}:=by simp [fO,h1]
  rw [JN,EV,AU]
  simp (maxSteps:=4000000)-implicitDefEqProofs+contextual [-getElem?_pos,asj,cy,fQ,bO]
  refine bQ [8] ?_ ?_ ?_ (fun b hb=>?_) ?_ ?_
  iterate 3· simp
  ·have:b=0∨b=1∨b=2∨b=3:=by omega
   rcases this with rfl|rfl|rfl|rfl<;>simp [bX]<;>omega
  iterate 2· simp (maxDischargeDepth:=8)-implicitDefEqProofs [aj,asj]
 ·have JN:fO p.vars c n i a={c with store:=c.store.set (bk p.vars n+i%al p.vars n).toNat a}:=by simp [fO,h1]
  rw [JN,EV]
  simp (maxSteps:=4000000)-implicitDefEqProofs+contextual [-getElem?_pos,asj]
  refine bQ [8] ?_ ?_ ?_ (fun b hb=>?_) ?_ ?_
  iterate 3· simp
  ·have:b=0∨b=1∨b=2∨b=3:=by omega
   rcases this with rfl|rfl|rfl|rfl<;>simp [bX]<;>omega
  iterate 2· simp (maxDischargeDepth:=8)-implicitDefEqProofs [aj,asj]
open Go Go.RowKit
def TO (c:ek) (r:PV) (h:PH):Prop:=
 (r= .agg (cy c 0 1 2 3)∧h=[.cells 1 (c.store.map pi),.cells 2 (qF c.outs),.cells 3 (q6 c.trace),.cells 6 (nN c.todo)])∨
 (r= .agg (cy c 4 1 2 3)∧h=[.dead,.cells 2 (qF c.outs),.cells 3 (q6 c.trace),.cells 6 (nN c.todo),.cells 1 (c.store.map pi)])∨
 (r= .agg (cy c 0 1 2 4)∧h=[.cells 1 (c.store.map pi),.cells 2 (qF c.outs),.cells 3 (q6 c.trace),.dead,.cells 6 (nN c.todo)])
@[simp]theorem VG (V:List Vr) (c:ek) (n i a:Int):(fO V c n i a).outs=c.outs:=rfl
@[simp]theorem VH (V:List Vr) (c:ek) (n i a:Int):(fO V c n i a).todo=c.todo:=rfl
@[simp]theorem Qc (c:ek) (e n:Int):(dY c e n).store=c.store:=rfl
@[simp]theorem TP (c:ek) (e n:Int):(dY c e n).outs=c.outs:=rfl
@[simp]theorem Qd (c:ek) (e n:Int):(dY c e n).trace=c.trace:=rfl
@[simp]theorem TQ (c:ek) (e n:Int):(dY c e n).todo=[]:=rfl
section
variable{p:bf} {ps:List Int} {c:ek} {k n:Int} {args:List b9} {thn els:List bD} {next:List kv}
theorem N8 {vals:List Int} (hV:aC p.w p.vars=true) (hS:aO p.w p.vars c.store=true) (hb:c.trace.length<2^40) (hn:0≤n∧n<p.vars.length)
 (hl:(¬ 1<al p.vars n∧∃a,vals=[a])∨(1<al p.vars n∧∃a b,vals=[a,b])) (hw:∀a∈vals,0≤a∧a<2^40):
 fP E O 93 [.agg (au p),iG ps,.agg (cy c 0 1 2 3),.agg (eR (k,.mk 0 n args thn els)),iG vals,.fs 6 (uL next)] (fQ c) (TO (cL p ps c k (.mk 0 n args thn els) vals next)):=by
 refine fP.body (F:=a93) rfl rfl rfl ?_
 rcases hl with⟨h1,a,rfl⟩|⟨h1,a,b,rfl⟩
 ·have e:cL p ps c k (.mk 0 n args thn els) [a] next=fO p.vars c n 0 a:=by simp [cL,h1,ei]
  rw [e]
  simp (maxSteps:=4000000)-implicitDefEqProofs+contextual [-getElem?_pos,asj,a93,cy,fQ,au,eR,bM,ir]
  refine de [0,1,2,3] [] (Dp (op:=0) (args:=args) (thn:=thn) (els:=els) (i:=0) (a:=a) hV hS hn (by omega) hb) ?_ ?_ ?_ ?_ ?_ ?_ ?_
  iterate 6· first|rfl|simp (maxDischargeDepth:=8)-implicitDefEqProofs [-getElem?_pos,asj,aj,fQ,cy,au,bM,h1]
  rintro r0 fF ⟨rfl,rfl⟩ _
  simp (maxSteps:=4000000)-implicitDefEqProofs+contextual [-getElem?_pos,asj,cy,fQ,bO]
  refine ⟨_,_,?_,.inr (.inl ⟨rfl,rfl⟩)⟩
  refine bQ [9] ?_ ?_ ?_ (fun b hb=>?_) ?_ ?_
  iterate 3· simp
  ·have:b=0∨b=1∨b=2∨b=3:=by omega
   rcases this with rfl|rfl|rfl|rfl<;>simp [bX,cy,aL,aH,aM,bM]<;>omega
  iterate 2· simp (maxDischargeDepth:=8)-implicitDefEqProofs [aj,asj,cy,aL,aH,aM,bM]
 ·have ha:=hw a (by simp)
  have e:cL p ps c k (.mk 0 n args thn els) [a,b] next=fO p.vars c n a b:=by simp [cL,h1,ei]
  rw [e]
  simp (maxSteps:=4000000)-implicitDefEqProofs+contextual [-getElem?_pos,asj,a93,cy,fQ,au,eR,bM,ir]
  refine de [0,1,2,3] [] (Dp (op:=0) (args:=args) (thn:=thn) (els:=els) (i:=a) (a:=b) hV hS hn ha hb) ?_ ?_ ?_ ?_ ?_ ?_ ?_
  iterate 6· first|rfl|simp (maxDischargeDepth:=8)-implicitDefEqProofs [-getElem?_pos,asj,aj,fQ,cy,au,bM,h1]
  rintro r0 fF ⟨rfl,rfl⟩ _
  simp (maxSteps:=4000000)-implicitDefEqProofs+contextual [-getElem?_pos,asj,cy,fQ,bO]
  refine ⟨_,_,?_,.inr (.inl ⟨rfl,rfl⟩)⟩
  refine bQ [9] ?_ ?_ ?_ (fun b hb=>?_) ?_ ?_
  iterate 3· simp
  ·have:b=0∨b=1∨b=2∨b=3:=by omega
   rcases this with rfl|rfl|rfl|rfl<;>simp [bX,cy,aL,aH,aM,bM]<;>omega
  iterate 2· simp (maxDischargeDepth:=8)-implicitDefEqProofs [aj,asj,cy,aL,aH,aM,bM]
theorem N9 {a:Int} (hb:c.outs.length<2^40):
 fP E O 93 [.agg (au p),iG ps,.agg (cy c 0 1 2 3),.agg (eR (k,.mk 3 n args thn els)),iG [a],.fs 6 (uL next)] (fQ c) (TO (cL p ps c k (.mk 3 n args thn els) [a] next)):=by
 refine fP.body (F:=a93) rfl rfl rfl ?_
 have e:cL p ps c k (.mk 3 n args thn els) [a] next={c with outs:=c.outs++[(n,a)]}:=by simp [cL,ei]
 rw [e]
 simp (maxSteps:=4000000)-implicitDefEqProofs+contextual [-getElem?_pos,asj,a93,cy,fQ,au,eR,bM,ir]
 apply cR
 iterate 9· first|rfl|omega|(simp-implicitDefEqProofs [-getElem?_pos,asj];first|done|rfl|omega)
 simp (maxSteps:=4000000)-implicitDefEqProofs+contextual [-getElem?_pos,asj]
 refine ⟨_,_,?_,.inl ⟨rfl,rfl⟩⟩
 refine bQ [] ?_ ?_ ?_ (fun b hb=>?_) ?_ ?_
 iterate 3· simp
 ·have:b=0∨b=1∨b=2∨b=3:=by omega
  rcases this with rfl|rfl|rfl|rfl<;>simp [bX,cy,aL,aH,aM,bM]<;>omega
 iterate 2· simp (maxDischargeDepth:=8)-implicitDefEqProofs [aj,asj,cy,aL,aH,aM,bM]
theorem JO {op a:Int} (ho:op=5∨op=6):
 fP E O 93 [.agg (au p),iG ps,.agg (cy c 0 1 2 3),.agg (eR (k,.mk op n args thn els)),iG [a],.fs 6 (uL next)] (fQ c) (TO (cL p ps c k (.mk op n args thn els) [a] next)):=by
 refine fP.body (F:=a93) rfl rfl rfl ?_
 rcases ho with rfl|rfl
 ·by_cases q:a=0
  ·have e:cL p ps c k (.mk 5 n args thn els) [a] next=dY c 1 k:=by simp [cL,ei,q]
   rw [e]
   simp (maxSteps:=4000000)-implicitDefEqProofs+contextual [-getElem?_pos,asj,a93,cy,fQ,au,eR,bM,ir,q]
   refine de [0,1,2,3] [] (xi (c:=c) (e:=1) (n:=k)) ?_ ?_ ?_ ?_ ?_ ?_ ?_
   iterate 6· first|rfl|simp (maxDischargeDepth:=8)-implicitDefEqProofs [-getElem?_pos,asj,aj,fQ,cy]
   rintro r0 fF ⟨rfl,rfl⟩ _
   simp (maxSteps:=4000000)-implicitDefEqProofs+contextual [-getElem?_pos,asj,cy,fQ,bO]
   refine ⟨_,_,?_,.inr (.inr ⟨rfl,rfl⟩)⟩
   refine bQ [9] ?_ ?_ ?_ (fun b hb=>?_) ?_ ?_
   iterate 3· simp
   ·have:b=0∨b=1∨b=2∨b=3:=by omega
    rcases this with rfl|rfl|rfl|rfl<;>simp [bX,cy,aL,aH,aM,bM]<;>omega
   iterate 2· simp (maxDischargeDepth:=8)-implicitDefEqProofs [aj,asj,cy,aL,aH,aM,bM]
  ·have e:cL p ps c k (.mk 5 n args thn els) [a] next=c:=by simp [cL,ei,q]
   rw [e]
   simp (maxSteps:=4000000)-implicitDefEqProofs+contextual [-getElem?_pos,asj,a93,cy,fQ,au,eR,bM,ir,q]
   refine ⟨_,_,?_,.inl ⟨rfl,rfl⟩⟩
   refine bQ [] ?_ ?_ ?_ (fun b hb=>?_) ?_ ?_
   iterate 3· simp
   ·have:b=0∨b=1∨b=2∨b=3:=by omega
    rcases this with rfl|rfl|rfl|rfl<;>simp [bX,cy,aL,aH,aM,bM]<;>omega
   iterate 2· simp (maxDischargeDepth:=8)-implicitDefEqProofs [aj,asj,cy,aL,aH,aM,bM]
 ·by_cases q:a=0
  ·have e:cL p ps c k (.mk 6 n args thn els) [a] next=dY c 2 k:=by simp [cL,ei,q]
   rw [e]
   simp (maxSteps:=4000000)-implicitDefEqProofs+contextual [-getElem?_pos,asj,a93,cy,fQ,au,eR,bM,ir,q]
   refine de [0,1,2,3] [] (xi (c:=c) (e:=2) (n:=k)) ?_ ?_ ?_ ?_ ?_ ?_ ?_
   iterate 6· first|rfl|simp (maxDischargeDepth:=8)-implicitDefEqProofs [-getElem?_pos,asj,aj,fQ,cy]
   rintro r0 fF ⟨rfl,rfl⟩ _
   simp (maxSteps:=4000000)-implicitDefEqProofs+contextual [-getElem?_pos,asj,cy,fQ,bO]
   refine ⟨_,_,?_,.inr (.inr ⟨rfl,rfl⟩)⟩
   refine bQ [9] ?_ ?_ ?_ (fun b hb=>?_) ?_ ?_
   iterate 3· simp
   ·have:b=0∨b=1∨b=2∨b=3:=by omega
    rcases this with rfl|rfl|rfl|rfl<;>simp [bX,cy,aL,aH,aM,bM]<;>omega
   iterate 2· simp (maxDischargeDepth:=8)-implicitDefEqProofs [aj,asj,cy,aL,aH,aM,bM]
  ·have e:cL p ps c k (.mk 6 n args thn els) [a] next=c:=by simp [cL,ei,q]
   rw [e]
   simp (maxSteps:=4000000)-implicitDefEqProofs+contextual [-getElem?_pos,asj,a93,cy,fQ,au,eR,bM,ir,q]
   refine ⟨_,_,?_,.inl ⟨rfl,rfl⟩⟩
   refine bQ [] ?_ ?_ ?_ (fun b hb=>?_) ?_ ?_
   iterate 3· simp
   ·have:b=0∨b=1∨b=2∨b=3:=by omega
    rcases this with rfl|rfl|rfl|rfl<;>simp [bX,cy,aL,aH,aM,bM]<;>omega
   iterate 2· simp (maxDischargeDepth:=8)-implicitDefEqProofs [aj,asj,cy,aL,aH,aM,bM]
theorem JP {vals:List Int} (hV:aC p.w p.vars=true) (hS:aO p.w p.vars c.store=true) (hb:c.trace.length<2^40) (hn:0≤n∧n<p.vars.length) (hp:ps.length<2^40)
 (hl:(¬ 1<al p.vars n∧vals=[])∨(1<al p.vars n∧∃a,vals=[a])) (hw:∀a∈vals,0≤a∧a<2^40):
 fP E O 93 [.agg (au p),iG ps,.agg (cy c 0 1 2 3),.agg (eR (k,.mk 4 n args thn els)),iG vals,.fs 6 (uL next)] (fQ c) (TO (cL p ps c k (.mk 4 n args thn els) vals next)):=by
 refine fP.body (F:=a93) rfl rfl rfl ?_
 by_cases hu:ps.length≤c.used
 ·have e:cL p ps c k (.mk 4 n args thn els) vals next=dY c 4 k:=by simp [cL,hu]
  rw [e]
  simp (maxSteps:=4000000)-implicitDefEqProofs+contextual [-getElem?_pos,asj,a93,cy,fQ,au,eR,bM,hu]
  refine de [0,1,2,3] [] (xi (c:=c) (e:=4) (n:=k)) ?_ ?_ ?_ ?_ ?_ ?_ ?_
  iterate 6· first|rfl|simp (maxDischargeDepth:=8)-implicitDefEqProofs [-getElem?_pos,asj,aj,fQ,cy]
  rintro r0 fF ⟨rfl,rfl⟩ _
  simp (maxSteps:=4000000)-implicitDefEqProofs+contextual [-getElem?_pos,asj,cy,fQ,bO]
  refine ⟨_,_,?_,.inr (.inr ⟨rfl,rfl⟩)⟩
  refine bQ [9] ?_ ?_ ?_ (fun b hb=>?_) ?_ ?_
  iterate 3· simp
  ·have:b=0∨b=1∨b=2∨b=3:=by omega
   rcases this with rfl|rfl|rfl|rfl<;>simp [bX,cy,aL,aH,aM,bM]<;>omega
  iterate 2· simp (maxDischargeDepth:=8)-implicitDefEqProofs [aj,asj,cy,aL,aH,aM,bM]
 ·obtain ⟨x,hx⟩:∃x,ps[c.used]?=some x:=⟨_,asl (by omega)⟩
  have hxa:ei ps c.used=x:=by simp [ei,hx]
  have w1:IntKind.i64.wrap ((c.used:Int)+1)=(c.used:Int)+1:=ai ⟨by omega,by omega⟩
  have w2:IntKind.i64.wrap (c.used:Int)=(c.used:Int):=ai ⟨by omega,by omega⟩
  have c8:c.used<ps.length:=by omega
  rcases hl with⟨h1,rfl⟩|⟨h1,a,rfl⟩
  ·have e:cL p ps c k (.mk 4 n args thn els) [] next=fO p.vars {c with used:=c.used+1} n 0 x:=by simp [cL,h1,hu,hxa]
   rw [e]
   simp (maxSteps:=4000000)-implicitDefEqProofs+contextual [-getElem?_pos,asj,a93,cy,fQ,au,eR,bM,hu,w1,w2,c8,JG,hx]
   refine de [0,1,2,3] [] (Dp (c:={c with used:=c.used+1}) (op:=4) (args:=args) (thn:=thn) (els:=els) (i:=0) (a:=x) hV hS hn (by omega) hb) ?_ ?_ ?_ ?_ ?_ ?_ ?_
   iterate 6· first|rfl|simp (maxDischargeDepth:=8)-implicitDefEqProofs [-getElem?_pos,asj,aj,fQ,cy,au,bM,h1]
   rintro r0 fF ⟨rfl,rfl⟩ _
   simp (maxSteps:=4000000)-implicitDefEqProofs+contextual [-getElem?_pos,asj,cy,fQ,bO]
   refine ⟨_,_,?_,.inr (.inl ⟨rfl,rfl⟩)⟩
   refine bQ [9] ?_ ?_ ?_ (fun b hb=>?_) ?_ ?_
   iterate 3· simp
   ·have:b=0∨b=1∨b=2∨b=3:=by omega
    rcases this with rfl|rfl|rfl|rfl<;>simp [bX,cy,aL,aH,aM,bM]<;>omega
   iterate 2· simp (maxDischargeDepth:=8)-implicitDefEqProofs [aj,asj,cy,aL,aH,aM,bM]
  ·have ha:=hw a (by simp)
   have e:cL p ps c k (.mk 4 n args thn els) [a] next=fO p.vars {c with used:=c.used+1} n a x:=by simp [cL,h1,hu,ei,hx]
   rw [e]
   simp (maxSteps:=4000000)-implicitDefEqProofs+contextual [-getElem?_pos,asj,a93,cy,fQ,au,eR,bM,hu,w1,w2,c8,JG,hx]
   refine de [0,1,2,3] [] (Dp (c:={c with used:=c.used+1}) (op:=4) (args:=args) (thn:=thn) (els:=els) (i:=a) (a:=x) hV hS hn ha hb) ?_ ?_ ?_ ?_ ?_ ?_ ?_
   iterate 6· first|rfl|simp (maxDischargeDepth:=8)-implicitDefEqProofs [-getElem?_pos,asj,aj,fQ,cy,au,bM,h1]
   rintro r0 fF ⟨rfl,rfl⟩ _
   simp (maxSteps:=4000000)-implicitDefEqProofs+contextual [-getElem?_pos,asj,cy,fQ,bO]
   refine ⟨_,_,?_,.inr (.inl ⟨rfl,rfl⟩)⟩
   refine bQ [9] ?_ ?_ ?_ (fun b hb=>?_) ?_ ?_
   iterate 3· simp
   ·have:b=0∨b=1∨b=2∨b=3:=by omega
    rcases this with rfl|rfl|rfl|rfl<;>simp [bX,cy,aL,aH,aM,bM]<;>omega
   iterate 2· simp (maxDischargeDepth:=8)-implicitDefEqProofs [aj,asj,cy,aL,aH,aM,bM]
end
end Go.Proofs.YtppcmpmnglaleaaGreatDoor.A.P
namespace Go.Proofs.YtppcmpmnglaleaaGreatDoor.A.P
open Go Go.RowKit
theorem jf (l:List kv):(uL l).take l.length=uL l:=ass (by simp)
theorem jg (l:List kv):(uL l).flatten=nN l:=rfl
set_option maxHeartbeats 1000000
section
variable{p:bf} {ps:List Int} {c:ek} {k n:Int} {args:List b9} {thn els:List bD} {next:List kv}
theorem TR {a:Int} (hb:c.trace.length<2^40) (hx:next.length<2^35) (ht:av thn<2^30) (he:av els<2^30) (hk:0≤k∧k<2^30):
 fP E O 93 [.agg (au p),iG ps,.agg (cy c 0 1 2 3),.agg (eR (k,.mk 1 n args thn els)),iG [a],.fs 6 (uL next)] (fQ c) (TO (cL p ps c k (.mk 1 n args thn els) [a] next)):=by
 have l1:=eQ thn
 have l2:=eQ els
 refine fP.body (F:=a93) rfl rfl rfl ?_
 by_cases q:a=0
 ·have e:cL p ps c k (.mk 1 n args thn els) [a] next={c with trace:=c.trace++[⟨0,k,0⟩],todo:=bK els (k+1+ar thn)++next}:=by simp [cL,ei,q]
  rw [e]
  simp (maxSteps:=4000000)-implicitDefEqProofs+contextual [-getElem?_pos,asj,a93,cy,fQ,eR,bM,ir,q]
  refine aN (Dl false) ?_ ?_ ?_
  iterate 2· simp (maxDischargeDepth:=8)-implicitDefEqProofs [-getElem?_pos,asj]
  simp (maxSteps:=4000000)-implicitDefEqProofs+contextual [-getElem?_pos,asj]
  refine de [0,1,2,3] [] (qj (c:=c) (k:=0) (a:=k) (v:=0) hb) ?_ ?_ ?_ ?_ ?_ ?_ ?_
  iterate 6· first|rfl|simp (maxDischargeDepth:=8)-implicitDefEqProofs [-getElem?_pos,asj,aj,fQ,cy]
  rintro r0 fF ⟨rfl,rfl⟩ _
  simp (maxSteps:=4000000)-implicitDefEqProofs+contextual [-getElem?_pos,asj,cy,fQ,bO]
  refine qf (JM (k:=k) (op:=1) (n:=n) (args:=args) (thn:=thn) (els:=els) (by omega) (by omega) (by omega)) ?_ ?_ ?_
  iterate 2· simp (maxDischargeDepth:=8)-implicitDefEqProofs [-getElem?_pos,asj,eR,bM]
  simp (maxSteps:=4000000)-implicitDefEqProofs+contextual [-getElem?_pos,asj]
  apply cR
  iterate 9· first|rfl|omega|(simp-implicitDefEqProofs [-getElem?_pos,asj,jf,jg];first|done|rfl|omega)
  simp (maxSteps:=4000000)-implicitDefEqProofs+contextual [-getElem?_pos,asj,jf,jg,ir,q]
  refine ⟨_,_,?_,.inr (.inr ⟨rfl,rfl⟩)⟩
  refine bQ [9] ?_ ?_ ?_ (fun b hb=>?_) ?_ ?_
  iterate 3· simp
  ·have:b=0∨b=1∨b=2∨b=3:=by omega
   rcases this with rfl|rfl|rfl|rfl<;>simp [bX,cy,aL,aH,aM,bM]<;>omega
  iterate 2· simp (maxDischargeDepth:=8)-implicitDefEqProofs [aj,asj,cy,aL,aH,aM,bM]
 ·have e:cL p ps c k (.mk 1 n args thn els) [a] next={c with trace:=c.trace++[⟨0,k,1⟩],todo:=bK thn (k+1)++next}:=by simp [cL,ei,q]
  rw [e]
  simp (maxSteps:=4000000)-implicitDefEqProofs+contextual [-getElem?_pos,asj,a93,cy,fQ,eR,bM,ir,q]
  refine aN (Dl true) ?_ ?_ ?_
  iterate 2· simp (maxDischargeDepth:=8)-implicitDefEqProofs [-getElem?_pos,asj]
  simp (maxSteps:=4000000)-implicitDefEqProofs+contextual [-getElem?_pos,asj]
  refine de [0,1,2,3] [] (qj (c:=c) (k:=0) (a:=k) (v:=1) hb) ?_ ?_ ?_ ?_ ?_ ?_ ?_
  iterate 6· first|rfl|simp (maxDischargeDepth:=8)-implicitDefEqProofs [-getElem?_pos,asj,aj,fQ,cy]
  rintro r0 fF ⟨rfl,rfl⟩ _
  simp (maxSteps:=4000000)-implicitDefEqProofs+contextual [-getElem?_pos,asj,cy,fQ,bO]
  refine qf (JM (k:=k) (op:=1) (n:=n) (args:=args) (thn:=thn) (els:=els) (by omega) (by omega) (by omega)) ?_ ?_ ?_
  iterate 2· simp (maxDischargeDepth:=8)-implicitDefEqProofs [-getElem?_pos,asj,eR,bM]
  simp (maxSteps:=4000000)-implicitDefEqProofs+contextual [-getElem?_pos,asj]
  apply cR
  iterate 9· first|rfl|omega|(simp-implicitDefEqProofs [-getElem?_pos,asj,jf,jg];first|done|rfl|omega)
  simp (maxSteps:=4000000)-implicitDefEqProofs+contextual [-getElem?_pos,asj,jf,jg,ir,q]
  refine qf (JL (k:=k) (op:=1) (n:=n) (args:=args) (thn:=thn) (els:=els) (by omega) (by omega)) ?_ ?_ ?_
  iterate 2· simp (maxDischargeDepth:=8)-implicitDefEqProofs [-getElem?_pos,asj,eR,bM]
  simp (maxSteps:=4000000)-implicitDefEqProofs+contextual [-getElem?_pos,asj]
  apply cR
  iterate 9· first|rfl|omega|(simp-implicitDefEqProofs [-getElem?_pos,asj,jf,jg];first|done|rfl|omega)
  simp (maxSteps:=4000000)-implicitDefEqProofs+contextual [-getElem?_pos,asj,jf,jg,ir,q]
  refine ⟨_,_,?_,.inr (.inr ⟨rfl,rfl⟩)⟩
  refine bQ [10] ?_ ?_ ?_ (fun b hb=>?_) ?_ ?_
  iterate 3· simp
  ·have:b=0∨b=1∨b=2∨b=3:=by omega
   rcases this with rfl|rfl|rfl|rfl<;>simp [bX,cy,aL,aH,aM,bM]<;>omega
  iterate 2· simp (maxDischargeDepth:=8)-implicitDefEqProofs [aj,asj,cy,aL,aH,aM,bM]
theorem Fg {a:Int} (IQ:c.todo=next) (hb:c.trace.length<2^40) (hx:next.length<2^35) (ht:av thn<2^30) (hk:0≤k∧k<2^30):
 fP E O 93 [.agg (au p),iG ps,.agg (cy c 0 1 2 3),.agg (eR (k,.mk 2 n args thn els)),iG [a],.fs 6 (uL next)] (fQ c) (TO (cL p ps c k (.mk 2 n args thn els) [a] next)):=by
 have l1:=eQ thn
 have hl9:thn.length+1+next.length=thn.length+(next.length+1):=by omega
 refine fP.body (F:=a93) rfl rfl rfl ?_
 by_cases q:a=0
 ·have e:cL p ps c k (.mk 2 n args thn els) [a] next={c with trace:=c.trace++[⟨0,k,0⟩]}:=by simp [cL,ei,q,IQ]
  rw [e]
  simp (maxSteps:=4000000)-implicitDefEqProofs+contextual [-getElem?_pos,asj,a93,cy,fQ,eR,bM,ir,q]
  refine aN (Dl false) ?_ ?_ ?_
  iterate 2· simp (maxDischargeDepth:=8)-implicitDefEqProofs [-getElem?_pos,asj]
  simp (maxSteps:=4000000)-implicitDefEqProofs+contextual [-getElem?_pos,asj]
  refine de [0,1,2,3] [] (qj (c:=c) (k:=0) (a:=k) (v:=0) hb) ?_ ?_ ?_ ?_ ?_ ?_ ?_
  iterate 6· first|rfl|simp (maxDischargeDepth:=8)-implicitDefEqProofs [-getElem?_pos,asj,aj,fQ,cy]
  rintro r0 fF ⟨rfl,rfl⟩ _
  simp (maxSteps:=4000000)-implicitDefEqProofs+contextual [-getElem?_pos,asj,cy,fQ,bO,ir,q]
  refine ⟨_,_,?_,.inl ⟨rfl,rfl⟩⟩
  refine bQ [] ?_ ?_ ?_ (fun b hb=>?_) ?_ ?_
  iterate 3· simp
  ·have:b=0∨b=1∨b=2∨b=3:=by omega
   rcases this with rfl|rfl|rfl|rfl<;>simp [bX,cy,aL,aH,aM,bM]<;>omega
  iterate 2· simp (maxDischargeDepth:=8)-implicitDefEqProofs [aj,asj,cy,aL,aH,aM,bM]
 ·have e:cL p ps c k (.mk 2 n args thn els) [a] next={c with trace:=c.trace++[⟨0,k,1⟩],todo:=bK thn (k+1)++(k,.mk 2 n args thn els)::next}:=by simp [cL,ei,q]
  rw [e]
  simp (maxSteps:=4000000)-implicitDefEqProofs+contextual [-getElem?_pos,asj,a93,cy,fQ,eR,bM,ir,q]
  refine aN (Dl true) ?_ ?_ ?_
  iterate 2· simp (maxDischargeDepth:=8)-implicitDefEqProofs [-getElem?_pos,asj]
  simp (maxSteps:=4000000)-implicitDefEqProofs+contextual [-getElem?_pos,asj]
  refine de [0,1,2,3] [] (qj (c:=c) (k:=0) (a:=k) (v:=1) hb) ?_ ?_ ?_ ?_ ?_ ?_ ?_
  iterate 6· first|rfl|simp (maxDischargeDepth:=8)-implicitDefEqProofs [-getElem?_pos,asj,aj,fQ,cy]
  rintro r0 fF ⟨rfl,rfl⟩ _
  simp (maxSteps:=4000000)-implicitDefEqProofs+contextual [-getElem?_pos,asj,cy,fQ,bO,ir,q]
  refine qf (JL (k:=k) (op:=2) (n:=n) (args:=args) (thn:=thn) (els:=els) (by omega) (by omega)) ?_ ?_ ?_
  iterate 2· simp (maxDischargeDepth:=8)-implicitDefEqProofs [-getElem?_pos,asj,eR,bM]
  simp (maxSteps:=4000000)-implicitDefEqProofs+contextual [-getElem?_pos,asj]
  apply cR
  iterate 9· first|rfl|omega|(simp-implicitDefEqProofs [-getElem?_pos,asj];first|done|rfl|omega)
  simp (maxSteps:=4000000)-implicitDefEqProofs+contextual [-getElem?_pos,asj]
  apply cR
  iterate 9· first|rfl|omega|(simp-implicitDefEqProofs [-getElem?_pos,asj,jf,jg];first|done|rfl|omega)
  simp (maxSteps:=4000000)-implicitDefEqProofs+contextual [-getElem?_pos,asj,jf,jg,ir,q]
  refine ⟨_,_,?_,.inr (.inr ⟨rfl,rfl⟩)⟩
  refine bQ [10] ?_ ?_ ?_ (fun b hb=>?_) ?_ ?_
  iterate 3· simp
  ·have:b=0∨b=1∨b=2∨b=3:=by omega
   rcases this with rfl|rfl|rfl|rfl<;>simp [bX,cy,aL,aH,aM,bM,hl9]<;>omega
  iterate 2· simp (maxDischargeDepth:=8)-implicitDefEqProofs [aj,asj,cy,aL,aH,aM,bM,hl9]
end
end Go.Proofs.YtppcmpmnglaleaaGreatDoor.A.P
namespace Go.Proofs.YtppcmpmnglaleaaGreatDoor.A.P
open Go Go.RowKit
section
variable{A:Nat→Prop} {σ:Nat→Nat} {h bs:PH}
@[simp]theorem aiO {b:Nat} {l:List (Int×Int)} (hA:A b) (hb:h[b]?=some (.cells 2 (qF l))):Vg A σ h bs (.sl 2 b 0 l.length l.length) (.fs 2 (vG l))↔True:=⟨fun _=>trivial,fun _=>qV (nE hA hb (by decide) (by simp) (by unfold vG;intro r hr;obtain ⟨x,_,rfl⟩:=List.mem_map.1 hr;simp) (kC (xf l)))⟩
@[simp]theorem aiP {b:Nat} {l:List Ev} (hA:A b) (hb:h[b]?=some (.cells 3 (q6 l))):Vg A σ h bs (.sl 3 b 0 l.length l.length) (.fs 3 (Dn l))↔True:=⟨fun _=>trivial,fun _=>qV (nE hA hb (by decide) (by simp) (by simp [Dn]) (kC (xe l)))⟩
@[simp]theorem aiQ {b:Nat} {l:List kv} (hA:A b) (hb:h[b]?=some (.cells 6 (nN l))):Vg A σ h bs (.sl 6 b 0 l.length l.length) (.fs 6 (uL l))↔True:=⟨fun _=>trivial,fun _=>qV (nE hA hb (by decide) (by simp) (by unfold uL;intro r hr;obtain ⟨x,_,rfl⟩:=List.mem_map.1 hr;simp) (kC (sA l)))⟩
@[simp]theorem alV (b:Nat):qw b↔True:=Iff.rfl
def Bs:Option PB→List kv→Prop
 |some (.cells z cs),l=>z=6∧cs.drop 6=nN l∧cs.length=l.length*6+6
 |_,_=>False
@[simp]theorem aiR (z:Nat) (cs:List PV) (l:List kv):Bs (some (.cells z cs)) l↔z=6∧cs.drop 6=nN l∧cs.length=l.length*6+6:=Iff.rfl
@[simp]theorem Oa {b:Nat} {l:List kv} (hA:A b) (hb:Bs h[b]? l):Vg A σ h bs (.sl 6 b 1 l.length l.length) (.fs 6 (uL l))↔True:=⟨fun _=>trivial,fun _=>by
 cases e:h[b]? with
 |none=>rw [e]at hb;exact hb.elim
 |some P=>
  cases P with
  |cells z cs=>
   rw [e]at hb
   obtain ⟨rfl,h1,h2⟩:=hb
   refine qV (Dc hA e (by omega) (by decide) (asp _) (asp _) (by simp) (by unfold uL;intro r hr;obtain ⟨x,_,rfl⟩:=List.mem_map.1 hr;simp) ?_)
   have:(cs.drop (1*6)).take (l.length*6)=(uL l).flatten:=by
    rw [Nat.one_mul,h1]
    exact ass (by simp)
   rw [this]
   exact kC (sA l)
  |_=>rw [e]at hb;exact hb.elim⟩
def Bt (b:Nat) (l:List kv):PV:=if l.length=0 then .fs 6 []else .sl 6 b 1 l.length l.length
theorem xj {b:Nat} {l:List kv} (hb:Bs h[b]? l):∃cs,h[b]?=some (.cells 6 cs)∧cs.drop 6=nN l∧cs.length=l.length*6+6:=by
 cases e:h[b]? with
 |none=>rw [e]at hb;exact hb.elim
 |some P=>
  cases P with
  |cells z cs=>rw [e]at hb;obtain ⟨rfl,h1,h2⟩:=hb;exact ⟨cs,rfl,h1,h2⟩
  |_=>rw [e]at hb;exact hb.elim
theorem Ob {b:Nat} {l:List kv} (hl:l.length<2^60) (hb:Bs h[b]? l):PU 6 h (.sl 6 b 0 (l.length+1) (l.length+1)) (some (.v (.int .i64 1))) none none=some (Bt b l,h):=by
 obtain ⟨cs,e,_,e2⟩:=xj hb
 have ab:bH (l.length+1) (l.length+1) (some (.int .i64 1)) none none=some (1,l.length+1,l.length+1):=by
  simp [bH,iS]
  rw [if_pos (by omega)]
  rfl
 unfold PU
 simp only [Nv,e]
 rw [ab]
 simp only
 rw [if_pos (by refine ⟨trivial,by decide,trivial,by omega,asp _⟩),if_neg (by omega)]
 unfold Bt
 by_cases h0:l.length=0
 ·rw [if_pos (by omega),if_pos h0];rfl
 ·rw [if_neg (by omega),if_pos trivial,if_neg h0];rfl
@[simp]theorem ZL (b:Nat) (l:List kv):oW (Bt b l)=some l.length:=by
 unfold Bt
 split
 ·rename_i h;rw [h];rfl
 ·rfl
@[simp]theorem TS {b:Nat} {l:List kv} (hb:Bs h[b]? l):gW h 6 l.length (Bt b l)=some (nN l):=by
 obtain ⟨cs,e,e1,e2⟩:=xj hb
 unfold Bt
 split
 ·rename_i h0
  have:l=[]:=List.length_eq_zero_iff.1 h0
  subst this
  rfl
 ·unfold gW
  simp only [e]
  rw [if_pos ⟨trivial,by omega,asp _,asp _⟩,Nat.one_mul,e1,ass (by simp)]
@[simp]theorem TT {b:Nat} {l:List kv} (hb:Bs h[b]? l):gV h (Bt b l)=true:=by
 obtain ⟨cs,e,e1,e2⟩:=xj hb
 unfold Bt
 split
 ·rfl
 ·unfold gV
  simp only [e]
  exact decide_eq_true (by omega)
@[simp]theorem aiS {b:Nat} {l:List kv} (hA:A b) (hb:Bs h[b]? l):Vg A σ h bs (Bt b l) (.fs 6 (uL l))↔True:=⟨fun _=>trivial,fun _=>by
 unfold Bt
 split
 ·rename_i h0
  have:l=[]:=List.length_eq_zero_iff.1 h0
  subst this
  exact (Jy _ _).2 trivial
 ·exact (Oa hA hb).2 trivial⟩
@[simp]theorem acT {b i:Nat} {l:List kv} (hs:σ i=b) (k:KV h[b]? bs[i]?):Vg A σ h bs (Bt b l) (Bt i l)↔True:=⟨fun _=>trivial,fun _=>by
 unfold Bt
 split
 ·exact (Jy _ _).2 trivial
 ·exact (Tz hs k).2 trivial⟩
def TU (h:PH):Option PB→List Int→Prop
 |some (.cells z [.sl 1 b 0 n n']),s=>z=1∧n=s.length∧n'=s.length∧h[b]?=some (.cells 1 (s.map pi))
 |_,_=>False
@[simp]theorem aiT (z b n n':Nat) (s:List Int):TU h (some (.cells z [.sl 1 b 0 n n'])) s↔z=1∧n=s.length∧n'=s.length∧h[b]?=some (.cells 1 (s.map pi)):=Iff.rfl
@[simp]theorem aiU {b:Nat} {s:List Int} (hb:TU h h[b]? s):Vg qw σ h bs (.sl 1 b 0 1 1) (N3 [s])↔True:=⟨fun _=>trivial,fun _=>by
 cases e:h[b]? with
 |none=>rw [e]at hb;exact hb.elim
 |some P=>
  cases P with
  |cells z cs=>
   rw [e]at hb
   unfold TU at hb
   split at hb
   ·rename_i e2
    cases e2
    obtain ⟨rfl,rfl,rfl,e3⟩:=hb
    refine qV (Dc trivial e rfl (by decide) (asp _) (asp _) (by simp) (by simp) ?_)
    simp
    exact Bh trivial e3
   ·exact hb.elim
  |_=>rw [e]at hb;exact hb.elim⟩
end
def Qe (c:ek):List PV:=[pi c.en,iG c.store,.fs 2 (vG c.outs),.fs 3 (Dn c.trace),pi c.cost,pi c.used,pi c.wh,pi c.fuel,.fs 6 (uL c.todo),pb c.over]
theorem qk (c:ek):Fz E O 57 [.agg (Qe c)] (pb (c.over||decide (c.todo.length=0))):=by
 refine Fz.body (F:=WJ) rfl rfl rfl rfl ?_
 cases h:c.over
 ·simp (maxSteps:=4000000)-implicitDefEqProofs [-getElem?_pos,asj,WJ,Qe,h]
 ·simp (maxSteps:=4000000)-implicitDefEqProofs [-getElem?_pos,asj,WJ,Qe,h]
theorem zl:∀l:List Ev,kb (q6 l)=true
 |[]=>rfl
 |a::l=>by rw [qi];simp [kb,ox,zl l]
structure zm (p:bf) (ps:List Int) (c:ek):Prop extends Inv p ps c where
 vH:∀it∈c.todo,Dk it.2
 len:(c.todo.length:Int)+500*c.fuel≤2^30
def cfS (c:ek) (r:PV) (h:PH):Prop:=
 (r= .agg (cy c 0 1 2 3)∧h=[.cells 1 (c.store.map pi),.cells 2 (qF c.outs),.cells 3 (q6 c.trace),.cells 6 (nN c.todo)])∨
 (r= .agg (cy c 0 1 2 4)∧h=[.cells 1 (c.store.map pi),.cells 2 (qF c.outs),.cells 3 (q6 c.trace),.dead,.cells 6 (nN c.todo)])∨
 (r= .agg (cy c 4 1 2 5)∧h=[.dead,.cells 2 (qF c.outs),.cells 3 (q6 c.trace),.dead,.cells 1 (c.store.map pi),.cells 6 (nN c.todo)])
def HL (p:bf) (c:ek) (k:Int) (s:bD) (next:List kv) (i:Nat):PH:=
 [.cells 1 (c.store.map pi),.cells 2 (qF c.outs),.cells 3 (q6 (c.trace++eI p.w p.vars [c.store] (s.args.take i))),.cells 6 (nN ((k,s)::next)),
  .cells 10 (cy {c with trace:=c.trace++eI p.w p.vars [c.store] (s.args.take i),cost:=c.cost+1+aw (s.args.take i),fuel:=c.fuel- 1,todo:=next} 0 1 2 5),
  .cells 6 (nN next),.cells 6 (eR (k,s)),.cells 1 ((bU p.w p.vars [c.store] (s.args.take i)).map pi),.cells 3 (au p),
  .cells 10 [pi 0,.v (.slice none 0 0),.v (.slice none 0 0),.v (.slice none 0 0),pi 0,pi 0,pi 0,pi 0,.v (.slice none 0 0),pb false]]
def FL (ps:List Int) (next:List kv) (i:Nat):List (Nat×PV):=[(1,iG ps),(3,.ref 8 0 3),(5,.ref 4 0 10),(6,.ref 9 0 10),(7,.ref 6 0 6),(8,Bt 3 next),(9,.sl 1 7 0 i i),(10,pi i)]
end Go.Proofs.YtppcmpmnglaleaaGreatDoor.A.P
set_option maxHeartbeats 1000000
namespace Go.Proofs.YtppcmpmnglaleaaGreatDoor.A.P
open Go Go.RowKit
theorem q7 {w:Int} {V:List Vr} {S:List (List Int)} {l:List b9} {i:Nat} {y:b9} (h:l[i]?=some y):bU w V S (l.take (i+1))=bU w V S (l.take i)++[GH w V S y]:=by
 rw [qO,qO,List.take_add_one,tJ,h];rfl
theorem zn (l:List Ev):(q6 l).take (l.length*3)=q6 l:=ass (by simp)
def SI (p:bf) (ps:List Int) (c:ek) (k:Int) (s:bD) (next:List kv) (i:Nat) (fr:PF) (h:PH):Prop:=h=HL p c k s next i∧fr.get 1=iG ps∧fr.get 3= .ref 8 0 3∧fr.get 5= .ref 4 0 10∧fr.get 6= .ref 9 0 10∧fr.get 7= .ref 6 0 6∧fr.get 8=Bt 3 next∧fr.get 9= .sl 1 7 0 i i∧fr.get 10=pi i
theorem Qf (p:bf) (ps:List Int) (c:ek) (k:Int) (s:bD) (next:List kv) (i:Nat):SI p ps c k s next i (PF.uK (FL ps next i)) (HL p c k s next i):=by simp [SI,FL]
theorem ZM {p:bf} {ps:List Int} {c b:ek} {k op n:Int} {args:List b9} {thn els:List bD} {next:List kv} (I:zm p ps c) (ht:c.todo=(k,.mk op n args thn els)::next) (hf:c.fuel≠0) (hb:jn p c (.mk op n args thn els) next=b):
 fP E O 93 [.agg (au p),iG ps,.agg (cy b 0 1 2 3),.agg (eR (k,.mk op n args thn els)),iG (bU p.w p.vars [c.store] args),.fs 6 (uL next)] (fQ b) (TO (cL p ps b k (.mk op n args thn els) (bU p.w p.vars [c.store] args) next)):=by
 obtain ⟨FY,EV,mb,nz⟩:=I.todo (k,.mk op n args thn els) (by rw [ht];simp)
 obtain ⟨aG,SQ,yQ,CN⟩:=gw mb
 simp only at FY EV nz
 rw [bu]at nz
 have pa:=bc args
 have pt:=bF thn
 have pe:=bF els
 have zU:EO p.w p.vars [c.store]:=fun t ht=>by simp at ht;subst ht;exact I.store
 have Nk:=vx (S:=[c.store]) I.head zU args (fun e he=>(aG e he).1)
 have evb:=jJ (w:=p.w) (V:=p.vars) (S:=[c.store]) (l:=args) (fun e _=>dV e)
 have hfu:=I.fuel
 have A7:=I.tr
 have hou:=I.ou
 have hus:=I.used
 have Vc:=I.Vi
 have hcp:=kA (.mk op n args thn els)
 have hp:=fJ (w:=p.w) ⟨(aF I.head).1,(aF I.head).2.1⟩
 have hln:=I.len
 rw [ht]at hln
 simp only [List.length_cons]at hln
 have e0:b.store=c.store:=by rw [←hb];rfl
 have e1:b.trace=c.trace++eI p.w p.vars [c.store] args:=by rw [←hb];rfl
 have e4:b.todo=next:=by rw [←hb];rfl
 have e5:b.outs=c.outs:=by rw [←hb];rfl
 have hS:aO p.w p.vars b.store=true:=by rw [e0];exact I.store
 have Hk:b.trace.length<2^40:=by rw [e1,asu];omega
 have kW:(bU p.w p.vars [c.store] args).length=args.length:=jd args
 have Qg:∀a∈bU p.w p.vars [c.store] args,0≤a∧a<2^40:=fun a ha=>by
  obtain ⟨i,hi,e⟩:=List.getElem_of_mem ha
  have:=Nk i (by omega)
  have e2:ei (bU p.w p.vars [c.store] args) i=a:=by unfold ei;rw [asl hi,e];rfl
  rw [e2]at this
  omega
 generalize bU p.w p.vars [c.store] args=vals at*
 have one:args.length=1→∃a,vals=[a]:=fun h=>List.length_eq_one_iff.1 (by omega)
 rcases CN with⟨rfl,hn,hl⟩|⟨rfl,x,rfl⟩|⟨rfl,x,rfl⟩|⟨rfl,x,rfl⟩|⟨rfl,hn,hl⟩|⟨ho,x,rfl⟩
 ·refine N8 I.head hS Hk hn ?_ Qg
  rcases hl with⟨h1,x,rfl⟩|⟨h1,x,y,rfl⟩
  ·exact .inl ⟨h1,one rfl⟩
  ·refine .inr ⟨h1,?_⟩
   match vals,kW with
   |[a,b],_=>exact ⟨a,b,rfl⟩
 ·obtain ⟨a,rfl⟩:=one rfl
  exact TR Hk (by omega) (by omega) (by omega) (by omega)
 ·obtain ⟨a,rfl⟩:=one rfl
  exact Fg e4 Hk (by omega) (by omega) (by omega)
 ·obtain ⟨a,rfl⟩:=one rfl
  exact N9 (by rw [e5];omega)
 ·refine JP I.head hS Hk hn (by omega) ?_ Qg
  rcases hl with⟨h1,rfl⟩|⟨h1,x,rfl⟩
  ·exact .inl ⟨h1,List.length_eq_zero_iff.1 (by simpa using kW)⟩
  ·exact .inr ⟨h1,one rfl⟩
 ·obtain ⟨a,rfl⟩:=one rfl
  exact JO ho
theorem TV {p:bf} {ps:List Int} {c:ek} (I:zm p ps c):fP E O 58 [.agg (au p),iG ps,.agg (cy c 0 1 2 3)] (fQ c) (cfS (bN p ps c)):=by
 refine fP.body (F:=UN) rfl rfl rfl ?_
 cases hq:(c.over||decide (c.todo.length=0))
 case true=>
  have e:bN p ps c=c:=by
   simp only [Bool.or_eq_true,asx]at hq
   unfold bN
   by_cases ho:c.over=true
   ·rw [if_pos ho]
   ·rw [if_neg ho]
    cases ht:c.todo with
    |nil=>rfl
    |cons it next=>rw [ht]at hq;simp at hq;exact absurd hq ho
  rw [e]
  simp (maxSteps:=4000000)-implicitDefEqProofs+contextual [-getElem?_pos,asj,UN,cy,fQ]
  refine qZ (qk c) ?_ ?_ ?_
  iterate 2· simp (maxDischargeDepth:=8)-implicitDefEqProofs [-getElem?_pos,asj,Qe]
  have xS:c.over=true∨c.todo=[]:=by simpa using hq
  simp (maxSteps:=4000000)-implicitDefEqProofs+contextual [-getElem?_pos,asj,xS]
  refine ⟨_,_,?_,.inl ⟨rfl,rfl⟩⟩
  refine bQ [] ?_ ?_ ?_ (fun b hb=>?_) ?_ ?_
  iterate 3· simp
  ·have:b=0∨b=1∨b=2∨b=3:=by omega
   rcases this with rfl|rfl|rfl|rfl<;>simp [bX,cy]<;>omega
  iterate 2· simp (maxDischargeDepth:=8)-implicitDefEqProofs [aj,asj,cy]
 simp only [Bool.or_eq_false_iff,decide_eq_false_iff_not]at hq
 obtain ⟨ho,hl⟩:=hq
 cases ht:c.todo with
 |nil=>rw [ht]at hl;exact absurd rfl hl
 |cons it next=>
 obtain ⟨k,s⟩:=it
 obtain ⟨op,n,args,thn,els⟩:=s
 have h6:(next.length+1)*6=next.length*6+1+1+1+1+1+1:=by omega
 by_cases hf:c.fuel=0
 ·have e:bN p ps c=dY c 3 k:=by
   unfold bN
   rw [if_neg (by simp [ho]),ht]
   show(if c.fuel=0 then _ else _)=_
   rw [if_pos hf]
  rw [e]
  simp (maxSteps:=4000000)-implicitDefEqProofs+contextual [-getElem?_pos,asj,UN,cy,fQ]
  refine qZ (qk c) ?_ ?_ ?_
  iterate 2· simp (maxDischargeDepth:=8)-implicitDefEqProofs [-getElem?_pos,asj,Qe]
  simp (maxSteps:=4000000)-implicitDefEqProofs+contextual [-getElem?_pos,asj,ho,hf,ht,bM,au,h6]
  refine de [0,1,2,3] [] (xi (c:=c) (e:=3) (n:=k)) ?_ ?_ ?_ ?_ ?_ ?_ ?_
  iterate 6· first|rfl|simp (maxDischargeDepth:=8)-implicitDefEqProofs [-getElem?_pos,asj,aj,fQ,cy,ht,bM,ho,hf,h6]
  rintro r0 fF ⟨rfl,rfl⟩ _
  simp (maxSteps:=4000000)-implicitDefEqProofs+contextual [-getElem?_pos,asj,cy,fQ,bO,ht,ho,hf,bM,h6]
  refine ⟨_,_,?_,.inr (.inl ⟨rfl,rfl⟩)⟩
  refine bQ [8] ?_ ?_ ?_ (fun b hb=>?_) ?_ ?_
  iterate 3· simp
  ·have:b=0∨b=1∨b=2∨b=3:=by omega
   rcases this with rfl|rfl|rfl|rfl<;>simp [bX,cy,h6]<;>omega
  iterate 2· simp (maxDischargeDepth:=8)-implicitDefEqProofs [aj,asj,cy,h6]
 have hfu:=I.fuel
 have O2:=I.co
 have A7:=I.tr
 have w1:IntKind.i64.wrap (c.fuel- 1)=c.fuel- 1:=ai ⟨by omega,by omega⟩
 have w2:IntKind.i64.wrap (c.cost+1)=c.cost+1:=ai ⟨by omega,by omega⟩
 have K1:=I.len
 rw [ht]at K1
 simp only [List.length_cons]at K1
 simp (maxSteps:=4000000)-implicitDefEqProofs+contextual [-getElem?_pos,asj,UN,cy,fQ]
 refine qZ (qk c) ?_ ?_ ?_
 iterate 2· simp (maxDischargeDepth:=8)-implicitDefEqProofs [-getElem?_pos,asj,Qe]
 have aiV:next.length<2^60:=by omega
 simp (maxSteps:=4000000)-implicitDefEqProofs+contextual [-getElem?_pos,asj,-PU,Ob aiV,ho,hf,ht,bM,au,h6,w1,w2]
 apply cR
 iterate 9· first|rfl|omega|(simp-implicitDefEqProofs [-getElem?_pos,asj,-oW,-gW,-gV];first|done|rfl|omega)
 simp (maxSteps:=4000000)-implicitDefEqProofs+contextual [-getElem?_pos,asj,ho,hf,ht,bM,au,h6,w1,w2]
 obtain ⟨FY,EV,mb,nz⟩:=I.todo (k,.mk op n args thn els) (by rw [ht];simp)
 obtain ⟨aG,SQ,yQ,CN⟩:=gw mb
 have TW:=I.vH (k,.mk op n args thn els) (by rw [ht];simp)
 simp only at FY EV nz TW
 rw [bu]at nz
 rw [Dk]at TW
 have aiW:=TW.2.2.2.2.2.1
 have pa:=bc args
 have pt:=bF thn
 have pe:=bF els
 have zU:EO p.w p.vars [c.store]:=fun t ht=>by simp at ht;subst ht;exact I.store
 refine fu (SI p ps c k (.mk op n args thn els) next) args.length (cz (h2:=HL p c k (.mk op n args thn els) next 0) [5,8,7,9,4,6] (FL ps next 0) ?_ ?_ ?_ ?_ ?_ ?_) (Qf _ _ _ _ _ _ _) ?_
 ·simp [HL,FL,cy,eR,bM,au,bD.args,eI,bU,aw,ho,h6]
 iterate 2· simp
 ·intro b hb
  have:b=0∨b=1∨b=2∨b=3:=by omega
  rcases this with rfl|rfl|rfl|rfl<;>simp [bX,HL,FL,cy,eR,bM,au,bD.args,eI,bU,aw,ho,h6]<;>omega
 iterate 2· simp (maxDischargeDepth:=8)-implicitDefEqProofs [aj,asj,HL,FL,cy,eR,bM,au,bD.args,eI,bU,aw,ho,h6]
 intro i fr h hi hI
 obtain ⟨rfl,f1,f3,f5,f6,f7,f8,f9,f10⟩:=hI
 by_cases h:i<args.length
 ·obtain ⟨y,hy⟩:∃y,args[i]?=some y:=⟨_,asl h⟩
  have hym:=asq hy
  obtain ⟨wS,SK⟩:=aG y hym
  have TX:=zi aiW y hym
  have hal:=lQ args
  have t1:=eK hy
  have t2:=bj args i
  have t3:=bj args (i+1)
  have t4:=mI (w:=p.w) (V:=p.vars) (S:=[c.store]) args i
  have t5:=dV (w:=p.w) (V:=p.vars) (S:=[c.store]) y
  have kW:(bU p.w p.vars [c.store] (args.take i)).length=i:=by rw [jd,List.length_take];omega
  have w3:IntKind.i64.wrap (c.cost+1+aw (args.take i)+aB y)=c.cost+1+aw (args.take (i+1)):=by rw [t1,←Int.add_assoc];exact ai ⟨by omega,by omega⟩
  have w4:IntKind.i64.wrap ((i:Int)+1)=((i+1:Nat):Int):=ai ⟨by omega,by omega⟩
  simp (maxSteps:=4000000)-implicitDefEqProofs+contextual [-getElem?_pos,asj,f1,f3,f5,f6,f7,f8,f9,f10,h,hy,HL,cy,au,eR,bM,bD.args,ho,h6]
  refine qZ (N5 (S:=[c.store]) I.head zU TX wS) ?_ ?_ ?_
  iterate 2· simp (maxDischargeDepth:=8)-implicitDefEqProofs [-getElem?_pos,asj]
  simp (maxSteps:=4000000)-implicitDefEqProofs+contextual [-getElem?_pos,asj]
  apply cR
  iterate 9· first|rfl|omega|(simp-implicitDefEqProofs [-getElem?_pos,asj,kW];first|done|rfl|omega)
  simp (maxSteps:=4000000)-implicitDefEqProofs+contextual [-getElem?_pos,asj,f1,f3,f5,f6,f7,f8,f9,f10]
  refine aN (N6 TX (by omega)) ?_ ?_ ?_
  iterate 2· simp (maxDischargeDepth:=8)-implicitDefEqProofs [-getElem?_pos,asj]
  simp (maxSteps:=4000000)-implicitDefEqProofs+contextual [-getElem?_pos,asj,f1,f3,f5,f6,f7,f8,f9,f10,w3]
  refine pf (JK (s:=c.store) I.head I.store TX wS (by omega)) ?_ ?_ ?_
  iterate 2· simp (maxDischargeDepth:=8)-implicitDefEqProofs [-getElem?_pos,asj,zl]
  simp (maxSteps:=4000000)-implicitDefEqProofs+contextual [-getElem?_pos,asj]
  apply cR
  iterate 9· first|rfl|omega|(simp-implicitDefEqProofs [-getElem?_pos,asj,zn];first|done|rfl|omega)
  simp (maxSteps:=4000000)-implicitDefEqProofs+contextual [-getElem?_pos,asj,f1,f3,f5,f6,f7,f8,f9,f10,w4,zn]
  refine .qb h (cz (h2:=HL p c k (.mk op n args thn els) next (i+1)) [4,5,6,7,8,9] (FL ps next (i+1)) ?_ ?_ ?_ ?_ ?_ ?_) (Qf _ _ _ _ _ _ _)
  ·simp [HL,FL,cy,eR,bM,au,bD.args,ho,h6,mH hy,q7 hy,aH,Nat.add_assoc,f1,f3,f5,f6,f7,f8]
  iterate 2· simp
  ·intro b hb
   have:b=0∨b=1∨b=2∨b=3:=by omega
   rcases this with rfl|rfl|rfl|rfl<;>simp [bX,HL,FL,cy,eR,bM,au,bD.args,ho,h6,mH hy,q7 hy,aH,Nat.add_assoc,f1,f3,f5,f6,f7,f8]<;>omega
  iterate 2· simp (maxDischargeDepth:=8)-implicitDefEqProofs [aj,asj,HL,FL,cy,eR,bM,au,bD.args,ho,h6,mH hy,q7 hy,aH,Nat.add_assoc,f1,f3,f5,f6,f7,f8]
 ·obtain rfl:i=args.length:=by omega
  obtain ⟨b,hb⟩:∃b,jn p c (.mk op n args thn els) next=b:=⟨_,rfl⟩
  have e:bN p ps c=cL p ps b k (.mk op n args thn els) (bU p.w p.vars [c.store] args) next:=by
   unfold bN
   rw [if_neg (by simp [ho]),ht,←hb]
   show(if c.fuel=0 then _ else _)=_
   rw [if_neg hf];rfl
  have fH:=ZM I ht hf hb
  have kW:(bU p.w p.vars [c.store] args).length=args.length:=jd args
  rw [e]
  generalize cL p ps b k (.mk op n args thn els) (bU p.w p.vars [c.store] args) next=c' at fH⊢
  generalize oH:bU p.w p.vars [c.store] args=vals at fH
  subst hb
  simp (maxSteps:=4000000)-implicitDefEqProofs+contextual [-getElem?_pos,asj,f1,f3,f5,f6,f7,f8,f9,f10,HL,cy,au,eR,bM,bD.args,ho,h6]
  rw [oH]
  rw [←kW,oH]
  refine de [0,1,2,5] [3,7] fH ?_ ?_ ?_ ?_ ?_ ?_ ?_
  iterate 6· first|rfl|simp (maxDischargeDepth:=8)-implicitDefEqProofs [-getElem?_pos,asj,aj,fQ,cy,au,eR,bM,ho,h6,jn,bD.args,f1,f8]
  rintro r0 fF (⟨rfl,rfl⟩|⟨rfl,rfl⟩|⟨rfl,rfl⟩) _
  ·simp (maxSteps:=4000000)-implicitDefEqProofs+contextual [-getElem?_pos,asj,cy,fQ,bO,f6,h6]
   refine ⟨_,_,?_,.inr (.inl ⟨rfl,rfl⟩)⟩
   refine bQ [5] ?_ ?_ ?_ (fun b hb=>?_) ?_ ?_
   iterate 3· simp
   ·have:b=0∨b=1∨b=2∨b=3:=by omega
    rcases this with rfl|rfl|rfl|rfl<;>simp [bX,cy,h6]<;>omega
   iterate 2· simp (maxDischargeDepth:=8)-implicitDefEqProofs [aj,asj,cy,h6]
  ·simp (maxSteps:=4000000)-implicitDefEqProofs+contextual [-getElem?_pos,asj,cy,fQ,bO,f6,h6]
   refine ⟨_,_,?_,.inr (.inr ⟨rfl,rfl⟩)⟩
   refine bQ [10,5] ?_ ?_ ?_ (fun b hb=>?_) ?_ ?_
   iterate 3· simp
   ·have:b=0∨b=1∨b=2∨b=3:=by omega
    rcases this with rfl|rfl|rfl|rfl<;>simp [bX,cy,h6]<;>omega
   iterate 2· simp (maxDischargeDepth:=8)-implicitDefEqProofs [aj,asj,cy,h6]
  ·simp (maxSteps:=4000000)-implicitDefEqProofs+contextual [-getElem?_pos,asj,cy,fQ,bO,f6,h6]
   refine ⟨_,_,?_,.inr (.inl ⟨rfl,rfl⟩)⟩
   refine bQ [10] ?_ ?_ ?_ (fun b hb=>?_) ?_ ?_
   iterate 3· simp
   ·have:b=0∨b=1∨b=2∨b=3:=by omega
    rcases this with rfl|rfl|rfl|rfl<;>simp [bX,cy,h6]<;>omega
   iterate 2· simp (maxDischargeDepth:=8)-implicitDefEqProofs [aj,asj,cy,h6]
open Go Go.RowKit
def uk (c:ek):Nat:=if cM c then 0 else c.fuel.toNat+1
theorem Fh {p:bf} {ps:List Int} {c:ek} (hf:0≤c.fuel) (he:cM c=false):uk (bN p ps c)<uk c∧mM p ps (bN p ps c)=mM p ps c:=by
 cases ho:(bN p ps c).over with
 |true=>
  have h1:cM (bN p ps c)=true:=by simp [cM,ho]
  refine ⟨?_,?_⟩
  ·unfold uk;rw [h1,he];simp
  ·rw [yY (c:=c) (by simp [he,ho])]
   exact j0 h1 _
 |false=>
  obtain ⟨h1,h2,h3⟩:=IU (p:=p) (ps:=ps) hf (c:=c) (by simp [he,ho])
  refine ⟨?_,h1⟩
  unfold uk
  rw [he,h2]
  split
  ·simp
  ·simp;omega
theorem Fi {p:bf} {ps:List Int} {c:ek} (he:cM c=true):mM p ps c=c:=j0 he _
theorem lu:∀{l:List bD} {k:Int},w8 l→∀it∈bK l k,Dk it.2
 |[],k,_,it,h=>by simp [bK]at h
 | .mk op n args thn els::l,k,ok,it,h=>by
  rw [bK]at h
  rcases List.mem_cons.1 h with rfl|h
  ·exact ok.1
  ·exact lu ok.2 it h
theorem JQ (p:bf) (ps:List Int) (b:ek) (k op n:Int) (args:List b9) (thn els:List bD) (vals:List Int) (next:List kv) (hb:b.todo=next):
 (cL p ps b k (.mk op n args thn els) vals next).todo=[]∨(cL p ps b k (.mk op n args thn els) vals next).todo=next∨(cL p ps b k (.mk op n args thn els) vals next).todo=bK els (k+1+ar thn)++next∨(cL p ps b k (.mk op n args thn els) vals next).todo=bK thn (k+1)++next∨(cL p ps b k (.mk op n args thn els) vals next).todo=bK thn (k+1)++(k,.mk op n args thn els)::next:=by
 unfold cL
 simp only
 by_cases o0:op=0
 ·rw [if_pos o0];exact .inr (.inl hb)
 rw [if_neg o0]
 by_cases o1:op=1
 ·rw [if_pos o1]
  by_cases v:ei vals 0=0
  ·rw [if_pos v];exact .inr (.inr (.inl (by rw [if_pos v])))
  ·rw [if_neg v];exact .inr (.inr (.inr (.inl (by rw [if_neg v]))))
 rw [if_neg o1]
 by_cases o2:op=2
 ·rw [if_pos o2]
  by_cases v:ei vals 0=0
  ·rw [if_pos v];exact .inr (.inl (by rw [if_pos v]))
  ·rw [if_neg v];exact .inr (.inr (.inr (.inr (by rw [if_neg v]))))
 rw [if_neg o2]
 by_cases o3:op=3
 ·rw [if_pos o3];exact .inr (.inl hb)
 rw [if_neg o3]
 by_cases o4:op=4
 ·rw [if_pos o4]
  by_cases v:ps.length≤b.used
  ·rw [if_pos v];exact .inl rfl
  ·rw [if_neg v];exact .inr (.inl hb)
 rw [if_neg o4]
 by_cases o5:op=5
 ·rw [if_pos o5]
  by_cases v:ei vals 0=0
  ·rw [if_pos v];exact .inl rfl
  ·rw [if_neg v];exact .inr (.inl hb)
 rw [if_neg o5]
 by_cases v:ei vals 0=0
 ·rw [if_pos v];exact .inl rfl
 ·rw [if_neg v];exact .inr (.inl hb)
theorem Fj (p:bf) (ps:List Int) (c:ek):((bN p ps c).todo=c.todo∧(bN p ps c).fuel=c.fuel)∨((bN p ps c).todo=[]∧((bN p ps c).fuel=c.fuel∨(bN p ps c).fuel=c.fuel- 1))∨
 ∃k op n args thn els next,c.todo=(k,.mk op n args thn els)::next∧(bN p ps c).fuel=c.fuel- 1∧
  ((bN p ps c).todo=next∨(bN p ps c).todo=bK els (k+1+ar thn)++next∨(bN p ps c).todo=bK thn (k+1)++next∨(bN p ps c).todo=bK thn (k+1)++(k,.mk op n args thn els)::next):=by
 by_cases ho:c.over=true
 ·have e:bN p ps c=c:=by unfold bN;rw [if_pos ho]
  rw [e];exact .inl ⟨rfl,rfl⟩
 ·cases ht:c.todo with
  |nil=>
   have e:bN p ps c=c:=oV (by simp [cM,ht])
   rw [e];exact .inl ⟨ht,rfl⟩
  |cons it next=>
   obtain ⟨k,s⟩:=it
   obtain ⟨op,n,args,thn,els⟩:=s
   by_cases hf:c.fuel=0
   ·have e:bN p ps c=dY c 3 k:=by
     unfold bN
     rw [if_neg ho,ht]
     show(if c.fuel=0 then _ else _)=_
     rw [if_pos hf]
    rw [e];exact .inr (.inl ⟨rfl,.inl rfl⟩)
   ·have e:bN p ps c=cL p ps (jn p c (.mk op n args thn els) next) k (.mk op n args thn els) (bU p.w p.vars [c.store] args) next:=by
     unfold bN
     rw [if_neg ho,ht]
     show(if c.fuel=0 then _ else _)=_
     rw [if_neg hf];rfl
    have ef:(bN p ps c).fuel=c.fuel- 1:=by rw [e,tV];rfl
    rcases JQ p ps (jn p c (.mk op n args thn els) next) k op n args thn els (bU p.w p.vars [c.store] args) next rfl with q|q|q|q|q
    ·exact .inr (.inl ⟨by rw [e,q],.inr ef⟩)
    ·exact .inr (.inr ⟨k,op,n,args,thn,els,next,rfl,ef,.inl (by rw [e,q])⟩)
    ·exact .inr (.inr ⟨k,op,n,args,thn,els,next,rfl,ef,.inr (.inl (by rw [e,q]))⟩)
    ·exact .inr (.inr ⟨k,op,n,args,thn,els,next,rfl,ef,.inr (.inr (.inl (by rw [e,q])))⟩)
    ·exact .inr (.inr ⟨k,op,n,args,thn,els,next,rfl,ef,.inr (.inr (.inr (by rw [e,q])))⟩)
theorem Fk {p:bf} {ps:List Int} {c:ek} (h:zm p ps c):zm p ps (bN p ps c):=by
 have hi:=yU h.toInv
 have hl:=h.len
 have hfu:=hi.fuel
 have hfc:=h.fuel
 rcases Fj p ps c with⟨e1,e2⟩|⟨e1,e2⟩|⟨k,op,n,args,thn,els,next,ht,e2,e1⟩
 ·exact {toInv:=hi,vH:=by rw [e1];exact h.vH,len:=by rw [e1,e2];exact h.len}
 ·refine {toInv:=hi,vH:=by rw [e1];simp,len:=?_}
  rw [e1]
  simp
  omega
 ·have rU:=h.vH (k,.mk op n args thn els) (by rw [ht];simp)
  have nV:∀it∈next,Dk it.2:=fun it A8=>h.vH it (by rw [ht];simp [A8])
  have Ez:=rU
  rw [Dk]at Ez
  obtain ⟨_,_,mb,nz⟩:=h.todo (k,.mk op n args thn els) (by rw [ht];simp)
  simp only at nz
  rw [bu]at nz
  have pa:=bc args
  have pt:=bF thn
  have pe:=bF els
  have l1:=eQ thn
  have l2:=eQ els
  rw [ht]at hl
  simp only [List.length_cons]at hl
  rcases e1 with e1|e1|e1|e1
  ·exact {toInv:=hi,vH:=by rw [e1];exact nV,len:=by rw [e1,e2];omega}
  ·refine {toInv:=hi,vH:=?_,len:=by rw [e1,e2,asu,fI];omega}
   rw [e1]
   intro it A8
   rcases List.mem_append.1 A8 with q|q
   ·exact lu Ez.2.2.2.2.2.2.2 it q
   ·exact nV it q
  ·refine {toInv:=hi,vH:=?_,len:=by rw [e1,e2,asu,fI];omega}
   rw [e1]
   intro it A8
   rcases List.mem_append.1 A8 with q|q
   ·exact lu Ez.2.2.2.2.2.2.1 it q
   ·exact nV it q
  ·refine {toInv:=hi,vH:=?_,len:=by rw [e1,e2,asu,fI,List.length_cons];omega}
   rw [e1]
   intro it A8
   rcases List.mem_append.1 A8 with q|q
   ·exact lu Ez.2.2.2.2.2.2.1 it q
   ·rcases List.mem_cons.1 q with rfl|q
    ·exact rU
    ·exact nV it q
theorem Oc {p:bf} {t:eG} {fuel:Int} (hs:t.store.length≤2^40) (hn:av p.body<2^40):
 fP E O 56 [.agg (au p),pi fuel,.agg (cF t)] [] (fun r h=>r= .agg (cy (fB p fuel t) 0 1 2 3)∧h=fQ (fB p fuel t)):=by
 refine fP.body (F:=a56) rfl rfl rfl ?_
 simp (maxSteps:=4000000)-implicitDefEqProofs+contextual [-getElem?_pos,asj,a56,au,cF]
 refine qf (ui hs) ?_ ?_ ?_
 iterate 2· simp (maxDischargeDepth:=8)-implicitDefEqProofs [-getElem?_pos,asj]
 simp (maxSteps:=4000000)-implicitDefEqProofs+contextual [-getElem?_pos,asj]
 refine qf (xh hn (n0:=0) (by omega)) ?_ ?_ ?_
 iterate 2· simp (maxDischargeDepth:=8)-implicitDefEqProofs [-getElem?_pos,asj]
 simp (maxSteps:=4000000)-implicitDefEqProofs+contextual [-getElem?_pos,asj,au,cF]
 simp only [fQ,cy,fB]
 refine bQ [3,90,91,4] ?_ ?_ ?_ (fun b hb=>?_) ?_ ?_
 iterate 3· simp
 ·omega
 iterate 2· simp (maxDischargeDepth:=8)-implicitDefEqProofs [aj,asj,fI]
end Go.Proofs.YtppcmpmnglaleaaGreatDoor.A.P
namespace Go.Proofs.YtppcmpmnglaleaaGreatDoor.A.P
open Go Go.RowKit
def fR (r:jo):List PV:=[pi r.en,iG r.store,.fs 2 (vG r.outs),.fs 3 (Dn r.trace),pi r.cost,pi r.used,pi r.wh]
def RH (p:bf) (t:eG) (c:ek):PH:=[.cells 1 (c.store.map pi),.cells 2 (qF c.outs),.cells 3 (q6 c.trace),.cells 6 (nN c.todo),.cells 10 (cy c 0 1 2 3),.cells 2 (cF t),.cells 3 (au p),.cells 7 [pi 0,.v (.slice none 0 0),.v (.slice none 0 0),.v (.slice none 0 0),pi 0,pi 0,pi 0]]
def RL:List (Nat×PV):=[(3,.ref 6 0 3),(5,.ref 5 0 2),(6,.ref 7 0 7),(7,.ref 4 0 10)]
def RI (p:bf) (t:eG) (c0:ek) (k:Nat) (fr:PF) (h:PH):Prop:=∃c,k=uk c∧zm p t.bS c∧mM p t.bS c=mM p t.bS c0∧h=RH p t c∧fr.get 3= .ref 6 0 3∧fr.get 5= .ref 5 0 2∧fr.get 6= .ref 7 0 7∧fr.get 7= .ref 4 0 10
theorem Dq {p:bf} {t:eG} {c0 c:ek} (h1:zm p t.bS c) (h2:mM p t.bS c=mM p t.bS c0):RI p t c0 (uk c) (PF.uK RL) (RH p t c):=⟨c,rfl,h1,h2,rfl,by simp [RL],by simp [RL],by simp [RL],by simp [RL]⟩
theorem ZN {p:bf} {t:eG} {fuel:Int} (hs:t.store.length≤2^40) (hn:av p.body<2^40) (I0:zm p t.bS (fB p fuel t)):
 fP E O 25 [.agg (au p),pi fuel,.agg (cF t)] [] (fun r h=>r= .agg (fR (mM p t.bS (fB p fuel t)).run)∧h=[]):=by
 refine fP.body (F:=a25) rfl rfl rfl ?_
 simp (maxSteps:=4000000)-implicitDefEqProofs+contextual [-getElem?_pos,asj,a25,au,cF]
 refine de [] [] (Oc (fuel:=fuel) hs hn) ?_ ?_ ?_ ?_ ?_ ?_ ?_
 iterate 6· first|rfl|simp (maxDischargeDepth:=8)-implicitDefEqProofs [-getElem?_pos,asj,aj,au,cF]
 rintro r0 fF ⟨rfl,rfl⟩ _
 generalize fB p fuel t=c0 at I0⊢
 simp (maxSteps:=4000000)-implicitDefEqProofs+contextual [-getElem?_pos,asj,cy,fQ,bO]
 refine ua (RI p t c0) (uk c0) (cz (h2:=RH p t c0) [3,4,5,6,7,1,0,2] RL ?_ ?_ ?_ ?_ ?_ ?_) (Dq I0 rfl) ?_
 ·simp [RH,RL,cy,au,cF]
 iterate 2· simp
 ·intro b hb;omega
 iterate 2· simp (maxDischargeDepth:=8)-implicitDefEqProofs [aj,asj,RH,RL,cy,au,cF]
 rintro k fr h ⟨c,rfl,I,IX,rfl,f3,f5,f6,f7⟩
 cases he:cM c with
 |true=>
  have h1:¬ (c.over=false∧¬ c.todo=[]):=by
   rintro ⟨q1,q2⟩
   simp only [cM,q1,Bool.false_or,List.isEmpty_iff]at he
   exact q2 he
  rw [←IX,Fi he]
  simp (maxSteps:=4000000)-implicitDefEqProofs+contextual [-getElem?_pos,asj,RH,cy,f7]
  refine qZ (qk c) ?_ ?_ ?_
  iterate 2· simp (maxDischargeDepth:=8)-implicitDefEqProofs [-getElem?_pos,asj,Qe]
  simp (maxSteps:=4000000)-implicitDefEqProofs+contextual [-getElem?_pos,asj,h1,f3,f5,f6,f7]
  refine GI ?_
  simp (maxDischargeDepth:=8)-implicitDefEqProofs [fR,ek.run]
 |false=>
  have h1:c.over=false∧¬ c.todo=[]:=by simpa [cM]using he
  obtain ⟨l1,l2⟩:=Fh (p:=p) (ps:=t.bS) I.fuel.1 he
  have eT:=TV I
  have I2:=Fk I
  rw [IX]at l2
  generalize bN p t.bS c=c' at eT I2 l1 l2
  simp (maxSteps:=4000000)-implicitDefEqProofs+contextual [-getElem?_pos,asj,RH,cy,f7]
  refine qZ (qk c) ?_ ?_ ?_
  iterate 2· simp (maxDischargeDepth:=8)-implicitDefEqProofs [-getElem?_pos,asj,Qe]
  simp (maxSteps:=4000000)-implicitDefEqProofs+contextual [-getElem?_pos,asj,h1,f3,f5,f6,f7,cF,au]
  refine de [0,1,2,3] [] eT ?_ ?_ ?_ ?_ ?_ ?_ ?_
  iterate 6· first|rfl|simp (maxDischargeDepth:=8)-implicitDefEqProofs [-getElem?_pos,asj,aj,fQ,cy,au,cF,h1]
  rintro r0 fF (⟨rfl,rfl⟩|⟨rfl,rfl⟩|⟨rfl,rfl⟩) _
  ·simp (maxSteps:=4000000)-implicitDefEqProofs+contextual [-getElem?_pos,asj,cy,bO,f7]
   refine .Zo l1 (cz (h2:=RH p t c') [0,1,2,3,4,5,6,7] RL ?_ ?_ ?_ ?_ ?_ ?_) (Dq I2 l2)
   ·simp [RH,RL,cy,au,cF,f3,f5,f6,f7]
   iterate 2· simp
   ·intro b hb;omega
   iterate 2· simp (maxDischargeDepth:=8)-implicitDefEqProofs [aj,asj,RH,RL,cy,au,cF,f3,f5,f6,f7]
  ·simp (maxSteps:=4000000)-implicitDefEqProofs+contextual [-getElem?_pos,asj,cy,bO,f7]
   refine .Zo l1 (cz (h2:=RH p t c') [0,1,2,8,4,5,6,7] RL ?_ ?_ ?_ ?_ ?_ ?_) (Dq I2 l2)
   ·simp [RH,RL,cy,au,cF,f3,f5,f6,f7]
   iterate 2· simp
   ·intro b hb;omega
   iterate 2· simp (maxDischargeDepth:=8)-implicitDefEqProofs [aj,asj,RH,RL,cy,au,cF,f3,f5,f6,f7]
  ·simp (maxSteps:=4000000)-implicitDefEqProofs+contextual [-getElem?_pos,asj,cy,bO,f7]
   refine .Zo l1 (cz (h2:=RH p t c') [8,1,2,9,4,5,6,7] RL ?_ ?_ ?_ ?_ ?_ ?_) (Dq I2 l2)
   ·simp [RH,RL,cy,au,cF,f3,f5,f6,f7]
   iterate 2· simp
   ·intro b hb;omega
   iterate 2· simp (maxDischargeDepth:=8)-implicitDefEqProofs [aj,asj,RH,RL,cy,au,cF,f3,f5,f6,f7]
open Go Go.RowKit
theorem JR {F:Nat→Prop} {H:AH}:∀{l:List (List Value)} {rs:List (List Value)},lD F H (l.map fun r=>r.map PV.v) rs→rs=l:=by
 have one:∀{r:List Value} {q:List Value},iQ F H (r.map PV.v) q→q=r:=by
  intro r
  induction r with
  |nil=>intro q h;cases h;rfl
  |cons a r ih=>intro q h;cases h with|cons a b=>cases a;rw [ih b]
 intro l
 induction l with
 |nil=>intro rs h;cases h;rfl
 |cons a l ih=>intro rs h;cases h with|cons a b=>rw [one a,ih b]
theorem Dr {F:Nat→Prop} {H:AH} {sz:Nat} {rows:List (List PV)} {l:List (List Value)} {x:Value} (e:rows=l.map fun r=>r.map PV.v) (h:RF F H (.fs sz rows) x):Rows H sz x l:=by
 subst e
 obtain ⟨rs,h1,h2,_⟩:=iR h
 rwa [JR h2]at h1
end Go.Proofs.YtppcmpmnglaleaaGreatDoor.A.P
namespace Go.Proofs.YtppcmpmnglaleaaGreatDoor.A.P
open Go Go.RowKit
section
variable{T:Type} {enc:TypeId×Value→T} {W:World}
theorem xl:∀{l:List b9},(∀e∈l,F3 e)→Bm l
 |[],_=>trivial
 |e::l,h=>⟨h e (by simp),xl fun x hx=>h x (by simp [hx])⟩
theorem sB:∀{l:List bD},(∀e∈l,Dk e)→w8 l
 |[],_=>trivial
 |e::l,h=>⟨h e (by simp),sB fun x hx=>h x (by simp [hx])⟩
theorem Od:∀(n:Nat) (cs:List Value) (d:DataW T),Rd enc Tryz.prog W n 117 cs d→wK Tryz.prog 117 d→∃l e,aT W.heap.size cs=some l∧iQ (F0 W) (H0 W) (ic e) l∧F3 e:=by
 intro n
 induction n using Nat.strongRecOn with
 |_ n ih=>
  intro cs d h hw
  obtain ⟨hl,m,hm,hf⟩:=nr Tryz.underlying117 h hw
  rw [cE]at hl
  obtain ⟨c0,c1,c2,c3,rfl⟩:=XJ hl
  obtain ⟨d0,h0,w0⟩:=hf 0 _ rfl
  obtain ⟨d1,h1,w1⟩:=hf 1 _ rfl
  obtain ⟨d2,h2,w2⟩:=hf 2 _ rfl
  obtain ⟨d3,h3,w3⟩:=hf 3 _ rfl
  simp only [List.getElem_toArray,List.getElem_cons_zero,List.getElem_cons_succ]at h0 h1 h2 h3 w0 w1 w2 w3
  rw [cI]at h0 h1 h2
  rw [cEs]at h3
  obtain ⟨op,e0,b0⟩:=jV Tryz.underlying3 h0
  obtain ⟨nn,e1,b1⟩:=jV Tryz.underlying3 h1
  obtain ⟨cp,e2,b2⟩:=jV Tryz.underlying3 h2
  obtain ⟨v,ys,g1,g2,g3,g4⟩:=uh ic (ok:=F3) Tryz.underlying112 (by rw [cE];omega) (by rw [cE];omega) (by decide+kernel) (by simpa using h3) w3 (fun k dF d' hk hr zT=>ih k (by omega) dF d' hr zT)
  rw [cE]at g2
  simp at e0 e1 e2
  subst e0;subst e1;subst e2
  refine ⟨[.int .i64 op,.int .i64 nn,.int .i64 cp,v],.mk op nn cp ys,eO (eO (eO g1)),.cons (.v _) (.cons (.v _) (.cons (.v _) (.cons (by rw [ll];exact g2) .nil))),wf_i64 b0,wf_i64 b1,wf_i64 b2,EJ g4 (by decide+kernel),xl g3⟩
theorem Oe:∀(n:Nat) (cs:List Value) (d:DataW T),Rd enc Tryz.prog W n 114 cs d→wK Tryz.prog 114 d→∃l e,aT W.heap.size cs=some l∧iQ (F0 W) (H0 W) (bM e) l∧Dk e:=by
 intro n
 induction n using Nat.strongRecOn with
 |_ n ih=>
  intro cs d h hw
  obtain ⟨hl,m,hm,hf⟩:=nr Tryz.underlying114 h hw
  rw [cS]at hl
  obtain ⟨c0,c1,c2,c3,c4,rfl⟩:=XL hl
  obtain ⟨d0,h0,w0⟩:=hf 0 _ rfl
  obtain ⟨d1,h1,w1⟩:=hf 1 _ rfl
  obtain ⟨d2,h2,w2⟩:=hf 2 _ rfl
  obtain ⟨d3,h3,w3⟩:=hf 3 _ rfl
  obtain ⟨d4,h4,w4⟩:=hf 4 _ rfl
  simp only [List.getElem_toArray,List.getElem_cons_zero,List.getElem_cons_succ]at h0 h1 h2 h3 h4 w0 w1 w2 w3 w4
  rw [cI]at h0 h1
  rw [cEs]at h2
  rw [cSs]at h3 h4
  obtain ⟨op,e0,b0⟩:=jV Tryz.underlying3 h0
  obtain ⟨nn,e1,b1⟩:=jV Tryz.underlying3 h1
  obtain ⟨va,ya,p1,p2,p3,p4⟩:=uh ic (ok:=F3) Tryz.underlying112 (by rw [cE];omega) (by rw [cE];omega) (by decide+kernel) (by simpa using h2) w2 (fun k dF d' hk hr zT=>Od k dF d' hr zT)
  obtain ⟨vt,yt,q1,q2,q3,q4⟩:=uh bM (ok:=Dk) Tryz.underlying23 (by rw [cS];omega) (by rw [cS];omega) (by decide+kernel) (by simpa using h3) w3 (fun k dF d' hk hr zT=>ih k (by omega) dF d' hr zT)
  obtain ⟨ve,ye,r1,r2,r3,r4⟩:=uh bM (ok:=Dk) Tryz.underlying23 (by rw [cS];omega) (by rw [cS];omega) (by decide+kernel) (by simpa using h4) w4 (fun k dF d' hk hr zT=>ih k (by omega) dF d' hr zT)
  rw [cE]at p2
  rw [cS]at q2 r2
  simp at e0 e1
  subst e0;subst e1
  exact ⟨[.int .i64 op,.int .i64 nn,va,vt,ve],.mk op nn ya yt ye,eO (eO (mF p1 (mF q1 r1))),.cons (.v _) (.cons (.v _) (.cons (by rw [ll];exact p2) (.cons (by rw [jL];exact q2) (.cons (by rw [jL];exact r2) .nil)))),wf_i64 b0,wf_i64 b1,EJ p4 (by decide+kernel),EJ q4 (by decide+kernel),EJ r4 (by decide+kernel),xl p3,sB q3,sB r3⟩
theorem TY (n:Nat) (cs:List Value) (d:DataW T) (h:Rd enc Tryz.prog W n 108 cs d) (hw:wK Tryz.prog 108 d):∃l y,aT W.heap.size cs=some l∧iQ (F0 W) (H0 W) (zh y) l∧y.name.size<2^60:=by
 obtain ⟨l,y,h1,rfl,h3⟩:=R8 n cs d h hw
 exact ⟨_,y,h1,.cons (.v _) (.cons (.v _) (.cons (.v _) .nil)),h3⟩
theorem Of {n:Nat} {c:Value} {d:DataW T} (h:Rd enc Tryz.prog W n 26 [c] d) (hw:wK Tryz.prog 26 d):∃v l,aT W.heap.size [c]=some [v]∧RF (F0 W) (H0 W) (iG l) v∧l.length<2^44∧∀n∈l,kK n:=by
 obtain ⟨v,ys,g1,g2,g3,g4⟩:=uh (fun n:Int=>[pi n]) (ok:=kK) Tryz.underlying26 (by rw [cI];omega) (by rw [cI];omega) (by decide+kernel) h hw (fun k dF d' hk hr zT=>by
  obtain ⟨m,e,b⟩:=jV Tryz.underlying3 hr
  subst e
  exact ⟨_,m,eO rfl,.cons (.v _) .nil,wf_i64 b⟩)
 rw [cI]at g2
 refine ⟨v,ys,g1,g2,?_,g3⟩
 have hb:Tryz.prog.bytesOf 3=8:=by kernel_rfl
 rw [hb]at g4
 have:reachBytes<2^47:=reachBytes_lt
 omega
theorem Ds (n:Nat) (cs:List Value) (d:DataW T) (h:Rd enc Tryz.prog W n 25 cs d) (hw:wK Tryz.prog 25 d):∃l p,aT W.heap.size cs=some l∧iQ (F0 W) (H0 W) (au p) l∧fV p:=by
 obtain ⟨hl,m,hm,hf⟩:=nr Tryz.underlying25 h hw
 rw [cP]at hl
 obtain ⟨c0,c1,c2,rfl⟩:=Io hl
 obtain ⟨d0,h0,w0⟩:=hf 0 _ rfl
 obtain ⟨d1,h1,w1⟩:=hf 1 _ rfl
 obtain ⟨d2,h2,w2⟩:=hf 2 _ rfl
 simp only [List.getElem_toArray,List.getElem_cons_zero,List.getElem_cons_succ]at h0 h1 h2 w0 w1 w2
 rw [cI]at h0
 rw [cVs]at h1
 rw [cSs]at h2
 obtain ⟨w,e0,b0⟩:=jV Tryz.underlying3 h0
 obtain ⟨vv,yv,p1,p2,p3,p4⟩:=uh zh (ok:=fun y=>y.name.size<2^60) Tryz.underlying22 (by rw [cV];omega) (by rw [cV];omega) (by decide+kernel) (by simpa using h1) w1 (fun k dF d' hk hr zT=>TY k dF d' hr zT)
 obtain ⟨vb,yb,q1,q2,q3,q4⟩:=uh bM (ok:=Dk) Tryz.underlying23 (by rw [cS];omega) (by rw [cS];omega) (by decide+kernel) (by simpa using h2) w2 (fun k dF d' hk hr zT=>Oe k dF d' hr zT)
 rw [cV]at p2
 rw [cS]at q2
 simp at e0
 subst e0
 exact ⟨_,⟨w,yv,yb⟩,eO (mF p1 q1),.cons (.v _) (.cons p2 (.cons (by rw [jL];exact q2) .nil)),wf_i64 b0,⟨EJ p4 (by decide+kernel),p3⟩,sB q3,EJ q4 (by decide+kernel)⟩
theorem aaW (n:Nat) (cs:List Value) (d:DataW T) (h:Rd enc Tryz.prog W n 56 cs d) (hw:wK Tryz.prog 56 d):∃l s,aT W.heap.size cs=some l∧iQ (F0 W) (H0 W) (cF s) l∧Bn s:=by
 obtain ⟨hl,m,hm,hf⟩:=nr Tryz.underlying56 h hw
 rw [cT]at hl
 obtain ⟨c0,c1,rfl⟩:=Pw hl
 obtain ⟨d0,h0,w0⟩:=hf 0 _ rfl
 obtain ⟨d1,h1,w1⟩:=hf 1 _ rfl
 simp only [List.getElem_toArray,List.getElem_cons_zero,List.getElem_cons_succ]at h0 h1 w0 w1
 rw [cIs]at h0 h1
 obtain ⟨vs,ls,p1,p2,p3,p4⟩:=Of (by simpa using h0) w0
 obtain ⟨vp,lp,q1,q2,q3,q4⟩:=Of (by simpa using h1) w1
 exact ⟨_,⟨ls,lp⟩,mF p1 q1,.cons p2 (.cons q2 .nil),by show ls.length<2^60;omega,by show lp.length<2^60;omega,p4,q4⟩
end
end Go.Proofs.YtppcmpmnglaleaaGreatDoor.A.P
namespace Go.Proofs.YtppcmpmnglaleaaGreatDoor.A.P
open Go Go.RowKit
theorem Qh {F:Nat→Prop} {H:AH}:∀r:List Value,iQ F H (r.map PV.v) r
 |[]=>.nil
 |a::r=>.cons (.v a) (Qh r)
theorem Qi {F:Nat→Prop} {H:AH}:∀l:List (List Value),lD F H (l.map fun r=>r.map PV.v) l
 |[]=>.nil
 |a::l=>.cons (Qh a) (Qi l)
theorem Bu {F:Nat→Prop} {H:AH} {sz:Nat} {v:Value} {rows:List (List Value)} (h:dN H sz v rows) (hF:∀b,aX v b→F b):RF F H (.fs sz (rows.map fun r=>r.map PV.v)) v:=by
 have hr:=h.rows
 rcases h.is with⟨rfl,rfl⟩|⟨b,rfl,h0,g⟩
 ·exact .fs (rows:=[]) (rs:=[]) hr (asp _) (fun d hd=>by cases hd) .nil
 ·have hl:(rows.map fun r=>r.map PV.v).length=rows.length:=List.length_map ..
  have:=RF.fs (F:=F) (H:=H) (sz:=sz) (rows:=rows.map fun r=>r.map PV.v) (a:=some ⟨b,0,none⟩) (c:=rows.length) (rs:=rows) (by rw [hl];exact hr) (by rw [hl];exact asp _) (fun d hd=>by
   cases hd
   refine ⟨.inl rfl,.inr ⟨hF b ((bG _ _ _ _ _).2 rfl),?_⟩⟩
   simp [AH.lE,g]) (Qi rows)
  rw [hl]at this
  exact this
theorem JS {F:Nat→Prop} {H:AH} {n:Nat} {cs:List Value} {r:jo} (h:me H n cs r) (hF:∀vs vo vt,cs=[.int .i64 r.en,vs,vo,vt,.int .i64 r.cost,.int .i64 r.used,.int .i64 r.wh]→∀b,aX vs b∨aX vo b∨aX vt b→F b):iQ F H (fR r) cs:=by
 obtain ⟨vs,vo,vt,e,a,b,c,d⟩:=h.is
 have k:=hF vs vo vt e
 have k1:=Bu a (fun x hx=>k x (.inl hx))
 have k2:=Bu b (fun x hx=>k x (.inr (.inl hx)))
 have k3:=Bu c (fun x hx=>k x (.inr (.inr hx)))
 have e1:(a7 r.store).map (fun r=>r.map PV.v)=ir r.store:=by simp [a7,ir,pi,Function.comp_def]
 have e2:(dD r.outs).map (fun r=>r.map PV.v)=vG r.outs:=by simp [dD,A0,vG,pi,Function.comp_def]
 have e3:(c9 r.trace).map (fun r=>r.map PV.v)=Dn r.trace:=by simp [c9,Ev.row,Dn,pi,Function.comp_def]
 rw [e1]at k1
 rw [e2]at k2
 rw [e3]at k3
 subst e
 exact .cons (.v _) (.cons k1 (.cons k2 (.cons k3 (.cons (.v _) (.cons (.v _) (.cons (.v _) .nil))))))
theorem JT {p:bf} {t:eG} {fuel:Int} (eC:fV p) (vH:Bn t):Fz E O 47 [.agg (au p),pi fuel,.agg (cF t)] (.gA [.agg (fR (iD p fuel t)),pi (fM p fuel t)]):=by
 intro F H φ vs S Rv
 cases Rv with|cons a Rv=>
 cases Rv with|cons b Rv=>
 cases Rv with|cons c Rv=>
 cases Rv
 cases b
 obtain ⟨cp,rfl,hp⟩:=oy (by simp) a
 obtain ⟨ct,rfl,ht⟩:=oy (by simp) c
 refine (Np S.wf (xd eC hp) (JJ vH ht)).mono ?_
 rintro x H' ⟨cs,rfl,ra,X⟩
 obtain ⟨us,uo,ut,e,o1,o2,o3,hb⟩:=ra.is
 have Tv:∀{V:Nat→Prop} {x:Nat},¬ im ⟨F,H,φ,[]⟩ V x:=by
  rintro V x ⟨b,_,s,_⟩
  have:=aW s
  simp at this
 have no:∀{b:Nat} {F:Nat→Prop} {H:AH},¬ aY (Cx.mk F H φ []).h b:=fun s=>by have:=aW s;simp at this
 let F':Nat→Prop:=fun b=>F b∨(H.nx≤b∧(aX us b∨aX uo b∨aX ut b))
 have hFR:iQ F' H' (fR (iD p fuel t)) cs:=JS ra (fun a1 a2 a3 e2 b hbb=>by
  rw [e]at e2
  simp only [List.cons.injEq,true_and,and_true]at e2
  obtain ⟨rfl,rfl,rfl⟩:=e2
  exact .inr ⟨hb b hbb,hbb⟩)
 refine ⟨_,[],F',φ,⟨rfl,rfl,by simp [fR]⟩,?_,?_,?_⟩
 ·exact .gA (.cons (.agg (hFR.qT (C:=⟨_,_,_,_⟩))) (.cons (.v _) .nil))
 ·exact {
   wf:=X.wf S.wf
   fz:=fun x hx=>by
    rcases hx with q|⟨_,q|q|q⟩
    ·exact Nat.lt_of_lt_of_le (S.fz x q) X.nx
    ·exact o1.lt q
    ·exact o2.lt q
    ·exact o3.lt q
   inj:=fun b b' s=>absurd s no
   aX:=fun b z cs e=>by simp at e
   yZ:=fun b es e=>by simp at e}
 ·exact {
   n0:=X.n0
   nx:=X.nx
   fz:=fun x hx=>⟨.inl hx,X.old x (S.fz x hx)⟩
   fo:=fun x hx _ hd=>by
    rcases hd with q|⟨q,_⟩
    ·exact q
    ·dsimp only at hx;omega
   out:=fun x hx _=>X.old x hx
   loc:=fun b hb=>absurd hb no
   len:=fun _=>Nat.zero_le _
   le:=fun b hb=>absurd hb (Nat.not_lt_zero _)
   uV:=fun b hb=>absurd hb (Nat.not_lt_zero _)
   vA:=fun b hb=>absurd hb (Nat.not_lt_zero _)}
theorem Bv {p:bf} {t:eG} {fuel:Int} (eC:fV p) (hn:av p.body≤2^20) (hk:fM p fuel t=0):zm p t.bS (fB p fuel t):=by
 obtain ⟨hinv,_,hf1,hf2,_⟩:=qQ hk
 have hlen:=eQ p.body
 exact {toInv:=hinv,vH:=lu eC.2.2.1,len:=by show((bK p.body 0).length:Int)+500*fuel≤2^30;rw [fI];omega}
theorem JU {p:bf} {t:eG} {fuel:Int} (eC:fV p) (hn:av p.body≤2^20) (hk:fM p fuel t=0):Fz E O 25 [.agg (au p),pi fuel,.agg (cF t)] (.agg (fR (iD p fuel t))):=by
 have e:iD p fuel t=(mM p t.bS (fB p fuel t)).run:=by rw [iD,if_pos hk]
 rw [e]
 exact (ZN (vz (qQ hk).1).1 (by omega) (Bv eC hn hk)).mono (by rintro r h ⟨rfl,rfl⟩;exact ⟨rfl,rfl,by simp [fR]⟩)
open Go Go.RowKit
theorem aaw {p:bf} {t:eG} {fuel:Int} (eC:fV p) (vH:Bn t):Fz E O 23 [.agg (au p),pi fuel,.agg (cF t)] (pi (fM p fuel t)):=
 Fz.ke fun F H φ vs w Rv=>by
  cases Rv with|cons a Rv=>
  cases Rv with|cons b Rv=>
  cases Rv with|cons c Rv=>
  cases Rv
  cases b
  obtain ⟨c1,rfl,h1⟩:=oy (by simp) a
  obtain ⟨c2,rfl,h2⟩:=oy (by simp) c
  exact aaP w (xd eC h1) (JJ vH h2)
theorem Dt {l:List bD} {m:Int} (ok:w8 l) (hl:l.length<2^60) (hm:0≤m∧m≤1000000):Fz E O 10 [.fs 5 (il l),pi m] (pb (decide (av l≤m))):=
 Fz.ke fun F H φ vs w Rv=>by
  cases Rv with|cons a Rv=>
  cases Rv with|cons b Rv=>
  cases Rv
  cases b
  obtain ⟨rs,hr,qR,_⟩:=iR (Bo a)
  exact yl w hl hr (qh ok qR) hm
theorem um {p:bf} (eC:fV p):Fz E O 37 [.agg (au p)] (pi (if bq p=true then 0 else 30)):=
 Fz.ke fun F H φ vs w Rv=>by
  cases Rv with|cons a Rv=>
  cases Rv
  obtain ⟨c1,rfl,h1⟩:=oy (by simp) a
  exact qK w (xd eC h1)
theorem JV {p:bf} {t:eG} (eC:fV p) (vH:Bn t):Fz E O 38 [.agg (au p),.agg (cF t)] (pi (fM p 0 t)):=
 Fz.ke fun F H φ vs w Rv=>by
  cases Rv with|cons a Rv=>
  cases Rv with|cons c Rv=>
  cases Rv
  obtain ⟨c1,rfl,h1⟩:=oy (by simp) a
  obtain ⟨c2,rfl,h2⟩:=oy (by simp) c
  exact EG w (xd eC h1) (JJ vH h2)
theorem Du {l m:List Int} (hl:l.length≤2^60):Fz E O 29 [iG l,iG m] (pb (decide (l=m))):=
 Fz.ke fun F H φ vs hw Rv=>by
  cases Rv with|cons b Rv=>
  cases Rv with|cons c Rv=>
  cases Rv
  refine (Is (jD (Bo b)) (jD (Bo c)) hl).mono ?_
  rintro x H' ⟨rfl,rfl⟩
  exact ⟨rfl,Ext.refl _⟩
theorem xm {l:List Int} (hb:l.length≤2^40):Fo E O 70 [iG l] 1 l.length (l.map pi):=by
 have:=Fo.ke (f:=70) (args:=[iG l]) (rows:=a7 l) Nat.one_pos (fun F H φ vs w Rv=>by
  cases Rv with|cons a b=>
  cases b
  exact kZ w (jD (Bo a)) hb)
 rw [gU]at this
 simpa [a7]using this
end Go.Proofs.YtppcmpmnglaleaaGreatDoor.A.P
namespace Go.Proofs.YtppcmpmnglaleaaGreatDoor.A
open Go
def Bw (p:bf) (fuel:Int) (s ps:List Int):Int:=(iD p fuel ⟨s,ps⟩).en
def bL (p:bf):Nat:=2^p.w.toNat
def kids (p:bf) (ps:List Int):List (List Int):=(List.range (bL p)).map fun(a:Nat)=>ps++[(a:Int)]
def gH {α:Type}:List (Option (List α))→Option (List α)
 |[]=>some []
 |x::l=>x.bind fun a=>(gH l).map fun b=>a++b
theorem mR {α:Type} (a b:List (Option (List α))):gH (a++b)=(gH a).bind fun x=>(gH b).map fun y=>x++y:=by
 induction a with
 |nil=>simp [gH]
 |cons x a ih=>
  simp only [List.cons_append,gH,ih]
  cases x with
  |none=>rfl
  |some u=>cases gH a<;>cases gH b<;>simp
def leaves (p:bf) (fuel:Int) (s:List Int):Nat→List Int→Option (List (List Int))
 |0,ps=>if Bw p fuel s ps=4 then none else some [ps]
 |d+1,ps=>if Bw p fuel s ps=4 then gH ((kids p ps).map fun q=>leaves p fuel s d q)else some [ps]
def under (p:bf) (fuel:Int) (s ps:List Int):Option (List (List Int)):=leaves p fuel s (16- ps.length) ps
theorem vI {p:bf} {fuel:Int} {s ps:List Int} (h:Bw p fuel s ps≠4):under p fuel s ps=some [ps]:=by
 unfold under
 cases 16- ps.length<;>simp [leaves,h]
theorem Bx {p:bf} {fuel:Int} {s ps:List Int} (h:Bw p fuel s ps=4) (hl:16≤ps.length):under p fuel s ps=none:=by
 unfold under
 rw [show 16- ps.length=0 by omega,leaves,if_pos h]
theorem mS {p:bf} {ps q:List Int} (h:q∈kids p ps):q.length=ps.length+1:=by
 simp only [kids,List.mem_map]at h
 obtain ⟨a,_,rfl⟩:=h
 simp
theorem By {p:bf} {fuel:Int} {s ps:List Int} (h:Bw p fuel s ps=4) (hl:ps.length<16):under p fuel s ps=gH ((kids p ps).map (under p fuel s)):=by
 unfold under
 obtain ⟨d,hd⟩:∃d,16- ps.length=d+1:=⟨15- ps.length,by omega⟩
 rw [hd,leaves,if_pos h]
 congr 1
 refine List.map_congr_left fun q hq=>?_
 rw [mS hq,show 16- (ps.length+1)=d by omega]
def kD (p:bf) (fuel:Int) (s:List Int):Option (List (List Int)):=under p fuel s []
def ofM (p:bf) (fuel:Int) (s:List Int) (most:Nat):Option (List (List Int)):=(kD p fuel s).bind fun l=>if l.length≤most then some l else none
def rest (p:bf) (fuel:Int) (s:List Int) (qx:List (List Int)):Option (List (List Int)):=gH (qx.reverse.map (under p fuel s))
theorem nG {p:bf} {fuel:Int} {s:List Int} (st:List (List Int)) (q:List Int):rest p fuel s (st++[q])=(under p fuel s q).bind fun x=>(rest p fuel s st).map fun y=>x++y:=by
 simp [rest,gH]
theorem Fl {p:bf} {fuel:Int} {s:List Int} (st ks:List (List Int)):rest p fuel s (st++ks.reverse)=(gH (ks.map (under p fuel s))).bind fun x=>(rest p fuel s st).map fun y=>x++y:=by
 simp [rest,mR]
def vJ (qx:List (List Int)):Prop:=∀i q,qx[i]?=some q→i≤255*q.length∧q.length≤16∧∀n∈q,0≤n∧n<256
theorem vK {st:List (List Int)} {q:List Int} (h:vJ (st++[q])):vJ st:=fun i u hi=>h i u (by
 rw [asy (asr.1 hi).1];exact hi)
theorem Fm {qx:List (List Int)} (h:vJ qx):qx.length≤4081:=by
 rcases Nat.eq_zero_or_pos qx.length with h0|h0
 ·omega
 ·have:=h (qx.length- 1) (qx[qx.length- 1]'(by omega)) (asl (by omega))
  have h1:=this.1
  have h2:=this.2.1
  omega
theorem Bz {p:bf} {st:List (List Int)} {q:List Int} (hw:bL p≤256) (h:vJ (st++[q])) (hq:q.length<16):vJ (st++(kids p q).reverse):=by
 intro i u hi
 have hs:=(h st.length q (by simp)).1
 rcases Nat.lt_or_ge i st.length with h1|h1
 ·rw [asy h1]at hi
  exact vK h i u hi
 ·rw [List.getElem?_append_right h1]at hi
  have hu:u∈kids p q:=by
   have:=asq hi
   simpa using this
  have hl:=mS hu
  have EF:i- st.length<(kids p q).length:=by
   have:=(asr.1 hi).1
   simpa using this
  have hk:(kids p q).length=bL p:=by simp [kids]
  refine ⟨by omega,by omega,fun n hn=>?_⟩
  simp only [kids,List.mem_map,List.mem_range]at hu
  obtain ⟨a,ha,rfl⟩:=hu
  rcases List.mem_append.1 hn with h2|h2
  ·exact (h st.length q (by simp)).2.2 n h2
  ·simp at h2;omega
theorem Fp {p:bf} {q:List Int} {j:Nat} (h:j<bL p):(kids p q).reverse.take (j+1)=(kids p q).reverse.take j++[q++[((bL p- 1- j:Nat):Int)]]:=by
 have hl:(kids p q).length=bL p:=by simp [kids]
 rw [List.take_add_one,List.getElem?_reverse (by omega),hl]
 simp only [kids,List.getElem?_map,List.getElem?_range (show bL p- 1- j<bL p by omega)]
 rfl
theorem uq {p:bf} {q:List Int}:(kids p q).reverse.take (bL p)=(kids p q).reverse:=ass (by simp [kids])
def nO (qx:List (List Int)):Nat:=(qx.map fun q=>257^(17- q.length)).sum
theorem mT (a b:List (List Int)):nO (a++b)=nO a+nO b:=by simp [nO]
theorem Fq {p:bf} {q:List Int} (hw:bL p≤256) (hq:q.length<16):nO (kids p q).reverse<257^(17- q.length):=by
 have h1:nO (kids p q).reverse=bL p*257^(16- q.length):=by
  have:∀l:List (List Int),(∀u∈l,u.length=q.length+1)→nO l=l.length*257^(16- q.length):=by
   intro l
   induction l with
   |nil=>intro _;simp [nO]
   |cons u l ih=>
    intro h
    have e:nO (u::l)=257^(17- u.length)+nO l:=by simp [nO]
    rw [e,ih fun v hv=>h v (by simp [hv]),h u (by simp),show 17- (q.length+1)=16- q.length by omega,List.length_cons,Nat.succ_mul]
    omega
  rw [this _ fun u hu=>mS (by simpa using hu)]
  simp [kids]
 rw [h1,show 17- q.length=(16- q.length)+1 by omega,Nat.pow_succ]
 have:0<257^(16- q.length):=Nat.pow_pos (by omega)
 calc bL p*257^(16- q.length)≤256*257^(16- q.length):=Nat.mul_le_mul_right _ hw
  _<257^(16- q.length)*257:=by omega
theorem oA {p:bf} (h:bq p=true):1≤p.w∧p.w≤8:=by
 simp only [bq,aC,bC,aso,asx]at h
 exact h.1.1
theorem q8 {p:bf} (h:bq p=true):bL p≤256:=by
 have h1:=oA h
 have:p.w.toNat≤8:=by omega
 exact Nat.le_trans (Nat.pow_le_pow_right (by omega) this) (by decide)
end Go.Proofs.YtppcmpmnglaleaaGreatDoor.A
namespace Go.Proofs.YtppcmpmnglaleaaGreatDoor.A.P
open Go Go.RowKit
def str (l:List eG):List (List PV):=l.map cF
def ur (l:List eG):List PV:=(str l).flatten
@[simp]theorem acV:str []=[]:=rfl
@[simp]theorem acW:ur []=[]:=rfl
@[simp]theorem zo (a:eG) (l:List eG):ur (a::l)=cF a++ur l:=by simp [ur,str]
theorem eg (a b:List eG):ur (a++b)=ur a++ur b:=by simp [ur,str]
@[simp]theorem BA (l:List eG):(str l).length=l.length:=by simp [str]
@[simp]theorem VJ (t:eG):(cF t).take 2=cF t:=rfl
@[simp]theorem VK (p:bf):(au p).take 3=au p:=rfl
@[simp]theorem Qj (p:bf):(au p).length=3:=rfl
@[simp]theorem Qk (t:eG):(cF t).length=2:=rfl
@[simp]theorem BB:∀l:List eG,(ur l).length=l.length*2
 |[]=>rfl
 |a::l=>by rw [zo,asu,BB l];simp;omega
@[simp]theorem xn:∀l:List eG,(ur l).all uf=true
 |[]=>rfl
 |a::l=>by rw [zo,List.all_append,xn l];simp [uf,cF]
@[simp]theorem acX (l:List eG):dL (ur l)=true:=qe (xn l)
theorem xp (l:List eG) (i:Nat):(str l)[i]?=(l[i]?).map cF:=by simp [str]
theorem Oh (l:List eG):∀r∈str l,r.length=2:=by
 intro r hr
 simp only [str,List.mem_map]at hr
 obtain ⟨t,_,rfl⟩:=hr
 rfl
def cd (p:bf) (fuel:Int):Int:=if bq p=false then 30 else if fuel<0∨4096<fuel then 1 else 0
theorem zp {t:eG} (vH:Bn t):Fz E O 44 [.agg (cF t),.agg (cF t)] (pb true):=by
 refine Fz.body (F:=a44) rfl rfl rfl rfl ?_
 simp (maxSteps:=4000000)-implicitDefEqProofs+contextual [-getElem?_pos,asj,a44,cF]
 refine aN (Du (l:=t.store) (m:=t.store) (by have:=vH.1;omega)) ?_ ?_ ?_
 iterate 2· simp (maxDischargeDepth:=8)-implicitDefEqProofs [-getElem?_pos,asj]
 simp (maxSteps:=4000000)-implicitDefEqProofs+contextual [-getElem?_pos,asj]
 refine aN (Du (l:=t.bS) (m:=t.bS) (by have:=vH.2.1;omega)) ?_ ?_ ?_
 iterate 2· simp (maxDischargeDepth:=8)-implicitDefEqProofs [-getElem?_pos,asj]
 simp (maxSteps:=4000000)-implicitDefEqProofs+contextual [-getElem?_pos,asj]
theorem BC {l:List eG} (ok:∀t∈l,Bn t) (hl:l.length<2^60):Fz E O 16 [.fs 2 (str l),.fs 2 (str l)] (pb true):=by
 refine Fz.body (F:=a16) rfl rfl rfl rfl ?_
 simp (maxSteps:=4000000)-implicitDefEqProofs+contextual [-getElem?_pos,asj,a16]
 refine Js (fun i fr h=>h=[]∧fr.get 0= .fs 2 (str l)∧fr.get 1= .fs 2 (str l)∧fr.get 5=pi i) l.length ?_ ?_
 ·exact ⟨rfl,by simp,by simp,by simp⟩
 rintro i fr h hi ⟨rfl,f0,f1,f5⟩
 by_cases h:i<l.length
 ·obtain ⟨t,ht⟩:∃t,l[i]?=some t:=⟨_,asl h⟩
  have w4:IntKind.i64.wrap ((i:Int)+1)=((i+1:Nat):Int):=ai ⟨by omega,by omega⟩
  simp (maxSteps:=4000000)-implicitDefEqProofs+contextual [-getElem?_pos,asj,f0,f1,f5,h,xp,ht]
  refine aN (zp (ok t (asq ht))) ?_ ?_ ?_
  iterate 2· simp (maxDischargeDepth:=8)-implicitDefEqProofs [-getElem?_pos,asj]
  simp (maxSteps:=4000000)-implicitDefEqProofs+contextual [-getElem?_pos,asj,f0,f1,f5,w4]
  exact .for h ⟨rfl,by simp [f0],by simp [f1],by simp⟩
 ·obtain rfl:i=l.length:=by omega
  simp (maxSteps:=4000000)-implicitDefEqProofs+contextual [-getElem?_pos,asj,f0,f1,f5]
end Go.Proofs.YtppcmpmnglaleaaGreatDoor.A.P
