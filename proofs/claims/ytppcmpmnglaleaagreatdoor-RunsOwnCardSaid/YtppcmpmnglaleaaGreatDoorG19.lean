/- Texts that stand one behind the other: Pm0, Pm1, Pm2, Pm3, Pm4, Pm5, Pm6, Pm7, Pm8. -/
import Derived.Test.YtppcmpmnglaleaaGreatDoorG18
set_option linter.unusedVariables false
set_option linter.unusedSimpArgs false
namespace Go.Proofs.YtppcmpmnglaleaaGreatDoor.A
namespace P
open Go Go.RowKit
def LN:Value→Bool
 | .bool _| .int _ _| .string _| .pointer _| .slice _ _ _| .map _| .nilFunc| .nilIface=>true
 |_=>false
inductive PV where
 |v (x:Value)
 |ref (b o t:Nat)
 |sl (sz b o n c:Nat)
 |mp (b:Nat)
 |fs (sz:Nat) (rows:List (List PV))
 |fp (cells:List PV)
 |agg (cs:List PV)
 |fF (cs:List PV)
 |fn (f:Nat) (first cap:List PV)
 |qg (t:Nat) (p:PV)
 |any
inductive PB where
 |cells (z:Nat) (cs:List PV)
 |map (es:List (Value×PV))
 |dead
abbrev PH:=List PB
structure Cx where
 F:Nat→Prop
 H:AH
 φ:Nat→Nat
 h:PH
mutual
inductive RF (F:Nat→Prop) (H:AH):PV→Value→Prop
 |v (x:Value):RF F H (.v x) x
 |fs {sz:Nat} {rows:List (List PV)} {a:Option Addr} {c:Nat} {rs:List (List Value)}:Rows H sz (.slice a rows.length c) rs→rows.length≤c→(∀d,a=some d→(d.spot=none∨c=0)∧(rows.length=0∨(F d.block∧H.kD d.block sz=true)))→kS F H rows rs→RF F H (.fs sz rows) (.slice a rows.length c)
inductive gY (F:Nat→Prop) (H:AH):List PV→List Value→Prop
 |nil:gY F H [] []
 |cons {p:PV} {x:Value} {ps:List PV} {xs:List Value}:RF F H p x→gY F H ps xs→gY F H (p::ps) (x::xs)
inductive kS (F:Nat→Prop) (H:AH):List (List PV)→List (List Value)→Prop
 |nil:kS F H [] []
 |cons {p:List PV} {x:List Value} {ps:List (List PV)} {xs:List (List Value)}:gY F H p x→kS F H ps xs→kS F H (p::ps) (x::xs)
end
def At (h:PH) (b t:Nat):Prop:=∃z cs,h[b]?=some (.cells z cs)∧cs.length=t
def Le (h:PH) (b t:Nat):Prop:=∀z cs,h[b]?=some (.cells z cs)→t≤cs.length
def cQ (h:PH) (b:Nat):Prop:=∃es,h[b]?=some (.map es)
def aU (h:PH) (b:Nat):Prop:=cQ h b∨∃t,At h b (t+1)
def slV (a sz o n c:Nat) (x:Value):Prop:=(c=0∧n=0∧∃d:Option Addr,x= .slice d 0 0∧∀e,d=some e→e.spot=none)∨(0<c∧x= .slice (some ⟨a,o*sz,none⟩) n c)
def slN (n:Nat) (x:Value):Prop:=∃a c,x= .slice a n c
theorem slN.sm {n:Nat} {x:Value} (h:slN n x):LN x=true:=by
 obtain ⟨_,_,rfl⟩:=h;rfl
mutual
inductive RV (C:Cx):PV→Value→Prop
 |v (x:Value):RV C (.v x) x
 |ref {b o t:Nat} {x:Value}:LN x=true→b<C.h.length→Le C.h b t→(At C.h b t→x= .pointer (some ⟨C.φ b,o,none⟩))→RV C (.ref b o t) x
 |sl {sz b o n c:Nat} {x:Value}:slN n x→b<C.h.length→Le C.h b ((o+c)*sz)→(At C.h b ((o+c)*sz)→slV (C.φ b) sz o n c x)→RV C (.sl sz b o n c) x
 |mp {b:Nat} {x:Value}:LN x=true→b<C.h.length→(cQ C.h b→x= .map (some (C.φ b)))→RV C (.mp b) x
 |fs {sz:Nat} {rows:List (List PV)} {x:Value}:RF C.F C.H (.fs sz rows) x→RV C (.fs sz rows) x
 |fp {cells:List PV} {b o:Nat} {vs:List Value}:C.F b→C.H.ldn ⟨b,o,none⟩ cells.length=some vs→gY C.F C.H cells vs→RV C (.fp cells) (.pointer (some ⟨b,o,none⟩))
 |agg {cs:List PV} {xs:List Value}:cL C cs xs→RV C (.agg cs) (.agg xs.toArray)
 |fF {cs:List PV} {xs:List Value}:cL C cs xs→RV C (.fF cs) (.tuple xs.toArray)
 |fn {f:Nat} {a b:List PV} {xs ys:List Value}:cL C a xs→cL C b ys→RV C (.fn f a b) (.func (.func f) xs.toArray ys.toArray)
 |qg {t:Nat} {p:PV} {x:Value}:RV C p x→RV C (.qg t p) (.iface t x)
 |any (x:Value):RV C .any x
inductive cL (C:Cx):List PV→List Value→Prop
 |nil:cL C [] []
 |cons {p:PV} {x:Value} {ps:List PV} {xs:List Value}:RV C p x→cL C ps xs→cL C (p::ps) (x::xs)
end
theorem cL.length {C:Cx}:∀{ps:List PV} {xs:List Value},cL C ps xs→ps.length=xs.length
 |_,_,.nil=>rfl
 |_,_,.cons _ h=>by simp [cL.length h]
theorem gY.length {F:Nat→Prop} {H:AH}:∀{ps:List PV} {xs:List Value},gY F H ps xs→ps.length=xs.length
 |_,_,.nil=>rfl
 |_,_,.cons _ h=>by simp [gY.length h]
theorem kS.length {F:Nat→Prop} {H:AH}:∀{ps:List (List PV)} {xs:List (List Value)},kS F H ps xs→ps.length=xs.length
 |_,_,.nil=>rfl
 |_,_,.cons _ h=>by simp [kS.length h]
structure dO (C:Cx):Prop where
 wf:C.H.n0≤C.H.nx
 fz:∀x,C.F x→x<C.H.nx
 inj:∀b b',aU C.h b→aU C.h b'→C.φ b=C.φ b'→b=b'
 aR:∀b z cs,C.h[b]?=some (.cells z cs)→cs≠[]→∃vs,C.H.get (C.φ b)=some (.cells z vs)∧cL C cs vs∧C.H.n0≤C.φ b∧¬ C.F (C.φ b)
 yp:∀b es,C.h[b]?=some (.map es)→∃ys,C.H.get (C.φ b)=some (.map ys)∧es.map (·.1)=ys.map (·.1)∧cL C (es.map (·.2)) (ys.map (·.2))∧C.H.n0≤C.φ b∧¬ C.F (C.φ b)
def im (C:Cx) (W:Nat→Prop) (x:Nat):Prop:=∃b,W b∧aU C.h b∧C.φ b=x
structure dH (n:Nat) (W:Nat→Prop) (C D:Cx):Prop where
 n0:D.H.n0=C.H.n0
 nx:C.H.nx≤D.H.nx
 fz:∀x,C.F x→D.F x∧D.H.get x=C.H.get x
 fo:∀x,x<C.H.nx→¬ im C (fun _=>True) x→D.F x→C.F x
 out:∀x,x<C.H.nx→¬ im C W x→D.H.get x=C.H.get x
 loc:∀b,aU D.h b→C.H.nx≤D.φ b∨(aU C.h b∧D.φ b=C.φ b)
 len:n≤C.h.length→n≤D.h.length
 le:∀b,b<n→b<C.h.length→∀t,Le C.h b t→Le D.h b t
 uD:∀b,b<n→b<C.h.length→∀t,Le C.h b t→At D.h b t→At C.h b t∧D.φ b=C.φ b
 vY:∀b,b<n→b<C.h.length→cQ D.h b→cQ C.h b∧D.φ b=C.φ b
theorem dH.mono {n m:Nat} {W V:Nat→Prop} {C D:Cx} (h:dH n W C D) (c:m≤n) (f:∀b,W b→V b) (e:m≤C.h.length→m≤D.h.length):dH m V C D where
 n0:=h.n0
 nx:=h.nx
 fz:=h.fz
 fo:=h.fo
 out:=fun x d k=>h.out x d fun⟨b,a,q⟩=>k ⟨b,f b a,q⟩
 loc:=h.loc
 len:=e
 le:=fun b a=>h.le b (aq3 a c)
 uD:=fun b a=>h.uD b (aq3 a c)
 vY:=fun b a=>h.vY b (aq3 a c)
theorem im.lt {C:Cx} (S:dO C) {W:Nat→Prop} {x:Nat} (h:im C W x):x<C.H.nx:=by
 obtain ⟨b,_,f,rfl⟩:=h;rcases f with⟨es,c⟩|⟨t,z,cs,c,d⟩
 ·obtain ⟨_,a,_⟩:=S.yp b es c
  exact AH.aS a
 ·obtain ⟨_,a,_⟩:=S.aR b z cs c (by intro e;subst e;simp at d)
  exact AH.aS a
theorem dH.refl (n:Nat) (W:Nat→Prop) (C:Cx):dH n W C C where
 n0:=rfl
 nx:=aqK _
 fz:=fun x a=>⟨a,rfl⟩
 fo:=fun _ _ _ h=>h
 out:=fun _ _ _=>rfl
 loc:=fun b c=>.inr ⟨c,rfl⟩
 len:=id
 le:=fun _ _ _ _ h=>h
 uD:=fun _ _ _ _ _ h=>⟨h,rfl⟩
 vY:=fun _ _ _ h=>⟨h,rfl⟩
theorem dH.trans {n:Nat} {V W U:Nat→Prop} {C D X:Cx} (h:dH n V C D) (k:dH n W D X) (m:n≤C.h.length) (z:∀b,V b→U b) (y:∀b,W b→U b):dH n U C X where
 n0:=k.n0.trans h.n0
 nx:=aq2 h.nx k.nx
 fz:=fun x i=>by
  obtain ⟨a,b⟩:=h.fz x i;obtain ⟨c,d⟩:=k.fz x a;exact ⟨c,d.trans b⟩
 fo:=fun x i hi w=>by
  refine h.fo x i hi (k.fo x (aq3 i h.nx) ?_ w);rintro ⟨b,_,j,rfl⟩;rcases h.loc b j with q|⟨q,e⟩
  ·omega
  ·exact hi ⟨b,trivial,q,e.symm⟩
 out:=fun x i hi=>by
  have e:=h.out x i fun⟨b,f,q⟩=>hi ⟨b,z b f,q⟩
  rw [←e];refine k.out x (aq3 i h.nx) ?_;rintro ⟨b,f,j,rfl⟩;rcases h.loc b j with q|⟨q,e⟩
  ·omega
  ·exact hi ⟨b,y b f,q,e.symm⟩
 loc:=fun b f=>by
  rcases k.loc b f with q|⟨j,e⟩
  ·exact .inl (aq2 h.nx q)
  ·rcases h.loc b j with q|⟨v,A⟩
   ·exact .inl (by omega)
   ·exact .inr ⟨v,e.trans A⟩
 len:=fun g=>k.len (h.len g)
 le:=fun b f g t l=>k.le b f (aq3 f (h.len m)) t (h.le b f g t l)
 uD:=fun b f g t l o=>by
  obtain ⟨u,s⟩:=k.uD b f (aq3 f (h.len m)) t (h.le b f g t l) o;obtain ⟨r,p⟩:=h.uD b f g t l u;exact ⟨r,s.trans p⟩
 vY:=fun b f g o=>by
  obtain ⟨u,s⟩:=k.vY b f (aq3 f (h.len m)) o;obtain ⟨r,p⟩:=h.vY b f g u;exact ⟨r,s.trans p⟩
theorem HD {H H':AH} {b sz:Nat} (h:H'.get b=H.get b):H'.kD b sz=H.kD b sz:=by unfold AH.kD;rw [h]
section
variable{F F':Nat→Prop} {H H':AH} (n0:H'.n0=H.n0) (hF:∀x,F x→F' x∧H'.get x=H.get x)
theorem Rows.fz {sz:Nat} {a:Option Addr} {n c:Nat} {rs:List (List Value)} (n0:H'.n0=H.n0) (hF:∀x,F x→F' x∧H'.get x=H.get x) (h:Rows H sz (.slice a n c) rs) (k:∀d,a=some d→(d.spot=none∨c=0)∧(n=0∨(F d.block∧H.kD d.block sz=true))):Rows H' sz (.slice a n c) rs∧(∀d,a=some d→(d.spot=none∨c=0)∧(n=0∨(F' d.block∧H'.kD d.block sz=true))):=by
 obtain ⟨s,p,e,q⟩:=h.is;cases e;refine ⟨⟨_,_,rfl,fun i r hi=>?_⟩,fun d g=>?_⟩
 ·obtain ⟨b,o,rfl,m⟩:=q i r hi
  refine ⟨b,o,rfl,?_⟩;rcases (k _ rfl).2 with j|⟨f,_⟩
  ·have:=(aqM.1 hi).1;omega
  ·rw [←m]
   exact eR (hF b f).2 n0
 ·refine ⟨(k d g).1,?_⟩
  rcases (k d g).2 with j|⟨f,l⟩
  ·exact .inl j
  ·exact .inr ⟨(hF _ f).1,by rw [HD (hF _ f).2];exact l⟩
mutual
theorem RF.mono (n0:H'.n0=H.n0) (hF:∀x,F x→F' x∧H'.get x=H.get x):∀{p:PV} {x:Value},RF F H p x→RF F' H' p x
 |_,_,.v x=>.v x
 |_,_,.fs b c d a=>let q:=Rows.fz n0 hF b d; .fs q.1 c q.2 (kS.mono n0 hF a)
theorem gY.mono (n0:H'.n0=H.n0) (hF:∀x,F x→F' x∧H'.get x=H.get x):∀{p:List PV} {x:List Value},gY F H p x→gY F' H' p x
 |_,_,.nil=>.nil
 |_,_,.cons a b=>.cons (RF.mono n0 hF a) (gY.mono n0 hF b)
theorem kS.mono (n0:H'.n0=H.n0) (hF:∀x,F x→F' x∧H'.get x=H.get x):∀{p:List (List PV)} {x:List (List Value)},kS F H p x→kS F' H' p x
 |_,_,.nil=>.nil
 |_,_,.cons a b=>.cons (gY.mono n0 hF a) (kS.mono n0 hF b)
end
end
mutual
theorem RV.step {W:Nat→Prop} {C D:Cx} (h:dH C.h.length W C D):∀{p:PV} {x:Value},RV C p x→RV D p x
 |_,_, .v x=> .v x
 |_,_, .ref f c d k=> .ref f (aq3 c (h.len (aqK _))) (h.le _ c c _ d) fun e=>by
  obtain ⟨i,g⟩:=h.uD _ c c _ d e;rw [g];exact k i
 |_,_, .sl f c d k=> .sl f (aq3 c (h.len (aqK _))) (h.le _ c c _ d) fun e=>by
  obtain ⟨i,g⟩:=h.uD _ c c _ d e;rw [g];exact k i
 |_,_, .mp f c k=> .mp f (aq3 c (h.len (aqK _))) fun e=>by
  obtain ⟨i,g⟩:=h.vY _ c c e;rw [g];exact k i
 |_,_, .fs k=> .fs (k.mono h.n0 h.fz)
 |_,_, .fp j d k=> .fp (h.fz _ j).1 (by rw [←d];exact eR (h.fz _ j).2 h.n0) (k.mono h.n0 h.fz)
 |_,_, .agg k=> .agg (cL.step h k)
 |_,_, .fF k=> .fF (cL.step h k)
 |_,_, .fn a b=> .fn (cL.step h a) (cL.step h b)
 |_,_, .qg a=> .qg (RV.step h a)
 |_,_, .any x=> .any x
theorem cL.step {W:Nat→Prop} {C D:Cx} (h:dH C.h.length W C D):∀{p:List PV} {x:List Value},cL C p x→cL D p x
 |_,_, .nil=> .nil
 |_,_, .cons a b=> .cons (RV.step h a) (cL.step h b)
end
theorem cL.get {C:Cx}:∀{ps:List PV} {xs:List Value},cL C ps xs→∀{i:Nat} {p:PV},ps[i]?=some p→∃x,xs[i]?=some x∧RV C p x
 |_,_,.nil,i,p,h=>by simp at h
 |_,_,.cons a b,0,p,h=>by simp at h;subst h;exact ⟨_,rfl,a⟩
 |_,_,.cons a b,i+1,p,h=>by simpa using cL.get b (by simpa using h)
theorem cL.drop {C:Cx}:∀{ps:List PV} {xs:List Value},cL C ps xs→∀n,cL C (ps.drop n) (xs.drop n)
 |_,_,.nil,n=>by simp;exact .nil
 |_,_,.cons a b,0=>.cons a b
 |_,_,.cons a b,n+1=>by simpa using cL.drop b n
theorem cL.take {C:Cx}:∀{ps:List PV} {xs:List Value},cL C ps xs→∀n,cL C (ps.take n) (xs.take n)
 |_,_,.nil,n=>by simp;exact .nil
 |_,_,.cons a b,0=>.nil
 |_,_,.cons a b,n+1=>by simpa using cL.cons a (cL.take b n)
theorem cL.append {C:Cx}:∀{ps:List PV} {xs:List Value} {c:List PV} {ys:List Value},cL C ps xs→cL C c ys→cL C (ps++c) (xs++ys)
 |_,_,_,_,.nil,k=>k
 |_,_,_,_,.cons a b,k=>.cons a (cL.append b k)
theorem cL.lits {C:Cx}:∀(l:List Value),cL C (l.map .v) l
 |[]=>.nil
 |x::l=>.cons (.v x) (cL.lits l)
theorem cL.Xq {C:Cx} {ps:List PV} {xs:List Value} (h:cL C ps xs):∀n,cL C (List.replicate n ps).flatten (List.replicate n xs).flatten
 |0=>.nil
 |n+1=>by simpa [List.replicate_succ]using h.append (h.Xq n)
theorem gY.qS {C:Cx}:∀{ps:List PV} {xs:List Value},gY C.F C.H ps xs→cL C ps xs
 |_,_,.nil=>.nil
 |_,_,.cons (.v x) b=>.cons (.v x) (gY.qS b)
 |_,_,.cons (.fs a b c d) e=>.cons (.fs (.fs a b c d)) (gY.qS e)
theorem RF.qS {C:Cx}:∀{p:PV} {x:Value},RF C.F C.H p x→RV C p x
 |_,_,.v x=>.v x
 |_,_,.fs a b c d=>.fs (.fs a b c d)
theorem gY.drop {F:Nat→Prop} {H:AH}:∀{ps:List PV} {xs:List Value},gY F H ps xs→∀n,gY F H (ps.drop n) (xs.drop n)
 |_,_,.nil,n=>by simp;exact .nil
 |_,_,.cons a b,0=>.cons a b
 |_,_,.cons a b,n+1=>by simpa using gY.drop b n
theorem gY.take {F:Nat→Prop} {H:AH}:∀{ps:List PV} {xs:List Value},gY F H ps xs→∀n,gY F H (ps.take n) (xs.take n)
 |_,_,.nil,n=>by simp;exact .nil
 |_,_,.cons a b,0=>.nil
 |_,_,.cons a b,n+1=>by simpa using gY.cons a (gY.take b n)
theorem kS.get {F:Nat→Prop} {H:AH}:∀{ps:List (List PV)} {xs:List (List Value)},kS F H ps xs→∀{i:Nat} {p:List PV},ps[i]?=some p→∃x,xs[i]?=some x∧gY F H p x
 |_,_,.nil,i,p,h=>by simp at h
 |_,_,.cons a b,0,p,h=>by simp at h;subst h;exact ⟨_,rfl,a⟩
 |_,_,.cons a b,i+1,p,h=>by simpa using kS.get b (by simpa using h)
theorem kS.drop {F:Nat→Prop} {H:AH}:∀{ps:List (List PV)} {xs:List (List Value)},kS F H ps xs→∀n,kS F H (ps.drop n) (xs.drop n)
 |_,_,.nil,n=>by simp;exact .nil
 |_,_,.cons a b,0=>.cons a b
 |_,_,.cons a b,n+1=>by simpa using kS.drop b n
theorem kS.take {F:Nat→Prop} {H:AH}:∀{ps:List (List PV)} {xs:List (List Value)},kS F H ps xs→∀n,kS F H (ps.take n) (xs.take n)
 |_,_,.nil,n=>by simp;exact .nil
 |_,_,.cons a b,0=>.nil
 |_,_,.cons a b,n+1=>by simpa using kS.cons a (kS.take b n)
theorem kS.flat {F:Nat→Prop} {H:AH}:∀{ps:List (List PV)} {xs:List (List Value)},kS F H ps xs→gY F H ps.flatten xs.flatten
 |_,_,.nil=>.nil
 |_,_,.cons a b=>by
  have ap:∀{ps:List PV} {xs:List Value} {d:List PV} {c:List Value},gY F H ps xs→gY F H d c→gY F H (ps++d) (xs++c):=by
   intro ps xs d c h k
   induction ps generalizing xs with
   |nil=>cases h;exact k
   |cons p ps ih=>cases h with|cons a b=>exact .cons a (ih b)
  simpa using ap a (kS.flat b)
end P
namespace P
open Go Go.RowKit
theorem cR {h a:PH} {b:Nat} (e:a[b]?=h[b]?):aU a b↔aU h b:=by unfold aU cQ At;rw [e]
theorem qT {h a:PH} {b t:Nat} (e:a[b]?=h[b]?):At a b t↔At h b t:=by unfold At;rw [e]
theorem qU {h a:PH} {b t:Nat} (e:a[b]?=h[b]?):Le a b t↔Le h b t:=by unfold Le;rw [e]
theorem fh {h a:PH} {b:Nat} (e:a[b]?=h[b]?):cQ a b↔cQ h b:=by unfold cQ;rw [e]
theorem bU {h:PH} {b z:Nat} {cs:List PV} (e:h[b]?=some (.cells z cs)) (a:cs≠[]):aU h b:=by
 refine .inr ⟨cs.length- 1,z,cs,e,?_⟩;have:=List.length_pos_iff.2 a;omega
theorem ew {h:PH} {b:Nat} {es:List (Value×PV)} (e:h[b]?=some (.map es)):aU h b:=.inl ⟨es,e⟩
theorem jo {h:PH} {b:Nat} (s:aU h b):(∃es,h[b]?=some (.map es))∨∃z cs,h[b]?=some (.cells z cs)∧cs≠[]:=by
 rcases s with⟨es,e⟩|⟨t,z,cs,e,a⟩
 ·exact .inl ⟨es,e⟩
 ·exact .inr ⟨z,cs,e,by rintro rfl;simp at a⟩
theorem aQ {h:PH} {b:Nat} (s:aU h b):b<h.length:=by
 rcases jo s with⟨es,e⟩|⟨z,cs,e,_⟩<;>exact (aqM.1 e).1
theorem dO.lt {C:Cx} (S:dO C) {b:Nat} (s:aU C.h b):C.φ b<C.H.nx:=im.lt S (W:=fun _=>True) ⟨b,trivial,s,rfl⟩
theorem dO.old {C:Cx} (S:dO C) {b:Nat} (s:aU C.h b):C.H.n0≤C.φ b∧¬ C.F (C.φ b):=by
 rcases jo s with⟨es,e⟩|⟨z,cs,e,c⟩
 ·obtain ⟨_,_,_,_,a,b⟩:=S.yp _ _ e;exact ⟨a,b⟩
 ·obtain ⟨_,_,_,a,b⟩:=S.aR _ _ _ e c;exact ⟨a,b⟩
theorem dO.of {C D:Cx} {W:Nat→Prop} (S:dO C) (T:dH C.h.length W C D) (o:D.F=C.F) (f:Nat) (g:∀b,b≠f→D.h[b]?=C.h[b]?∧D.φ b=C.φ b)
 (q:∀b,b≠f→aU C.h b→D.H.get (C.φ b)=C.H.get (C.φ b)) (p:∀b,b≠f→aU C.h b→aU D.h f→D.φ f≠C.φ b)
 (u:∀z cs,D.h[f]?=some (.cells z cs)→cs≠[]→∃vs,D.H.get (D.φ f)=some (.cells z vs)∧cL C cs vs∧D.H.n0≤D.φ f∧¬ D.F (D.φ f))
 (t:∀es,D.h[f]?=some (.map es)→∃ys,D.H.get (D.φ f)=some (.map ys)∧es.map (·.1)=ys.map (·.1)∧cL C (es.map (·.2)) (ys.map (·.2))∧D.H.n0≤D.φ f∧¬ D.F (D.φ f)):dO D where
 wf:=by rw [T.n0];exact aq2 S.wf T.nx
 fz:=fun x r=>aq3 (S.fz x (o▸r)) T.nx
 inj:=fun b k s m e=>by
  by_cases h:b=f
  ·by_cases i:k=f
   ·omega
   ·subst h
    have l:=(cR (g _ i).1).1 m;rw [(g _ i).2]at e;exact absurd e (p _ i l s)
  ·by_cases i:k=f
   ·subst i
    have l:=(cR (g _ h).1).1 s;rw [(g _ h).2]at e;exact absurd e.symm (p _ h l m)
   ·rw [(g _ h).2,(g _ i).2]at e
    exact S.inj _ _ ((cR (g _ h).1).1 s) ((cR (g _ i).1).1 m) e
 aR:=fun b z cs e n=>by
  by_cases h:b=f
  ·subst h
   obtain ⟨vs,a,b,c⟩:=u z cs e n;exact ⟨vs,a,b.step T,c⟩
  ·have j:=e
   rw [(g _ h).1]at j;obtain ⟨vs,a,k,c,d⟩:=S.aR _ _ _ j n;rw [(g _ h).2,o,T.n0];exact ⟨vs,(q _ h (bU j n)).trans a,k.step T,c,d⟩
 yp:=fun b es e=>by
  by_cases h:b=f
  ·subst h
   obtain ⟨ys,a,b,c,d⟩:=t es e;exact ⟨ys,a,b,c.step T,d⟩
  ·have j:=e
   rw [(g _ h).1]at j;obtain ⟨ys,a,k,c,d⟩:=S.yp _ _ j;rw [(g _ h).2,o,T.n0];exact ⟨ys,(q _ h (ew j)).trans a,k,c.step T,d⟩
def BW (φ:Nat→Nat) (b x:Nat):Nat→Nat:=fun c=>if c=b then x else φ c
theorem gH (φ:Nat→Nat) (b x:Nat):BW φ b x b=x:=by simp [BW]
theorem me {φ:Nat→Nat} {b x c:Nat} (h:c≠b):BW φ b x c=φ c:=by simp [BW,h]
theorem jV {h:PH} {P:PB} {b:Nat} (a:b≠h.length):(h++[P])[b]?=h[b]?:=by
 rcases Nat.lt_or_ge b h.length with k|k
 ·rw [aqT k]
 ·rw [aqX k,arn (by simp;omega),arn k]
theorem kT (h:PH) (P:PB):(h++[P])[h.length]?=some P:=by simp
theorem dO.new {C:Cx} (S:dO C) {P:PB} {B:pP} (W:Nat→Prop)
 (i:(∃z cs vs,P= .cells z cs∧B= .cells z vs∧cL C cs vs)∨(∃es ys,P= .map es∧B= .map ys∧es.map (·.1)=ys.map (·.1)∧cL C (es.map (·.2)) (ys.map (·.2)))):
 dO ⟨C.F,C.H.alloc B,BW C.φ C.h.length C.H.nx,C.h++[P]⟩∧dH C.h.length W C ⟨C.F,C.H.alloc B,BW C.φ C.h.length C.H.nx,C.h++[P]⟩:=by
 have T:dH C.h.length W C ⟨C.F,C.H.alloc B,BW C.φ C.h.length C.H.nx,C.h++[P]⟩:={
  n0:=rfl
  nx:=aq7 _
  fz:=fun x d=>⟨d,by have:=S.fz x d;rw [AH.dF,if_neg (by omega)]⟩
  fo:=fun _ _ _ h=>h
  out:=fun x d _=>by rw [AH.dF,if_neg (by omega)]
  loc:=fun b a=>by
   by_cases h:b=C.h.length
   ·subst h;left;show _≤BW _ _ _ _;rw [gH];exact aqK _
   ·right;exact ⟨(cR (jV h)).1 a,me h⟩
  len:=fun _=>by simp
  le:=fun b a _ t k=>(qU (jV (by omega))).2 k
  uD:=fun b a _ t _ g=>⟨(qT (jV (by omega))).1 g,me (by omega)⟩
  vY:=fun b a _ g=>⟨(fh (jV (by omega))).1 g,me (by omega)⟩}
 refine ⟨S.of T rfl C.h.length (fun b a=>⟨jV a,me a⟩) (fun b a s=>?_) (fun b a s _=>?_) (fun z cs e o=>?_) (fun es e=>?_),T⟩
 ·have:=S.lt s;show(C.H.alloc B).get _=_;rw [AH.dF,if_neg (by omega)]
 ·have:=S.lt s;show BW _ _ _ _≠_;rw [gH];omega
 ·have e:some P=some (.cells z cs):=(kT _ _).symm.trans e
  cases e;rcases i with⟨j,n,vs,c,rfl,f⟩|⟨es,ys,c,_⟩
  ·cases c
   refine ⟨vs,?_,f,?_,?_⟩<;>dsimp only<;>rw [gH]
   ·exact cq _ _
   ·exact S.wf
   ·intro q;exact absurd (S.fz _ q) (Nat.lt_irrefl _)
  ·cases c
 ·have e:some P=some (.map es):=(kT _ _).symm.trans e
  cases e;rcases i with⟨j,n,vs,c,_⟩|⟨m,ys,c,rfl,l,f⟩
  ·cases c
  ·cases c
   refine ⟨ys,?_,l,f,?_,?_⟩<;>dsimp only<;>rw [gH]
   ·exact cq _ _
   ·exact S.wf
   ·intro q;exact absurd (S.fz _ q) (Nat.lt_irrefl _)
theorem eT {h:PH} {P:PB} {b c:Nat} (a:c≠b):(h.set b P)[c]?=h[c]?:=aq4 (Ne.symm a)
theorem eG {h:PH} {P:PB} {b:Nat} (a:b<h.length):(h.set b P)[b]?=some P:=by simp [List.getElem?_set,a]
theorem dO.put {C:Cx} (S:dO C) {b z:Nat} {cs ds:List PV} {vs:List Value} {W:Nat→Prop} (v:W b) (l:C.h[b]?=some (.cells z cs)) (d:cs≠[]) (j:ds.length=cs.length) (r:cL C ds vs):
 dO ⟨C.F,C.H.put (C.φ b) (some (.cells z vs)),C.φ,C.h.set b (.cells z ds)⟩∧dH C.h.length W C ⟨C.F,C.H.put (C.φ b) (some (.cells z vs)),C.φ,C.h.set b (.cells z ds)⟩:=by
 have a:=bU l d;have i:=S.lt a;have f:=aQ a;have w:ds≠[]:=by intro e;subst e;simp at j;exact d (aq9.1 j.symm)
 have u:∀t,At (C.h.set b (.cells z ds)) b t→At C.h b t:=by
  rintro t ⟨m,q,e,rfl⟩;rw [eG f]at e;cases e;exact ⟨z,cs,l,j.symm⟩
 have T:dH C.h.length W C ⟨C.F,C.H.put (C.φ b) (some (.cells z vs)),C.φ,C.h.set b (.cells z ds)⟩:={
  n0:=rfl
  nx:=aqK _
  fz:=fun x k=>⟨k,by rw [AH.bG _ _ _ _ i,if_neg];rintro rfl;exact (S.old a).2 k⟩
  fo:=fun _ _ _ h=>h
  out:=fun x k hi=>by rw [AH.bG _ _ _ _ i,if_neg];rintro rfl;exact hi ⟨b,v,a,rfl⟩
  loc:=fun c o=>by
   right;by_cases h:c=b
   ·subst h;exact ⟨a,rfl⟩
   ·exact ⟨(cR (eT h)).1 o,rfl⟩
  len:=fun _=>by simp
  le:=fun c p _ t n=>by
   by_cases h:c=b
   ·subst h
    intro m q e;rw [eG f]at e;cases e;rw [j];exact n _ _ l
   ·exact (qU (eT h)).2 n
  uD:=fun c p _ t _ g=>by
   by_cases h:c=b
   ·subst h;exact ⟨u t g,rfl⟩
   ·exact ⟨(qT (eT h)).1 g,rfl⟩
  vY:=fun c p _ g=>by
   by_cases h:c=b
   ·subst h;obtain ⟨es,e⟩:=g;rw [eG f]at e;cases e
   ·exact ⟨(fh (eT h)).1 g,rfl⟩}
 refine ⟨S.of T rfl b (fun c d=>⟨eT d,rfl⟩) (fun c d s=>?_) (fun c d s _ e=>d (S.inj _ _ s a e.symm)) (fun m q e o=>?_) (fun es e=>?_),T⟩
 ·show(C.H.put _ _).get _=_
  rw [AH.bG _ _ _ _ i,if_neg];exact fun e=>d (S.inj _ _ s a e)
 ·have e:=(eG f).symm.trans e
  cases e;refine ⟨vs,?_,r,(S.old a)⟩;show(C.H.put _ _).get _=_;rw [AH.bG _ _ _ _ i,if_pos rfl]
 ·have e:=(eG f).symm.trans e
  cases e
theorem dO.agk {C:Cx} (S:dO C) {b:Nat} {es fs:List (Value×PV)} {ys:List (Value×Value)} {W:Nat→Prop} (u:W b) (n:C.h[b]?=some (.map es)) (r:fs.map (·.1)=ys.map (·.1)) (p:cL C (fs.map (·.2)) (ys.map (·.2))):
 dO ⟨C.F,C.H.put (C.φ b) (some (.map ys)),C.φ,C.h.set b (.map fs)⟩∧dH C.h.length W C ⟨C.F,C.H.put (C.φ b) (some (.map ys)),C.φ,C.h.set b (.map fs)⟩:=by
 have a:=ew n;have f:=S.lt a;have g:=aQ a
 have T:dH C.h.length W C ⟨C.F,C.H.put (C.φ b) (some (.map ys)),C.φ,C.h.set b (.map fs)⟩:={
  n0:=rfl
  nx:=aqK _
  fz:=fun x j=>⟨j,by rw [AH.bG _ _ _ _ f,if_neg];rintro rfl;exact (S.old a).2 j⟩
  fo:=fun _ _ _ h=>h
  out:=fun x j hi=>by rw [AH.bG _ _ _ _ f,if_neg];rintro rfl;exact hi ⟨b,u,a,rfl⟩
  loc:=fun c l=>by
   right;by_cases h:c=b
   ·subst h;exact ⟨a,rfl⟩
   ·exact ⟨(cR (eT h)).1 l,rfl⟩
  len:=fun _=>by simp
  le:=fun c m _ t q=>by
   by_cases h:c=b
   ·subst h
    intro k o e;rw [eG g]at e;cases e
   ·exact (qU (eT h)).2 q
  uD:=fun c m _ t _ i=>by
   by_cases h:c=b
   ·subst h;obtain ⟨k,o,e,_⟩:=i;rw [eG g]at e;cases e
   ·exact ⟨(qT (eT h)).1 i,rfl⟩
  vY:=fun c m _ i=>by
   by_cases h:c=b
   ·subst h;exact ⟨⟨es,n⟩,rfl⟩
   ·exact ⟨(fh (eT h)).1 i,rfl⟩}
 refine ⟨S.of T rfl b (fun c d=>⟨eT d,rfl⟩) (fun c d s=>?_) (fun c d s _ e=>d (S.inj _ _ s a e.symm)) (fun k o e l=>?_) (fun es e=>?_),T⟩
 ·show(C.H.put _ _).get _=_
  rw [AH.bG _ _ _ _ f,if_neg];exact fun e=>d (S.inj _ _ s a e)
 ·have e:=(eG g).symm.trans e
  cases e
 ·have e:=(eG g).symm.trans e
  cases e;refine ⟨ys,?_,r,p,(S.old a)⟩;show(C.H.put _ _).get _=_;rw [AH.bG _ _ _ _ f,if_pos rfl]
theorem dO.grow {C:Cx} (S:dO C) {b z:Nat} {cs ds:List PV} {vs:List Value} {H1:AH} {W:Nat→Prop} (A:W b) (j:C.h[b]?=some (.cells z cs)) (B:cs.length<ds.length) (w:cL C ds vs)
 (k:(cs=[]∧H1=C.H)∨(cs≠[]∧H1=C.H.put (C.φ b) none)):
 dO ⟨C.F,H1.alloc (.cells z vs),BW C.φ b C.H.nx,C.h.set b (.cells z ds)⟩∧dH C.h.length W C ⟨C.F,H1.alloc (.cells z vs),BW C.φ b C.H.nx,C.h.set b (.cells z ds)⟩:=by
 have f:=(aqM.1 j).1;have v:H1.nx=C.H.nx:=by rcases k with⟨_,rfl⟩|⟨_,rfl⟩<;>rfl
 have n:H1.n0=C.H.n0:=by rcases k with⟨_,rfl⟩|⟨_,rfl⟩<;>rfl
 have l:∀x,x<C.H.nx→(∀(_:aU C.h b),x≠C.φ b)→(H1.alloc (.cells z vs)).get x=C.H.get x:=by
  intro x d y;rw [AH.dF,if_neg (by omega)];rcases k with⟨_,rfl⟩|⟨a,rfl⟩
  ·rfl
  ·rw [AH.rV,if_neg (y (bU j a))]
 have T:dH C.h.length W C ⟨C.F,H1.alloc (.cells z vs),BW C.φ b C.H.nx,C.h.set b (.cells z ds)⟩:={
  n0:=n
  nx:=by show _≤H1.nx+1;omega
  fz:=fun x d=>⟨d,l x (S.fz x d) fun s e=>(S.old s).2 (e▸d)⟩
  fo:=fun _ _ _ h=>h
  out:=fun x d hi=>l x d fun s e=>hi ⟨b,A,s,e.symm⟩
  loc:=fun c o=>by
   by_cases h:c=b
   ·subst h;left;show _≤BW _ _ _ _;rw [gH];exact aqK _
   ·right;exact ⟨(cR (eT h)).1 o,me h⟩
  len:=fun _=>by simp
  le:=fun c p _ t i=>by
   by_cases h:c=b
   ·subst h
    intro m r e;rw [eG f]at e;cases e;have:=i _ _ j;omega
   ·exact (qU (eT h)).2 i
  uD:=fun c p _ t i g=>by
   by_cases h:c=b
   ·subst h
    obtain ⟨m,r,e,rfl⟩:=g;rw [eG f]at e;cases e;have:=i _ _ j;omega
   ·exact ⟨(qT (eT h)).1 g,me h⟩
  vY:=fun c p _ g=>by
   by_cases h:c=b
   ·subst h;obtain ⟨es,e⟩:=g;rw [eG f]at e;cases e
   ·exact ⟨(fh (eT h)).1 g,me h⟩}
 refine ⟨S.of T rfl b (fun c a=>⟨eT a,me a⟩) (fun c a s=>?_) (fun c a s _=>?_) (fun m r e o=>?_) (fun es e=>?_),T⟩
 ·exact l _ (S.lt s) fun u e=>a (S.inj _ _ s u e)
 ·have:=S.lt s;show BW _ _ _ _≠_;rw [gH];omega
 ·have e:=(eG f).symm.trans e
  cases e;refine ⟨vs,?_,w,?_,?_⟩<;>dsimp only<;>rw [gH]
  ·rw [←v];exact cq _ _
  ·show H1.n0≤_;rw [n];exact S.wf
  ·intro q;exact absurd (S.fz _ q) (Nat.lt_irrefl _)
 ·have e:=(eG f).symm.trans e
  cases e
theorem dO.void {C:Cx} (S:dO C) (z:Nat) (W:Nat→Prop):dO ⟨C.F,C.H,C.φ,C.h++[.cells z []]⟩∧dH C.h.length W C ⟨C.F,C.H,C.φ,C.h++[.cells z []]⟩:=by
 have f:¬ aU (C.h++[.cells z []]) C.h.length:=fun s=>by
  rcases jo s with⟨es,e⟩|⟨k,cs,e,c⟩
  ·rw [kT]at e;cases e
  ·rw [kT]at e;cases e;exact c rfl
 have T:dH C.h.length W C ⟨C.F,C.H,C.φ,C.h++[.cells z []]⟩:={
  n0:=rfl
  nx:=aqK _
  fz:=fun x g=>⟨g,rfl⟩
  fo:=fun _ _ _ h=>h
  out:=fun x g _=>rfl
  loc:=fun b a=>by
   by_cases h:b=C.h.length
   ·subst h;exact absurd a f
   ·right;exact ⟨(cR (jV h)).1 a,rfl⟩
  len:=fun _=>by simp
  le:=fun b a _ t j=>(qU (jV (by omega))).2 j
  uD:=fun b a _ t _ d=>⟨(qT (jV (by omega))).1 d,rfl⟩
  vY:=fun b a _ d=>⟨(fh (jV (by omega))).1 d,rfl⟩}
 refine ⟨S.of T rfl C.h.length (fun b a=>⟨jV a,rfl⟩) (fun b a s=>rfl) (fun b a s i=>absurd i f) (fun z cs e c=>?_) (fun es e=>?_),T⟩
 ·have e:=(kT _ _).symm.trans e;cases e;exact absurd rfl c
 ·have e:=(kT _ _).symm.trans e;cases e
open Go Go.RowKit
def uc {α:Type}:List α→Nat→List α→List α
 |c,0,vs=>vs++c.drop vs.length
 |x::c,k+1,vs=>x::uc c k vs
 |[],_+1,_=>[]
def wW:Value→PV
 | .agg cs=>.agg (cs.toList.map .v)
 |x=>.v x
def dC:PV→Option (List PV)
 | .agg cs=>some cs
 | .fF _=>none
 | .any=>none
 | .v (.agg cs)=>some (cs.toList.map .v)
 | .v (.tuple _)=>none
 |p=>some [p]
def pr:List PV→List (Nat×Nat×PV)→Option (List PV)
 |c,[]=>some c
 |c,(off,n,p)::l=>match dC p with
  |some ds=>if ds.length=n∧off+n≤c.length then pr (uc c off ds) l else none
  |none=>none
def HE:PV→PV→PV→Option PV
 | .v (.bool t),a,b=>some (bif t then a else b)
 |_,_,_=>none
def On (h:PH):PV→Option PV
 | .ref b o t=>match h[b]? with
   |some (.cells _ cs)=>if cs.length=t then cs[o]? else none
   |_=>none
 | .fp cells=>cells.head?
 |_=>none
def vZ (n:Nat) (h:PH):PV→Option PV
 | .ref b o t=>match h[b]? with
   |some (.cells _ cs)=>if cs.length=t∧o+n≤t∧0<t then some (.agg ((cs.drop o).take n))else none
   |_=>none
 | .fp cells=>if n≤cells.length then some (.agg (cells.take n))else none
 |_=>none
def Rq (n:Nat) (h:PH):PV→PV→Option PH
 | .ref b o t,p=>match h[b]?,dC p with
   |some (.cells z cs),some ds=>if cs.length=t∧o+n≤t∧0<t∧ds.length=n then some (h.set b (.cells z (uc cs o ds)))else none
   |_,_=>none
 |_,_=>none
def du (h:PH) (b:Nat):Option Nat:=match h[b]? with
 |some (.cells _ cs)=>some cs.length
 |_=>none
def BX (h:PH):PV→Option PV
 | .ref b o t=>if du h b=some t then some (.ref b o t)else none
 | .fp c=>some (.fp c)
 |_=>none
def LO (op:BinOp):PV→PV→Option PV
 | .v x,.v y=>(cj op x y).map .v
 |_,_=>none
def v7:Nat→Value→Bool
 |1,.pointer none=>true
 |2,.slice none _ _=>true
 |3,.nilFunc=>true
 |4,.map none=>true
 |_,_=>false
def LQ (h:PH) (k:Nat) (p:PV) (y:Value):Option Bool:=
 match p with
 | .v x=>gL k x y
 | .ref b _ t=>match h[b]? with
   |some (.cells _ cs)=>if cs.length=t∧k=1∧v7 1 y=true then some false else none
   |_=>none
 | .fp _=>if k=1∧v7 1 y=true then some false else none
 | .sl sz b o n c=>match h[b]? with
   |some (.cells _ cs)=>if(o+c)*sz=cs.length∧0<c∧k=2∧v7 2 y=true then some false else none
   |_=>none
 | .fs _ rows=>if rows≠[]∧k=2∧v7 2 y=true then some false else none
 | .fn _ _ _=>if k=3∧v7 3 y=true then some false else none
 | .mp b=>match h[b]? with
   |some (.map _)=>if k=4∧v7 4 y=true then some false else none
   |_=>none
 |_=>none
def LR (h:PH) (k:Nat):PV→PV→Option Bool
 |p,.v y=>LQ h k p y
 |_,_=>none
def pun (op:UnOp):PV→Option PV
 | .v x=>(EL op x).map .v
 |_=>none
def LS (k:IntKind):PV→Option PV
 | .v (.int _ n)=>some (.v (.int k (k.wrap n)))
 |_=>none
def Rr:PV→Option PV
 | .v (.int _ n)=>some (.v (.string (Utf8.encode n)))
 |_=>none
def TO (h:PH) (off:Nat):PV→Option PV
 | .ref b o t=>if du h b=some t then some (.ref b (o+off) t)else none
 | .fp cells=>if off≤cells.length then some (.fp (cells.drop off))else none
 |_=>none
def Xr (h:PH) (sz:Nat):PV→PV→Option PV
 | .sl gj b o n c, .v (.int _ k)=>match h[b]? with
   |some (.cells _ cs)=>if gj=sz∧(o+c)*sz=cs.length∧0<c∧0≤k∧k<n then some (.ref b ((o+k.toNat)*sz) cs.length)else none
   |_=>none
 | .fs gj rows, .v (.int _ k)=>if gj=sz∧0≤k∧k<rows.length then(match rows[k.toNat]? with|some r=>some (.fp r)|none=>none)else none
 |_,_=>none
def HF (h:PH) (len sz:Nat):PV→PV→Option PV
 | .ref b o t,.v (.int _ k)=>if du h b=some t∧0≤k∧k<len then some (.ref b (o+k.toNat*sz) t)else none
 | .fp cells,.v (.int _ k)=>if 0≤k∧k<len∧k.toNat*sz≤cells.length then some (.fp (cells.drop (k.toNat*sz)))else none
 |_,_=>none
def pix:PV→PV→Option PV
 | .v x,.v y=>(Ew x y).map .v
 |_,_=>none
def LU:PV→Nat→Option PV
 | .fF ps,i=>ps[i]?
 |_,_=>none
def HG:PV→Option PV
 | .v x=>(sI x).map .v
 |_=>none
def gI (h:PH):PV→Bool
 | .sl sz b o _ c=>match h[b]? with
   |some (.cells _ cs)=>decide ((o+c)*sz=cs.length)
   |_=>false
 |_=>true
def qh:PV→Option Nat
 | .v (.slice none 0 0)=>some 0
 | .v (.string s)=>some s.size
 | .sl _ _ _ n _=>some n
 | .fs _ rows=>some rows.length
 |_=>none
def BZ (h:PH):PV→Option PV
 | .v x=>(sJ x).map .v
 | .sl sz b o n c=>some (.v (.int .i64 n))
 | .fs _ rows=>some (.v (.int .i64 rows.length))
 |_=>none
def uE (k:Value):List (Value×PV)→Option (Option PV)
 |[]=>some none
 |(k',p)::es=>match il k k' with
  |some true=>some (some p)
  |some false=>uE k es
  |none=>none
def Ap (k:Value) (p:PV):List (Value×PV)→Option (List (Value×PV))
 |[]=>some [(k,p)]
 |(k',p')::es=>match il k k' with
  |some true=>some ((k,p)::es)
  |some false=>(Ap k p es).map fun l=>(k',p')::l
  |none=>none
def B1 (kk:Nat) (z:Value) (h:PH) (x k:PV) (ok:Bool):Option PV:=
 match x,k with
 | .v (.map none), .v kx=>if cw kk kx=true then some (bif ok then .fF [wW z, .v (.bool false)]else wW z)else none
 | .mp b, .v kx=>match h[b]? with
   |some (.map es)=>if cw kk kx=true then(match uE kx es with
    |some (some p)=>some (bif ok then .fF [p, .v (.bool true)]else p)
    |some none=>some (bif ok then .fF [wW z, .v (.bool false)]else wW z)
    |none=>none)else none
   |_=>none
 |_,_=>none
def HI (kk:Nat) (h:PH) (x k p:PV):Option PH:=
 match x,k with
 | .mp b, .v kx=>match h[b]? with
   |some (.map es)=>if cw kk kx=true∧(dC p).isSome=true then(Ap kx p es).map fun es'=>h.set b (.map es')else none
   |_=>none
 |_,_=>none
def Oq:Option PV→Option (Option Value)
 |none=>some none
 |some (.v x)=>some (some x)
 |_=>none
def Xs (sz:Nat) (h:PH) (x:PV) (lo hi mx:Option PV):Option (PV×PH):=
 match Oq lo,Oq hi,Oq mx with
 |some lo,some hi,some mx=>match x with
  | .sl gj b o n c=>match h[b]?,bz n c lo hi mx with
    |some (.cells z cs),some (l,e,m)=>if gj=sz∧0<sz∧z=sz∧(o+c)*sz=cs.length∧e≤m then
      (if c=0 then some (x,h)
      else if m=l then(if mx=none then some (.fs sz [],h)else some (.sl sz h.length 0 0 0,h++[.cells sz []]))
      else if m=c then some (.sl sz b (o+l) (e- l) (c- l),h)else none)else none
    |_,_=>none
  | .fs gj rows=>if gj=sz∧0<sz then
      (match mx with
      |none=>match bz rows.length rows.length lo hi none with
       |some (l,e,_)=>if e≤rows.length then some (.fs sz ((rows.take e).drop l),h)else none
       |none=>none
      |some m=>if bz rows.length rows.length lo hi (some m)=some (0,0,0)then(match rows with
       |[]=>some (.fs sz [],h)
       |_::_=>some (.sl sz h.length 0 0 0,h++[.cells sz []]))else none)else none
  | .v (.slice none 0 0)=>if 0<sz∧(bz 0 0 lo hi mx).isSome=true then some (x,h)else none
  | .v (.string s)=>match mx with
    |some _=>none
    |none=>match bz s.size s.size lo hi none with
     |some (l,e,_)=>if sz=0 then some (.v (.string (s.extract l e)),h)else none
     |none=>none
  |_=>none
 |_,_,_=>none
def gJ (h:PH) (sz k:Nat):PV→Option (List PV)
 | .sl gj b o n c=>match h[b]? with
   |some (.cells _ cs)=>if gj=sz∧(o+c)*sz=cs.length∧k≤n∧n≤c then some ((cs.drop (o*sz)).take (k*sz))else none
   |_=>none
 | .fs gj rows=>if gj=sz∧k≤rows.length then some (rows.take k).flatten else none
 | .v (.string s)=>if sz=1 then some ((s.extract 0 k).data.toList.map fun b=> .v (.int .u8 b.toNat))else none
 | .v (.slice none 0 0)=>if k=0 then some []else none
 |_=>none
def ud (sz bytes:Nat) (h:PH) (s x:PV):Option (PV×PH):=
 match qh x with
 |none=>none
 |some k=>
  if k=0 then(if gI h x=true then match s with
   | .v (.slice none 0 0)=>some (s,h)
   | .sl gj b o n c=>match h[b]? with
     |some (.cells _ cs)=>if(o+c)*gj=cs.length∧n≤c then some (s,h)else none
     |_=>none
   | .fs _ _=>some (s,h)
   |_=>none
   else none)
  else match gJ h sz k x with
  |none=>none
  |some new=>match s with
   | .v (.slice none 0 0)=>if 0<sz∧k*bytes≤2^47∧k<2^62 then some (.sl sz h.length 0 k k,h++[.cells sz new])else none
   | .sl gj b o n c=>match h[b]? with
     |some (.cells z cs)=>if gj=sz∧z=sz∧0<sz∧(o+c)*sz=cs.length∧n≤c∧(n+k)*bytes≤2^47∧n+k<2^62 then
       (if c=0 then(if o=0 then some (.sl sz b 0 k k,h.set b (.cells sz new))else none)
       else if n+k≤c then some (.sl sz b o (n+k) c,h.set b (.cells sz (uc cs ((o+n)*sz) new)))
       else if o=0 then some (.sl sz b 0 (n+k) (n+k),h.set b (.cells sz (cs.take (n*sz)++new)))else none)
       else none
     |_=>none
   |_=>none
def B7 (sz:Nat) (h:PH) (d s:PV):Option (PV×PH):=
 match(bif gI h s then qh s else none)with
 |none=>none
 |some m=>match d with
  | .v (.slice none 0 0)=>some (.v (.int .i64 0),h)
  | .sl gj b o n c=>match h[b]? with
    |some (.cells z cs)=>if gj=sz∧0<sz∧(o+c)*sz=cs.length∧n≤c then
      (if Nat.min m n=0 then some (.v (.int .i64 0),h)
      else match gJ h sz (Nat.min m n) s with
       |some new=>some (.v (.int .i64 (Nat.min m n)),h.set b (.cells z (uc cs (o*sz) new)))
       |none=>none)else none
    |_=>none
  |_=>none
def HJ (sz bytes:Nat) (z:List Value) (h:PH):PV→Option (PV×PH)
 | .v (.int _ n)=>if 0≤n∧IntKind.i64.wrap n=n∧bytes*n≤2^47∧z.length=sz∧0<sz then some (.sl sz h.length 0 n.toNat n.toNat,h++[.cells sz (List.replicate n.toNat (z.map .v)).flatten])else none
 |_=>none
def LV (len sz:Nat) (z:List Value) (h:PH) (ps:List (Nat×Nat×PV)):Option (PV×PH):=
 match pr (z.map .v) ps with
 |some c=>if c.length=len*sz∧0<sz then some (.sl sz h.length 0 len len,h++[.cells sz c])else none
 |none=>none
def Rs:List PV→Option (List Value)
 |[]=>some []
 | .v x::l=>(Rs l).map fun m=>x::m
 |_=>none
def Xt (f:Value→List Value→Option Value) (x:PV) (l:List PV):Option PV:=
 match x,Rs l with
 | .v x,some l=>(f x l).map .v
 |_,_=>none
def D6 (cs ds:List PV):List (Nat×Nat)→Option Bool
 |[]=>some true
 |(o,kk)::l=>match cs[o]?,ds[o]? with
  |some (.v a),some (.v b)=>if cw kk a=true then(match il a b with
   |some true=>D6 cs ds l
   |some false=>some false
   |none=>none)else none
  |_,_=>none
def LW (neg:Bool) (offs:List (Nat×Nat)):PV→PV→Option PV
 | .agg cs,.agg ds=>(D6 cs ds offs).map fun b=>.v (.bool (bif neg then !b else b))
 |_,_=>none
def LX (h:PH) (p:PV):Option (PV×PH):=
 match dC p with
 |some cs=>some (.ref h.length 0 cs.length,h++[.cells cs.length cs])
 |none=>none
def yq (l:List PV) (n:Nat) (ag:Bool):Option PV:=if l.length=n then(bif ag then some (.agg l)else match l with|[v]=>some v|_=>none)else none
def TP:XK→List PV→Option PV
 | .Jm o n ag,[.agg cs]=>yq ((cs.drop o).take n) n ag
 | .Jn len n ag,[.agg cs,.v (.int _ i)]=>if 0≤i∧i<len then yq ((cs.drop (i.toNat*n)).take n) n ag else none
 |_,_=>none
def TQ:XK→List Value→Option Value
 | .Jm o n ag,[.agg cs]=>qw ((cs.toList.drop o).take n) n ag
 | .Jn len n ag,[.agg cs,.int _ i]=>if 0≤i∧i<len then qw ((cs.toList.drop (i.toNat*n)).take n) n ag else none
 |_,_=>none
def pop (p:cv) (ρ:X→PV) (h:PH):Option (PV×PH):=
 match p with
 | .mv x=>some (ρ x,h)
 | .pick c a b=>(HE (ρ c) (ρ a) (ρ b)).map fun v=>(v,h)
 | .alloc z=>some (.ref h.length 0 z.length,h++[.cells z.length (z.map .v)])
 | .box x=>LX h (ρ x)
 | .build z ps=>(pr (z.map .v) (ps.map fun p=>(p.1,p.2.1,ρ p.2.2))).map fun c=>(.agg c,h)
 | .bsl len sz z ps=>LV len sz z h (ps.map fun p=>(p.1,p.2.1,ρ p.2.2))
 | .ld x=>(On h (ρ x)).map fun v=>(v,h)
 | .ldn n x=>(vZ n h (ρ x)).map fun v=>(v,h)
 | .st n x v=>(Rq n h (ρ x) (ρ v)).map fun h'=>(.v undef,h')
 | .aZ x=>(BX h (ρ x)).map fun v=>(v,h)
 | .bin op x y=>(LO op (ρ x) (ρ y)).map fun v=>(v,h)
 | .eqk k neg x y=>(LR h k (ρ x) (ρ y)).map fun b=>(.v (.bool (bif neg then !b else b)),h)
 | .un op x=>(pun op (ρ x)).map fun v=>(v,h)
 | .nk k x=>(LS k (ρ x)).map fun v=>(v,h)
 | .SM x=>(Rr (ρ x)).map fun v=>(v,h)
 | .mkf f first cap=>some (.fn f (first.map ρ) (cap.map ρ),h)
 | .mkmap=>some (.mp h.length,h++[.map []])
 | .mksl sz bytes z x=>HJ sz bytes z h (ρ x)
 | .sl sz x lo hi mx=>Xs sz h (ρ x) (lo.map ρ) (hi.map ρ) (mx.map ρ)
 | .fa off x=>(TO h off (ρ x)).map fun v=>(v,h)
 | .ia sz x i=>(Xr h sz (ρ x) (ρ i)).map fun v=>(v,h)
 | .qx len sz x i=>(HF h len sz (ρ x) (ρ i)).map fun v=>(v,h)
 | .ix x i=>(pix (ρ x) (ρ i)).map fun v=>(v,h)
 | .look kk z x k ok=>(B1 kk z h (ρ x) (ρ k) ok).map fun v=>(v,h)
 | .pJ kk x k v=>(HI kk h (ρ x) (ρ k) (ρ v)).map fun h'=>(.v undef,h')
 | .ext x i=>(LU (ρ x) i).map fun v=>(v,h)
 | .call _ _=>none
 | .callv _ _=>none
 | .app sz bytes s x=>ud sz bytes h (ρ s) (ρ x)
 | .copy sz d s=>B7 sz h (ρ d) (ρ s)
 | .lens x=>(HG (ρ x)).map fun v=>(v,h)
 | .eN x=>(BZ h (ρ x)).map fun v=>(v,h)
 | .O2 t x=>some (.qg t (ρ x),h)
 | .mxl x l=>(Xt Jl (ρ x) (l.map ρ)).map fun v=>(v,h)
 | .mnl x l=>(Xt Nq (ρ x) (l.map ρ)).map fun v=>(v,h)
 | .eqs neg offs x y=>(LW neg offs (ρ x) (ρ y)).map fun v=>(v,h)
 | .xt k l=>(TP k (l.map ρ)).map fun v=>(v,h)
def yr (p:cv) (ρ:X→PV):List Nat:=
 match p with
 | .st _ x _=>match ρ x with| .ref b _ _=>[b]|_=>[]
 | .app _ _ s _=>match ρ s with| .sl _ b _ _ _=>[b]|_=>[]
 | .copy _ d _=>match ρ d with| .sl _ b _ _ _=>[b]|_=>[]
 | .pJ _ x _ _=>match ρ x with| .mp b=>[b]|_=>[]
 |_=>[]
end P
namespace P
open Go Go.RowKit
def pv (C:Cx) (W:Nat→Prop) (r:Option (Value×AH)) (p:PV) (h':PH):Prop:=∃x H' dG,r=some (x,H')∧RV ⟨C.F,H',dG,h'⟩ p x∧dO ⟨C.F,H',dG,h'⟩∧dH C.h.length W C ⟨C.F,H',dG,h'⟩
theorem pv.val {C:Cx} {W:Nat→Prop} (S:dO C) {r:Option (Value×AH)} {p:PV} {x:Value} (k:RV C p x) (e:r=some (x,C.H)):pv C W r p C.h:=⟨x,C.H,C.φ,e,k,S,dH.refl _ _ _⟩
variable{C:Cx} {W:Nat→Prop}
theorem RV.qS {x y:Value} (h:RV C (.v x) y):y=x:=by cases h;rfl
theorem Aq (x:Value):RV C (wW x) x:=by
 cases x with
 |agg cs=>exact .agg (xs:=cs.toList) (cL.lits _)
 |_=>exact .v _
theorem Rt {x:Value} (h:one x=true):aT x=[x]∧cC x=false:=by
 cases x<;>first
  |exact ⟨rfl,rfl⟩
  |(simp [one]at h)
theorem iW {p:PV} {x:Value} {cs:List PV} (h:RV C p x) (k:dC p=some cs):cL C cs (aT x)∧cC x=false:=by
 have go:∀{p:PV} {x:Value},RV C p x→(LN x=true∨one x=true)→cL C [p] (aT x)∧cC x=false:=by
  intro p x h c
  obtain ⟨a,b⟩:aT x=[x]∧cC x=false:=by
   rcases c with c|c
   ·cases x<;>first|exact ⟨rfl,rfl⟩|(simp [LN]at c)
   ·exact Rt c
  rw [a];exact ⟨.cons h .nil,b⟩
 cases p with
 |v x=>
  cases h
  cases x with
  |agg d=>simp only [dC,aqH]at k;subst k;exact ⟨cL.lits _,rfl⟩
  |tuple=>simp [dC]at k
  |_=>simp only [dC,aqH]at k;subst k;exact ⟨.cons (.v _) .nil,rfl⟩
 |agg=>cases h with|agg q=>simp only [dC,aqH]at k;subst k;exact ⟨by simpa [aT]using q,rfl⟩
 |fF=>simp [dC]at k
 |any=>simp [dC]at k
 |ref=>simp only [dC,aqH]at k;subst k;exact go h (by cases h;left;assumption)
 |sl=>simp only [dC,aqH]at k;subst k;exact go h (by cases h with|sl a _ _ _=>exact .inl a.sm)
 |mp=>simp only [dC,aqH]at k;subst k;exact go h (by cases h;left;assumption)
 |fs=>simp only [dC,aqH]at k;subst k;exact go h (by cases h with|fs q=>cases q;exact .inr rfl)
 |fp=>simp only [dC,aqH]at k;subst k;exact go h (by cases h;exact .inr rfl)
 |fn=>simp only [dC,aqH]at k;subst k;exact go h (by cases h;exact .inr rfl)
 |qg=>simp only [dC,aqH]at k;subst k;exact go h (by cases h;exact .inr rfl)
theorem cL.uc {cs:List PV} {xs:List Value} (h:cL C cs xs):∀{k:Nat} {ds:List PV} {ys:List Value},cL C ds ys→cL C (uc cs k ds) (aJ xs k ys):=by
 have z:∀(xs ys:List Value),aJ xs 0 ys=ys++xs.drop ys.length:=fun xs ys=>by cases xs<;>rfl
 have c:∀(xs ys:List PV),P.uc xs 0 ys=ys++xs.drop ys.length:=fun xs ys=>by cases xs<;>rfl
 intro k
 induction k generalizing cs xs with
 |zero=>
  intro ds ys q;rw [z,c,q.length];exact q.append (h.drop _)
 |succ k ih=>
  intro ds ys q
  cases h with
  |nil=>exact .nil
  |cons a b=>exact .cons a (ih b q)
theorem jq {α:Type}:∀{c:List α} {k:Nat} {vs:List α},k+vs.length≤c.length→(uc c k vs).length=c.length
 |c,0,vs,h=>by
  have:uc c 0 vs=vs++c.drop vs.length:=by cases c<;>rfl
  rw [this];simp;omega
 |[],k+1,vs,h=>by simp at h
 |x::c,k+1,vs,h=>by
  have:=jq (c:=c) (k:=k) (vs:=vs) (by simp at h;omega);simp [uc,this]
inductive LY (C:Cx):List (Nat×Nat×PV)→List (Nat×Nat×Value)→Prop
 |nil:LY C [] []
 |cons {o n:Nat} {p:PV} {x:Value} {l:List (Nat×Nat×PV)} {m:List (Nat×Nat×Value)}:RV C p x→LY C l m→LY C ((o,n,p)::l) ((o,n,x)::m)
theorem LY.of {a:X→PV} {b:X→Value} (h:∀x,RV C (a x) (b x)):∀(ps:List (Nat×Nat×X)),LY C (ps.map fun p=>(p.1,p.2.1,a p.2.2)) (ps.map fun p=>(p.1,p.2.1,b p.2.2))
 |[]=>.nil
 |p::ps=>.cons (h _) (LY.of h ps)
theorem cL.of {a:X→PV} {b:X→Value} (h:∀x,RV C (a x) (b x)):∀(l:List X),cL C (l.map a) (l.map b)
 |[]=>.nil
 |p::ps=>.cons (h _) (cL.of h ps)
theorem B8 {ps:List (Nat×Nat×PV)} {g:List (Nat×Nat×Value)} (r:LY C ps g):∀{c d:List PV} {xs:List Value},cL C c xs→pr c ps=some d→∃ys,iX xs g=some ys∧cL C d ys:=by
 induction r with
 |nil=>intro c d xs h k;simp only [pr,aqH]at k;subst k;exact ⟨xs,rfl,h⟩
 | @cons o n p x l m j _ ih=>
  intro c d xs h k;simp only [pr]at k
  cases f:dC p with
  |none=>simp [f]at k
  |some s=>
   simp only [f]at k;split at k
   case isFalse=>cases k
   rename_i i;obtain ⟨a,b⟩:=iW j f;obtain ⟨ys,e,q⟩:=ih (h.uc a) k;refine ⟨ys,?_,q⟩;simp only [iX,nb];rw [←a.length,←h.length,b];simp [i.1,i.2,e]
theorem dO.cells (S:dO C) {b z t:Nat} {cs:List PV} (e:C.h[b]?=some (.cells z cs)) (d:0<cs.length):∃vs,C.H.get (C.φ b)=some (.cells z vs)∧cL C cs vs∧C.H.n0≤C.φ b:=by
 obtain ⟨vs,a,b,c,_⟩:=S.aR _ _ _ e (List.length_pos_iff.1 d);exact ⟨vs,a,b,c⟩
theorem Ot (S:dO C) {p q:PV} {x:Value} (h:RV C p x) (k:On C.h p=some q):∃y,Tl C.H x=some y∧RV C q y:=by
 cases h with
 | @ref b o t x _ D d s=>
  simp only [On]at k
  cases e:C.h[b]? with
  |none=>simp [e]at k
  |some B=>
   cases B with
   |cells z cs=>
    simp only [e]at k;split at k
    case isFalse=>cases k
    rename_i l;obtain ⟨f,n,i,u⟩:=S.cells (t:=t) e (by have:=(aqM.1 k).1;omega);obtain ⟨y,g,m⟩:=i.get k;rw [s ⟨z,cs,e,l⟩];exact ⟨y,aG n u g,m⟩
   |map=>simp [e]at k
   |dead=>simp [e]at k
 | @fp cells b o f A d r=>
  simp only [On]at k
  cases r with
  |nil=>simp at k
  | @cons w c ps xs a E=>
   simp only [List.head?_cons,aqH]at k;subst k;refine ⟨c,?_,a.qS⟩;have:=aK d (j:=0) (v:=c) rfl
   simpa using this
 |_=>simp [On]at k
theorem qV {a:Nat}:∀{l vs:List Value},aL a l=some vs→∀n,aL a (l.take n)=some (vs.take n)
 |[],vs,h,n=>by simp [aL]at h;subst h;simp [aL]
 |y::l,vs,h,n=>by
  simp only [aL]at h;split at h
  case h_2=>cases h
  rename_i d e b c;cases h
  cases n with
  |zero=>simp [aL]
  |succ n=>simp [aL,b,qV c n]
theorem qW {a:Nat}:∀{l vs:List Value},aL a l=some vs→∀n,aL a (l.drop n)=some (vs.drop n)
 |[],vs,h,n=>by simp [aL]at h;subst h;simp [aL]
 |y::l,vs,h,n=>by
  have c:=h;simp only [aL]at h;split at h
  case h_2=>cases h
  rename_i d e f b;cases h
  cases n with
  |zero=>simpa using c
  |succ n=>simpa using qW b n
theorem Ar (S:dO C) {n:Nat} {p q:PV} {x:Value} (h:RV C p x) (k:vZ n C.h p=some q):∃y,tW n C.H x=some y∧RV C q y:=by
 cases h with
 | @ref b o t x _ w a r=>
  simp only [vZ]at k
  cases e:C.h[b]? with
  |none=>simp [e]at k
  |some B=>
   cases B with
   |cells z cs=>
    simp only [e]at k;split at k
    case isFalse=>cases k
    rename_i j;cases k;obtain ⟨f,d,g,u⟩:=S.cells (t:=t) e (by omega);rw [r ⟨z,cs,e,j.1⟩];refine ⟨.agg ((f.drop o).take n).toArray,?_,.agg ((g.drop o).take n)⟩;simp only [tW];rw [bH d u (by have:=g.length;omega)];rfl
   |map=>simp [e]at k
   |dead=>simp [e]at k
 | @fp cells b o f v a m=>
  simp only [vZ]at k;split at k
  case isFalse=>cases k
  rename_i l;cases k;refine ⟨.agg (f.take n).toArray,?_,.agg ((m.take n).qS)⟩;simp only [tW]
  have:C.H.ldn ⟨b,o,none⟩ n=some (f.take n):=by
   unfold AH.ldn at a⊢;dsimp only at a⊢
   cases d:C.H.get b with
   |none=>simp [d]at a
   |some B=>
    cases B with
    |map=>simp [d]at a
    |cells z c=>
     simp only [d]at a⊢;obtain ⟨s,a⟩:=aw a;simp only [aqS]at s;rw [show decide (o+n≤c.length)=true by simp;omega,cond_true];have e:(c.drop o).take n=((c.drop o).take cells.length).take n:=by rw [List.take_take,Nat.min_eq_left l]
     cases i:decide (b<C.H.n0)with
     |false=>
      rw [i]at a;simp only [cond_false,aqH]at a⊢;rw [e,a]
     |true=>
      rw [i]at a;simp only [cond_true]at a⊢;rw [e];exact qV a n
  rw [this];rfl
 |_=>simp [vZ]at k
theorem HK {H:AH} {b o n k:Nat} {vs:List Value} (h:H.ldn ⟨b,o,none⟩ n=some vs) (g:k≤n):H.ldn ⟨b,o+k,none⟩ (n- k)=some (vs.drop k):=by
 unfold AH.ldn at h⊢;dsimp only at h⊢
 cases a:H.get b with
 |none=>simp [a]at h
 |some B=>
  cases B with
  |map=>simp [a]at h
  |cells z c=>
   simp only [a]at h⊢;obtain ⟨f,h⟩:=aw h;simp only [aqS]at f;rw [show decide (o+k+(n- k)≤c.length)=true by simp;omega,cond_true];have e:(c.drop (o+k)).take (n- k)=((c.drop o).take n).drop k:=by rw [List.drop_take,List.drop_drop]
   rw [e]
   cases d:decide (b<H.n0)with
   |false=>rw [d]at h;simp only [cond_false,aqH]at h⊢;rw [h]
   |true=>rw [d]at h;simp only [cond_true]at h⊢;exact qW h k
theorem cellsOf {p:PV} {cs:List PV} {x:Value} (h:RV C p x) (a:dC p=some cs):∃ys,aT x=ys∧cC x=false∧cL C cs ys:=⟨_,rfl,(iW h a).2,(iW h a).1⟩
theorem Xu (S:dO C) {n:Nat} {p q:PV} {x y:Value} {c:PH} (h:RV C p x) (g:RV C q y) (k:Rq n C.h p q=some c) (s:∀b o t,p= .ref b o t→W b):∃H',Gg n C.H x y=some H'∧dO ⟨C.F,H',C.φ,c⟩∧dH C.h.length W C ⟨C.F,H',C.φ,c⟩:=by
 cases h with
 | @ref b o t x _ E D r=>
  simp only [Rq]at k
  cases e:C.h[b]? with
  |none=>simp [e]at k
  |some B=>
   cases B with
   |cells z cs=>
    cases a:dC q with
    |none=>simp [e,a]at k
    |some G=>
     simp only [e,a]at k;split at k
     case isFalse=>cases k
     rename_i f;cases k;obtain ⟨l,m,d,u⟩:=S.cells (t:=t) e (by omega);obtain ⟨j,v⟩:=iW g a;have i:=j.length;have w:=d.length;obtain ⟨A,B⟩:=S.put (W:=W) (s _ _ _ rfl) e (by intro q;subst q;simp at f;omega) (jq (by omega)) (d.uc (k:=o) j);rw [r ⟨z,cs,e,f.1⟩];refine ⟨_,?_,A,B⟩;rw [Vv,if_pos ⟨by omega,v⟩];unfold AH.st;simp only [m];rw [show decide (C.H.n0≤C.φ b)=true by simp [u],show decide (o+(aT y).length≤l.length)=true by simp;omega];rfl
   |map=>simp [e]at k
   |dead=>simp [e]at k
 |_=>simp [Rq]at k
theorem mQ {k:Nat} {y:Value} (h:v7 k y=true):(k=1∧y= .pointer none)∨(k=2∧∃n c,y= .slice none n c)∨(k=3∧y= .nilFunc)∨(k=4∧y= .map none):=by
 unfold v7 at h;split at h<;>simp_all
theorem LZ {k:Nat} {p q:PV} {x y:Value} {r:Bool} (h:RV C p x) (g:RV C q y) (e:LR C.h k p q=some r):gL k x y=some r:=by
 cases q with
 |v z=>
  cases g;replace e:LQ C.h k p y=some r:=e;unfold LQ at e
  cases p with
  |v w=>cases h;exact e
  |ref b o t=>
   cases h with|ref _ s m j=>
   dsimp only at e;split at e
   case h_2=>cases e
   rename_i l cs i;split at e
   case isFalse=>cases e
   rename_i d;cases e;rw [j ⟨l,cs,i,d.1⟩,d.2.1];rcases mQ d.2.2 with⟨a,rfl⟩|⟨a,_⟩|⟨a,_⟩|⟨a,_⟩<;>first|rfl|cases a
  |fp cells=>
   cases h;dsimp only at e;split at e
   case isFalse=>cases e
   rename_i d;cases e;rw [d.1];rcases mQ d.2 with⟨a,rfl⟩|⟨a,_⟩|⟨a,_⟩|⟨a,_⟩<;>first|rfl|cases a
  |sl sz b o n c=>
   cases h with|sl _ s m j=>
   dsimp only at e;split at e
   case h_2=>cases e
   rename_i l cs i;split at e
   case isFalse=>cases e
   rename_i d;cases e;rw [d.2.2.1];rcases j ⟨l,cs,i,d.1.symm⟩with⟨a,_⟩|⟨_,rfl⟩
   ·omega
   ·rcases mQ d.2.2.2 with⟨a,_⟩|⟨a,B,A,rfl⟩|⟨a,_⟩|⟨a,_⟩<;>first|rfl|cases a
  |fs sz rows=>
   cases h with|fs q=>
   dsimp only at e;split at e
   case isFalse=>cases e
   rename_i d;cases e;rw [d.2.1]
   cases q with| @fs _ _ a c rs E m G D=>
   obtain ⟨H,A,u,F⟩:=E.is;simp only [Value.slice.injEq]at u;obtain ⟨rfl,_,rfl⟩:=u;have:0<rs.length:=by rw [←D.length];exact List.length_pos_iff.2 d.1
   obtain ⟨b,o,rfl,_⟩:=F 0 _ (aqG this);rcases mQ d.2.2 with⟨a,_⟩|⟨a,B,A,rfl⟩|⟨a,_⟩|⟨a,_⟩<;>first|rfl|cases a
  |fn f a b=>
   cases h;dsimp only at e;split at e
   case isFalse=>cases e
   rename_i d;cases e;rw [d.1];rcases mQ d.2 with⟨a,_⟩|⟨a,_⟩|⟨a,rfl⟩|⟨a,_⟩<;>first|rfl|cases a
  |mp b=>
   cases h with|mp _ s j=>
   dsimp only at e;split at e
   case h_2=>cases e
   rename_i es i;split at e
   case isFalse=>cases e
   rename_i d;cases e;rw [d.1,j ⟨es,i⟩];rcases mQ d.2 with⟨a,_⟩|⟨a,_⟩|⟨a,_⟩|⟨a,rfl⟩<;>first|rfl|cases a
  |_=>cases e
 |_=>cases e
theorem th {b o t:Nat} {x:Value} (h:RV C (.ref b o t) x) (k:du C.h b=some t):x= .pointer (some ⟨C.φ b,o,none⟩):=by
 cases h with|ref _ e d c=>
 unfold du at k;split at k
 case h_2=>cases k
 rename_i z cs a;cases k;exact c ⟨z,cs,a,rfl⟩
theorem RV.Xv {b o a t:Nat} {x:Value} (h:RV C (.ref b o t) x):RV C (.ref b a t) (.pointer (some ⟨C.φ b,a,none⟩)):=by
 cases h with|ref _ d c e=>exact .ref rfl d c fun _=>rfl
theorem B9 {cells:List PV} {b o k:Nat} (c:k≤cells.length) (h:RV C (.fp cells) (.pointer (some ⟨b,o,none⟩))):RV C (.fp (cells.drop k)) (.pointer (some ⟨b,o+k,none⟩)):=by
 cases h with|fp d a e=>
 refine .fp d ?_ (e.drop k);rw [List.length_drop];exact HK a c
theorem Xw {off:Nat} {p q:PV} {x:Value} (h:RV C p x) (k:TO C.h off p=some q):∃y,NX off x=some y∧RV C q y:=by
 cases p with
 |ref b o t=>
  simp only [TO]at k;split at k
  case isFalse=>cases k
  rename_i a;cases k;rw [th h a];exact ⟨_,rfl,h.Xv⟩
 |fp cells=>
  simp only [TO]at k;split at k
  case isFalse=>cases k
  rename_i a;cases k;have c:=h
  cases h with|fp e d f=>
  exact ⟨_,rfl,B9 a c⟩
 |_=>cases k
theorem L0 {p q:PV} {x:Value} (h:RV C p x) (k:BX C.h p=some q):ur x=some x∧RV C q x:=by
 cases p with
 |ref b o t=>
  simp only [BX]at k;split at k
  case isFalse=>cases k
  rename_i a;cases k;refine ⟨?_,h⟩;rw [th h a];rfl
 |fp cells=>
  cases k;exact ⟨by cases h;rfl,h⟩
 |_=>cases k
theorem Ru {len sz:Nat} {p q r:PV} {x y:Value} (h:RV C p x) (g:RV C q y) (k:HF C.h len sz p q=some r):∃z,xJ len sz x y=some z∧RV C r z:=by
 unfold HF at k;split at k
 ·rename_i b o t kk n
  cases g;split at k
  case isFalse=>cases k
  rename_i a;cases k;rw [th h a.1];refine ⟨_,?_,h.Xv⟩;rw [Gl,if_pos ⟨a.2.1,a.2.2⟩]
 ·rename_i cells kk n
  cases g;split at k
  case isFalse=>cases k
  rename_i a;cases k;have c:=h
  cases h with|fp e d f=>
  refine ⟨_,?_,B9 a.2.2 c⟩;rw [Gl,if_pos ⟨a.1,a.2.1⟩]
 ·cases k
theorem Xx {sz:Nat} {p q r:PV} {x y:Value} (h:RV C p x) (g:RV C q y) (k:Xr C.h sz p q=some r):∃z,NY sz x y=some z∧RV C r z:=by
 unfold Xr at k;split at k
 ·rename_i v b o n c kk m
  cases g;split at k
  case h_2=>cases k
  rename_i u cs F;split at k
  case isFalse=>cases k
  rename_i i;cases k;obtain ⟨rfl,f,h2,J,I⟩:=i
  cases h with|sl N G s H=>
  rcases H ⟨u,cs,F,f.symm⟩with⟨a,_⟩|⟨_,rfl⟩
  ·omega
  ·refine ⟨_,by rw [NZ,if_pos ⟨J,I⟩],?_⟩
   rw [←Nat.add_mul];exact .ref rfl G (by rw [←f];exact s) fun _=>rfl
 ·rename_i v rows kk m
  cases g;split at k
  case isFalse=>cases k
  rename_i i;obtain ⟨rfl,f,h2⟩:=i;split at k
  case h_2=>cases k
  rename_i L j;cases k
  cases h with|fs q=>
  cases q with| @fs _ _ a c rs D s E A=>
  obtain ⟨K,w,d⟩:=A.get j;obtain ⟨P,O,e,B⟩:=D.is;simp only [Value.slice.injEq]at e;obtain ⟨rfl,_,rfl⟩:=e;obtain ⟨b,o,rfl,l⟩:=B _ _ w;have M:=(aqM.1 j).1;refine ⟨_,by rw [NZ,if_pos ⟨f,h2⟩],?_⟩;refine .fp ?_ ?_ d
  ·rcases (E _ rfl).2 with t|t
   ·omega
   ·exact t.1
  ·rw [d.length,(db l).2]
   exact l
 ·cases k
theorem yu {h:PH} {sz b o n c:Nat} (k:gI h (.sl sz b o n c)=true):At h b ((o+c)*sz):=by
 unfold gI at k;dsimp only at k;split at k
 ·rename_i z cs e;exact ⟨z,cs,e,by simpa using(of_decide_eq_true k).symm⟩
 ·cases k
theorem HL {p:PV} {x:Value} {n:Nat} (h:RV C p x) (k:qh p=some n) (a:gI C.h p=true):mZ x=some n:=by
 unfold qh at k;split at k
 ·cases h;cases k;rfl
 ·cases h;cases k;rfl
 ·cases k
  cases h with|sl _ e c b=>
  rcases b (yu a)with⟨_,rfl,d,rfl,_⟩|⟨_,rfl⟩<;>rfl
 ·cases k
  cases h with|fs q=>cases q;rfl
 ·cases k
end P
namespace P
open Go Go.RowKit
variable{C:Cx} {W:Nat→Prop}
theorem ti {sz b o n c:Nat} {x:Value} (h:RV C (.sl sz b o n c) x) {z:Nat} {cs:List PV} (e:C.h[b]?=some (.cells z cs)) (a:(o+c)*sz=cs.length):slV (C.φ b) sz o n c x:=by
 cases h with|sl _ g f d=>exact d ⟨z,cs,e,a.symm⟩
theorem RV.slT {sz b o n c a d f:Nat} {x y:Value} (h:RV C (.sl sz b o n c) x) (e:a+f=o+c) (g:slN d y) (k:slV (C.φ b) sz a d f y):RV C (.sl sz b a d f) y:=by
 cases h with|sl _ j i l=>exact .sl g j (by rw [e];exact i) fun _=>k
theorem Cb:∀(l:List UInt8),cL C (l.map fun b=>.v (.int .u8 b.toNat)) (l.map fun b=>.int .u8 b.toNat)
 |[]=>.nil
 |b::l=>.cons (.v _) (Cb l)
theorem tj (S:dO C) {sz m:Nat} {p:PV} {x:Value} {new:List PV} (h:RV C p x) (k:gJ C.h sz m p=some new) (D:0<m) (v:0<sz):
 ∃ys,jL C.H sz m x=some ys∧cL C new ys∧(qh p=some m→pQ C.H sz x=some ys∧mZ x=some m∧ys.length=m*sz)∧(∀q,mZ x=some q→m≤q→ys.length=m*sz):=by
 have f:¬ m*sz=0:=by have:=Nat.mul_pos D v;omega
 unfold gJ at k;split at k
 ·rename_i gj b o n c
  split at k
  case h_2=>cases k
  rename_i z cs E;split at k
  case isFalse=>cases k
  rename_i i;cases k;obtain ⟨rfl,G,h2,P⟩:=i;have g:(o+m)*gj≤(o+c)*gj:=Nat.mul_le_mul_right _ (by omega);rw [Nat.add_mul]at g;obtain ⟨l,K,y,L⟩:=S.cells (t:=0) E (by have:=Nat.mul_pos (show 0<o+c by omega) v;omega);have N:=y.length;rcases ti h E G with⟨a,_⟩|⟨_,rfl⟩
  ·omega
  have u:C.H.ldn ⟨C.φ b,o*gj,none⟩ (m*gj)=some ((l.drop (o*gj)).take (m*gj)):=bH K L (by omega);have d:((l.drop (o*gj)).take (m*gj)).length=m*gj:=by simp;omega
  refine ⟨(l.drop (o*gj)).take (m*gj),?_,(y.drop _).take _,fun e=>?_,fun q e B=>d⟩
  ·simp only [jL,nb,f,decide_false,cond_false,u]
  ·simp only [qh,aqH]at e
   subst e;refine ⟨?_,rfl,d⟩;simp only [pQ,nb,show¬ n=0 by omega,decide_false,cond_false,u]
 ·rename_i gj rows
  split at k
  case isFalse=>cases k
  rename_i i;cases k;obtain ⟨rfl,G⟩:=i
  cases h with|fs q=>
  cases q with| @fs _ _ a c rs j u O A=>
  have d:=A.length;obtain ⟨R,Q,I,M⟩:=j.is;simp only [Value.slice.injEq]at I;obtain ⟨rfl,_,rfl⟩:=I;obtain ⟨b,o,rfl,_⟩:=M 0 _ (aqG (by omega));rw [d]at j;have w:=j.whole m (by omega) D
  have F:(rs.take m).flatten.length=m*gj:=by
   rw [cg (sz:=gj) fun r J=>j.GG r (List.mem_of_mem_take J),List.length_take,Nat.min_eq_left (by omega)]
  refine ⟨(rs.take m).flatten,?_,(A.take m).flat.qS,fun e=>?_,fun _ _ _=>F⟩
  ·simp only [jL,nb,f,decide_false,cond_false,w]
  ·simp only [qh,aqH]at e
   refine ⟨?_,by simp [mZ,e],F⟩;simp only [pQ,nb,show¬ rows.length=0 by omega,decide_false,cond_false];rw [e,w]
 ·rename_i s
  split at k
  case isFalse=>cases k
  rename_i i;cases k;subst i;cases h;refine ⟨(s.extract 0 m).data.toList.map fun b=>.int .u8 b.toNat,rfl,Cb _,fun e=>?_,fun q e B=>?_⟩
  ·simp only [qh,aqH]at e
   subst e;refine ⟨?_,rfl,by simp⟩;simp [pQ]
  ·simp only [mZ,aqH]at e
   subst e;simp [B]
 ·split at k
  case isFalse=>cases k
  omega
 ·cases k
theorem Rw (S:dO C) {sz bytes:Nat} {p q r:PV} {x y:Value} {h':PH} (s:RV C p x) (V:RV C q y) (k:ud sz bytes C.h p q=some (r,h')) (hW:∀sz b o n c,p= .sl sz b o n c→W b):
 pv C W (bm sz bytes C.H x y) r h':=by
 unfold ud at k;split at k
 ·cases k
 rename_i m hm;split at k
 ·rename_i Q
  subst Q;split at k
  case isFalse=>cases k
  rename_i hv;have f:=HL V hm hv;split at k
  ·cases k
   cases s;exact pv.val S (.v _) (by simp [bm,f])
  ·rename_i gj b o n c
   split at k
   case h_2=>cases k
   rename_i z cs j;split at k
   case isFalse=>cases k
   rename_i D;cases k;have J:=ti s j D.1;refine pv.val S s ?_;rcases J with⟨_,rfl,d,rfl,_⟩|⟨_,rfl⟩
   ·simp [bm,f]
   ·simp [bm,f,D.2]
  ·cases k
   refine pv.val S s ?_
   cases s with|fs g=>
   cases g with|fs hr hl hk ri=>simp [bm,f,hl]
  ·cases k
 rename_i Q;have F:0<m:=by omega
 split at k
 ·cases k
 rename_i new GH;split at k
 ·split at k
  case isFalse=>cases k
  rename_i D;cases k;obtain ⟨w,M,N⟩:=D;obtain ⟨R,_,l,i,_⟩:=tj S V GH F w;obtain ⟨i,f,TR⟩:=i hm;cases s;obtain ⟨A,B⟩:=S.new (P:=.cells sz new) (B:=.cells sz R) W (.inl ⟨_,_,_,rfl,rfl,l⟩);refine ⟨.slice (some ⟨C.H.nx,0,none⟩) m m,_,_,?_,.sl ⟨_,_,rfl⟩ (by simp) ?_ (fun _=>.inr ⟨F,?_⟩),A,B⟩
  ·have:¬ m=0:=Q
   simp [bm,f,this,i,nb,M,N]
  ·intro z cs e
   rw [show(C.h++[PB.cells sz new])[C.h.length]?=_ from kT _ _]at e;cases e;have:=l.length;simp;omega
  ·simp [gH]
 ·rename_i gj b o n c
  split at k
  case h_2=>cases k
  rename_i z cs j;split at k
  case isFalse=>cases k
  rename_i D;obtain ⟨rfl,rfl,w,O,h2,M,N⟩:=D;obtain ⟨R,_,l,i,_⟩:=tj S V GH F w;obtain ⟨i,f,TR⟩:=i hm;have J:=ti s j O;have E:=(aqM.1 j).1;have SR:=l.length;have u:=hW _ _ _ _ _ rfl;have Z:¬ m=0:=Q;split at k
  ·rename_i rm
   split at k
   case isFalse=>cases k
   rename_i X;cases k;subst rm;subst X;obtain rfl:n=0:=by omega
   have G:cs=[]:=aq9.1 (by simpa using O.symm);rcases J with⟨_,_,d,rfl,hd⟩|⟨a,_⟩
   case inr=>omega
   obtain ⟨A,B⟩:=S.grow (H1:=C.H) u j (by rw [G,SR,TR];simpa using Nat.mul_pos F w) l (.inl ⟨G,rfl⟩);refine ⟨.slice (some ⟨C.H.nx,0,none⟩) m m,_,_,?_,.sl ⟨_,_,rfl⟩ (by simpa using E) ?_ (fun _=>.inr ⟨F,?_⟩),A,B⟩
   ·simp only [bm,f,if_neg Z,i]
    rw [show decide ((0+m)*bytes≤2^47)=true by simpa using M,show decide (0+m<2^62)=true by simpa using N];simp only [Bool.and_self,cond_true];rw [if_neg (by omega)]
    cases d with
    |none=>simp
    |some d=>simp [hd d rfl]
   ·intro z c9 e
    rw [eG E]at e;cases e;simp;omega
   ·simp [gH]
  rename_i rm;rcases J with⟨a,_⟩|⟨_,rfl⟩
  ·omega
  have pK:0<cs.length:=by rw [←O];exact Nat.mul_pos (by omega) w
  have G:cs≠[]:=List.length_pos_iff.1 pK;obtain ⟨vs,L,U,Y⟩:=S.cells (t:=0) j pK;have lT:=U.length;have xT:C.H.kD (C.φ b) z=true:=by unfold AH.kD;rw [L];simp
  have d1:decide ((n+m)*bytes≤2^47)=true:=by simpa using M
  have d2:decide (n+m<2^62)=true:=by simpa using N
  have Xy:n*z≤c*z:=Nat.mul_le_mul_right _ h2;have adm:(o+c)*z=o*z+c*z:=Nat.add_mul ..;have I:(o+n)*z=o*z+n*z:=Nat.add_mul ..;have anm:(n+m)*z=n*z+m*z:=Nat.add_mul ..;split at k
  ·rename_i K
   cases k;have T:(n+m)*z≤c*z:=Nat.mul_le_mul_right _ K;obtain ⟨A,B⟩:=S.put u j G (jq (by omega)) (U.uc (k:=(o+n)*z) l);refine ⟨.slice (some ⟨C.φ b,o*z,none⟩) (n+m) c,_,_,?_,.sl ⟨_,_,rfl⟩ (by simpa using E) ?_ (fun _=>.inr ⟨by omega,rfl⟩),A,B⟩
   ·simp only [bm,f,if_neg Z,i,d1,d2,Bool.and_self,cond_true,if_pos K,xT,Option.isNone_none]
    unfold AH.st;simp only [L];rw [show decide (C.H.n0≤C.φ b)=true by simp [Y],show decide (o*z+n*z+R.length≤vs.length)=true by simp;omega,I];rfl
   ·intro z9 c9 e
    rw [eG E]at e;cases e;rw [jq (by omega)];omega
  ·rename_i K
   split at k
   case isFalse=>cases k
   rename_i X;cases k;subst X;simp only [Nat.zero_mul,Nat.zero_add]at adm I L O;have T:c*z<(n+m)*z:=Nat.mul_lt_mul_of_pos_right (by omega) w;have hdl:(cs.take (n*z)++new).length=(n+m)*z:=by rw [aqP,List.length_take,Nat.min_eq_left (by omega)];omega
   obtain ⟨A,B⟩:=S.grow (H1:=C.H.put (C.φ b) none) u j (ds:=cs.take (n*z)++new) (by omega) ((U.take _).append l) (.inr ⟨G,rfl⟩);refine ⟨.slice (some ⟨C.H.nx,0,none⟩) (n+m) (n+m),_,_,?_,.sl ⟨_,_,rfl⟩ (by simpa using E) ?_ (fun _=>.inr ⟨by omega,?_⟩),A,B⟩
   ·have eQ:C.H.ldn ⟨C.φ b,0,none⟩ (n*z)=some (vs.take (n*z)):=by
     rw [bH L Y (by omega)];simp
    simp only [bm,f,if_neg Z,i,d1,d2,Bool.and_self,cond_true,if_neg K,if_neg rm,xT,Option.isNone_none,Nat.zero_mul,eQ];rw [show decide (C.H.n0≤C.φ b)=true by simp [Y]];rfl
   ·intro z9 c9 e
    rw [eG E]at e;cases e;rw [hdl];simp
   ·simp [gH]
 ·cases k
end P
namespace P
open Go Go.RowKit
variable{C:Cx} {W:Nat→Prop}
theorem L3 (S:dO C) {sz:Nat} {p q r:PV} {x y:Value} {h':PH} (K:RV C p x) (J:RV C q y) (k:B7 sz C.h p q=some (r,h')) (hW:∀sz b o n c,p= .sl sz b o n c→W b):
 pv C W (j6 sz C.H x y) r h':=by
 unfold B7 at k;split at k
 ·cases k
 rename_i m w;obtain ⟨R,w⟩:=aw w;have e:=HL J w R
 have F:∃l,jL C.H sz 0 y=some l∧l.length=0:=by
  cases y with
  |slice a n c=>cases a<;>simp [jL,nb]
  |string s=>exact ⟨[],by simp [jL]⟩
  |_=>simp [mZ]at e
 split at k
 ·cases k
  cases K;obtain ⟨l,g,M⟩:=F;refine pv.val S (.v _) ?_;simp only [j6,e,Nat.min_zero];rw [g];rfl
 ·rename_i gj b o n c
  split at k
  case h_2=>cases k
  rename_i z cs D;split at k
  case isFalse=>cases k
  rename_i hc;obtain ⟨rfl,j,O,h2⟩:=hc;have I:=ti K D O;split at k
  ·rename_i f
   cases k;obtain ⟨l,g,M⟩:=F;refine pv.val S (.v _) ?_;have:l=[]:=aq9.1 M;subst this;rcases I with⟨_,rfl,d,rfl,_⟩|⟨_,rfl⟩
   ·simp only [j6,e,f,g]
    cases d<;>rfl
   ·simp only [j6,e,f,g]
    rfl
  ·rename_i f
   split at k
   case h_2=>cases k
   rename_i new T;cases k;have L:0<Nat.min m n:=by omega
   have X:Nat.min m n≤n:=Nat.min_le_right _ _;obtain ⟨i,Z,E,_,u⟩:=tj S J T L j;have u:=u m e (Nat.min_le_left _ _);rcases I with⟨_,rfl,_⟩|⟨_,rfl⟩
   ·simp at f
   have N:0<cs.length:=by rw [←O];exact Nat.mul_pos (by omega) j
   obtain ⟨P,Y,G,V⟩:=S.cells (t:=0) D N;have lT:=G.length;have SR:=E.length;have Q:(o+Nat.min m n)*gj≤(o+c)*gj:=Nat.mul_le_mul_right _ (by omega);rw [Nat.add_mul]at Q;obtain ⟨A,B⟩:=S.put (hW _ _ _ _ _ rfl) D (List.length_pos_iff.1 N) (jq (by omega)) (G.uc (k:=o*gj) E);refine ⟨.int .i64 (Nat.min m n),_,_,?_,.v _,A,B⟩;simp only [j6,e,Z]
   have U:i.isEmpty=false:=by
    cases i with
    |nil=>simp at u;have:=Nat.mul_pos L j;omega
    |cons=>rfl
   simp only [Option.bind_some,U,cond_false];unfold AH.st;simp only [Y];rw [show decide (C.H.n0≤C.φ b)=true by simp [V],show decide (o*gj+i.length≤P.length)=true by simp;omega];rfl
 ·cases k
theorem As {a:X→PV} {b:X→Value} (h:∀x,RV C (a x) (b x)) {o:Option X} {r:Option Value} (k:Oq (o.map a)=some r):o.map b=r:=by
 cases o with
 |none=>simpa [Oq]using k
 |some x=>
  have c:=h x;simp only [Option.map_some]at k⊢;revert k;generalize a x=p at c;intro k
  cases p<;>first
   |(simp [Oq]at k;done)
   |skip
  cases c
  simpa [Oq]using k
theorem Cc {v:Value} {y z n:Nat} (h:ij v y=some n) (a:n≤z):ij v z=some n:=by
 unfold ij at h⊢;cases v<;>simp_all;omega
theorem jJ {v:Value} {y n:Nat} (h:ij v y=some n):n≤y:=by
 unfold ij at h;cases v<;>simp_all;omega
theorem D7 {n c:Nat} {lo hi:Option Value} {l e m:Nat} (h:bz n n lo hi none=some (l,e,m)) (j:n≤c):bz n c lo hi none=some (l,e,c)∧m=n∧l≤e∧e≤n:=by
 have k:=h;unfold bz at h;obtain ⟨i,g,h⟩:=aqR.1 h;obtain ⟨e',h2,h⟩:=aqR.1 h;obtain ⟨b,a,h⟩:=aqR.1 h;simp only [aqH,aqO]at h;obtain ⟨rfl,rfl,rfl⟩:=h
 have d:b≤e':=by
  cases lo with
  |none=>simp only [aqH]at a;omega
  |some v=>exact jJ a
 have f:e'≤n:=by
  cases hi with
  |none=>simp only [aqH]at h2;omega
  |some v=>exact jJ h2
 refine ⟨?_,by simpa using g.symm,d,f⟩;unfold bz;refine aqR.2 ⟨c,rfl,aqR.2 ⟨e',?_,aqR.2 ⟨b,a,rfl⟩⟩⟩
 cases hi with
 |none=>exact h2
 |some v=>exact Cc h2 (by omega)
theorem HM {n c:Nat} {lo hi:Option Value} {v:Value} (h:bz n n lo hi (some v)=some (0,0,0)) (f:n≤c):bz n c lo hi (some v)=some (0,0,0):=by
 unfold bz at h;obtain ⟨d,b,h⟩:=aqR.1 h;obtain ⟨g,h2,h⟩:=aqR.1 h;obtain ⟨e,a,h⟩:=aqR.1 h;simp only [aqH,aqO]at h;obtain ⟨rfl,rfl,rfl⟩:=h;unfold bz;refine aqR.2 ⟨0,Cc b (by omega),aqR.2 ⟨0,?_,aqR.2 ⟨0,a,rfl⟩⟩⟩
 cases hi with
 |none=>exact h2
 |some v=>exact h2
theorem uF {n c:Nat} {lo hi mx:Option Value} {l e m:Nat} (h:bz n c lo hi mx=some (l,e,m)) (g:n≤c):m≤c∧(mx=none→m=c)∧l≤e∧e≤m:=by
 unfold bz at h;obtain ⟨b,f,h⟩:=aqR.1 h;obtain ⟨j,h2,h⟩:=aqR.1 h;obtain ⟨i,d,h⟩:=aqR.1 h;simp only [aqH,aqO]at h;obtain ⟨rfl,rfl,rfl⟩:=h
 have a:b≤c∧(mx=none→b=c):=by
  cases mx with
  |none=>simp only [aqH]at f;omega
  |some v=>exact ⟨jJ f,fun h=>by cases h⟩
 refine ⟨a.1,a.2, ?_, ?_⟩
 · cases lo with
   |none=>simp only [aqH]at d;omega
   |some v=>exact jJ d
 · cases hi with
   |none=>cases mx with
    |none=>simp only [aqH]at h2;have:=a.2 rfl;omega
    |some v=>cases h2
   |some v=>cases mx with
    |none=>have:=jJ h2;have:=a.2 rfl;omega
    |some w=>exact jJ h2
theorem yw {sz:Nat} {a:Option Addr} {n c:Nat} {rs:List (List Value)} {F:Nat→Prop} {H:AH} (f:Rows H sz (.slice a n c) rs) (g:∀d,a=some d→(d.spot=none∨c=0)∧(n=0∨(F d.block∧H.kD d.block sz=true))) (m:0<n):∃b o,a=some ⟨b,o,none⟩∧rs.length=n∧F b∧H.kD b sz=true∧∀i r,rs[i]?=some r→H.ldn ⟨b,o+i*sz,none⟩ sz=some r:=by
 obtain ⟨u,s,e,q⟩:=f.is;simp only [Value.slice.injEq]at e;obtain ⟨rfl,h,rfl⟩:=e;obtain ⟨b,o,rfl,_⟩:=q 0 _ (aqG (by omega));rcases (g _ rfl).2 with p|⟨j,h2⟩
 ·omega
 ·exact ⟨b,o,rfl,h.symm,j,h2,fun i r hi=>by obtain ⟨t,l,e,k⟩:=q i r hi;cases e;exact k⟩
theorem v8 {sz:Nat} {a:Option Addr} {c:Nat} (h:∀d,a=some d→d.spot=none∨c=0):RF C.F C.H (.fs sz []) (.slice a 0 c):=
 .fs (rows:=[]) (rs:=[]) ⟨_,_,rfl,by simp⟩ (aq8 _) (fun d b=>⟨h d b,.inl rfl⟩) .nil
theorem Xz (S:dO C) {sz:Nat} {p r:PV} {x:Value} {h':PH} {lo hi mx:Option X} {I:X→PV} {J:X→Value} (u:∀x,RV C (I x) (J x)) (D:RV C p x) (k:Xs sz C.h p (lo.map I) (hi.map I) (mx.map I)=some (r,h')):
 pv C W ((bS sz C.H x (lo.map J) (hi.map J) (mx.map J)).map fun v=>(v,C.H)) r h':=by
 unfold Xs at k;split at k
 case h_2=>cases k
 rename_i K pS Da Q P e3;rw [As u Q,As u P,As u e3];clear Q P e3 u;split at k
 ·rename_i g b o n c
  split at k
  case h_2=>cases k
  rename_i z cs l e m hh f;split at k
  case isFalse=>cases k
  rename_i G;obtain ⟨rfl,L,rfl,O,h2⟩:=G;have vU:=ti D hh O;split at k
  ·rename_i rm
   cases k;refine pv.val S D ?_;rcases vU with⟨_,rfl,d,rfl,j⟩|⟨a,_⟩
   case inr=>omega
   subst rm;obtain ⟨w,b2,b3,b4⟩:=uF f (aqK _);obtain ⟨rfl,rfl,rfl⟩:l=0∧e=0∧m=0:=by omega
   simp only [bS,f,nb,show¬ z=0 by omega,decide_false,Bool.not_false,aqK,decide_true,Bool.and_self,cond_true]
   cases d with
   |none=>rfl
   |some d=>simp
  rename_i rm;rcases vU with⟨a,_⟩|⟨_,rfl⟩
  ·omega
  have F:0<cs.length:=by rw [←O];exact Nat.mul_pos (by omega) L
  obtain ⟨vs,hg,cx,oB⟩:=S.cells (t:=0) hh F;have xT:C.H.kD (C.φ b) z=true:=by unfold AH.kD;rw [hg];simp
  split at k
  ·rename_i M
   split at k
   ·rename_i R
    cases k;subst R;refine pv.val S (x:=.slice (some ⟨C.φ b,o*z,some 1⟩) 0 0) (.fs (v8 fun _ _=>.inr rfl)) ?_
    have hm:m=c:=by
     unfold bz at f;obtain ⟨m',Y,f⟩:=aqR.1 f;obtain ⟨e',xf,f⟩:=aqR.1 f;obtain ⟨l',E,f⟩:=aqR.1 f;simp only [aqH,aqO]at f Y;omega
    simp only [bS,f,nb,show¬ z=0 by omega,decide_false,Bool.not_false,h2,decide_true,Bool.and_self,cond_true,if_pos M,Option.isNone_none,true_and];rw [if_pos (by omega)];rfl
   ·rename_i R
    cases k;obtain ⟨A,B⟩:=S.void z W
    have U:l≤e:=by
     unfold bz at f;obtain ⟨m',Y,f⟩:=aqR.1 f;obtain ⟨e',xf,f⟩:=aqR.1 f;obtain ⟨l',E,f⟩:=aqR.1 f;simp only [aqH,aqO]at f;obtain ⟨rfl,rfl,rfl⟩:=f
     cases K with
     |none=>simp only [aqH]at E;omega
     |some v=>exact jJ E
    refine ⟨.slice (some ⟨C.φ b,o*z,none⟩) 0 0,_,_,?_,.sl ⟨_,_,rfl⟩ (by simp) ?_ (fun _=>.inl ⟨rfl,rfl,_,rfl,by rintro e ⟨⟩;rfl⟩),A,B⟩
    ·have:Da.isNone=false:=by cases Da with
      |none=>exact absurd rfl R
      |some _=>rfl
     simp only [bS,f,nb,show¬ z=0 by omega,decide_false,Bool.not_false,h2,decide_true,Bool.and_self,cond_true,if_pos M,this];simp;omega
    ·intro z9 cs9 e9
     simp
  ·rename_i M
   split at k
   case isFalse=>cases k
   rename_i T;cases k;subst T
   have U:l≤m:=by
    unfold bz at f;obtain ⟨m',Y,f⟩:=aqR.1 f;obtain ⟨e',xf,f⟩:=aqR.1 f;obtain ⟨l',E,f⟩:=aqR.1 f;simp only [aqH,aqO]at f;obtain ⟨rfl,rfl,rfl⟩:=f
    cases K with
    |none=>simp only [aqH]at E;omega
    |some v=>have:=jJ E;omega
   refine pv.val S (x:=.slice (some ⟨C.φ b,(o+l)*z,none⟩) (e- l) (m- l)) (D.slT (by omega) ⟨_,_,rfl⟩ (.inr ⟨by omega,rfl⟩)) ?_;simp only [bS,f,nb,show¬ z=0 by omega,decide_false,Bool.not_false,h2,decide_true,Bool.and_self,cond_true,if_neg M,Option.isNone_none,xT,Bool.or_true,Nat.add_mul];rfl
 ·rename_i g rows
  split at k
  case isFalse=>cases k
  rename_i G;obtain ⟨rfl,L⟩:=G
  cases D with|fs q=>
  cases q with| @fs _ _ a c rs hr hl N ri=>
  have hlen:=ri.length;split at k
  ·split at k
   case h_2=>cases k
   rename_i l e m f;split at k
   case isFalse=>cases k
   cases k;obtain ⟨w,rfl,b3,b4⟩:=D7 f hl;have y:e≤c:=by omega
   by_cases F:c=l
   ·have fx:(rows.take e).drop l=[]:=are (by simp;omega)
    rw [fx]
    have j:∃d,bS g C.H (.slice a rows.length c) K pS none=some (.slice d 0 0):=by
     simp only [bS,w,nb,show¬ g=0 by omega,decide_false,Bool.not_false,y,decide_true,Bool.and_self,cond_true]
     cases a with
     |none=>exact ⟨none,by simp;omega⟩
     |some a=>
      simp only [if_pos F];split
      ·exact ⟨_,rfl⟩
      ·exact ⟨some a,by rw [show e- l=0 by omega]⟩
    obtain ⟨d,j⟩:=j;refine pv.val S (x:=.slice d 0 0) (.fs (v8 fun _ _=>.inr rfl)) (by rw [j];rfl)
   ·by_cases hn:rows.length=0
    ·obtain ⟨rfl,rfl⟩:l=0∧e=0:=by omega
     have:(rows.take 0).drop 0=[]:=by simp
     rw [this];refine pv.val S (x:=.slice a 0 c) (.fs (v8 fun d j=>(N d j).1)) ?_;simp only [bS,w,nb,show¬ g=0 by omega,decide_false,Bool.not_false,y,decide_true,Bool.and_self,cond_true]
     cases a with
     |none=>simp
     |some a=>
      rcases (N _ rfl).1 with Z|Z
      ·obtain ⟨bb,oo,ss⟩:=a
       simp only at Z;subst Z;simp [if_neg F]
      ·omega
    ·obtain ⟨b,o,rfl,O,h2,V,h4⟩:=yw hr N (by omega)
     refine pv.val S (x:=.slice (some ⟨b,o+l*g,none⟩) (e- l) (c- l)) ?_ ?_
     ·have Q:((rows.take e).drop l).length=e- l:=by simp;omega
      have P:((rs.take e).drop l).length=((rows.take e).drop l).length:=by simp;omega
      rw [←Q];refine .fs (.fs (rs:=(rs.take e).drop l) ⟨_,_,by rw [P],fun i r hi=>⟨b,o+l*g,rfl,?_⟩⟩ (by omega) ?_ ((ri.take e).drop l))
      ·rw [arl,arf]at hi
       split at hi
       case isFalse=>cases hi
       have:=h4 _ _ hi;rw [Nat.add_mul]at this;rw [←this];congr 2;omega
      ·rintro d ⟨⟩
       exact ⟨.inl rfl,.inr ⟨h2,V⟩⟩
     ·simp only [bS,w,nb,show¬ g=0 by omega,decide_false,Bool.not_false,y,decide_true,Bool.and_self,cond_true,if_neg F,Option.isNone_none,V,Bool.or_true]
      rfl
  ·split at k
   case isFalse=>cases k
   rename_i f;have w:=HM f hl;split at k
   ·cases k
    have j:∃d,bS g C.H (.slice a 0 c) K pS (some ‹Value›)=some (.slice d 0 0):=by
     simp only [List.length_nil]at w;simp only [bS,w,nb,show¬ g=0 by omega,decide_false,Bool.not_false,aqK,decide_true,Bool.and_self,cond_true]
     cases a with
     |none=>exact ⟨none,rfl⟩
     |some a=>exact ⟨some a,by simp⟩
    obtain ⟨d,j⟩:=j;refine pv.val S (x:=.slice d 0 0) (.fs (v8 fun _ _=>.inr rfl)) (by simp only [List.length_nil];rw [j];rfl)
   ·rename_i r0 rows
    cases k;obtain ⟨b,o,rfl,O,h2,V,h4⟩:=yw hr N (by simp);obtain ⟨A,B⟩:=S.void g W;refine ⟨.slice (some ⟨b,o,none⟩) 0 0,_,_,?_,.sl ⟨_,_,rfl⟩ (by simp) ?_ (fun _=>.inl ⟨rfl,rfl,_,rfl,by rintro e ⟨⟩;rfl⟩),A,B⟩
    ·simp only [bS,w,nb,show¬ g=0 by omega,decide_false,Bool.not_false,aqK,decide_true,Bool.and_self,cond_true]
     simp
    ·intro z9 cs9 e9
     simp
 ·split at k
  case isFalse=>cases k
  rename_i G;cases k;cases D;refine pv.val S (.v _) ?_;obtain ⟨⟨l,e,m⟩,f⟩:=arj.1 G.2;obtain ⟨w,b2,b3,b4⟩:=uF f (aqK _);obtain ⟨rfl,rfl,rfl⟩:l=0∧e=0∧m=0:=by omega
  simp only [bS,f,nb,show¬ sz=0 by omega,decide_false,Bool.not_false,aqK,decide_true,Bool.and_self,cond_true];rfl
 ·rename_i s
  split at k
  ·cases k
  ·split at k
   case h_2=>cases k
   rename_i l e m f;split at k
   case isFalse=>cases k
   rename_i L;cases k;subst L;cases D;refine pv.val S (.v _) ?_;simp only [bS,f];rfl
 ·cases k
end P
namespace P
open Go Go.RowKit
variable{C:Cx} {W:Nat→Prop}
theorem Cd {k:Value}:∀{es:List (Value×PV)} {ys:List (Value×Value)} {r:Option PV},es.map (·.1)=ys.map (·.1)→cL C (es.map (·.2)) (ys.map (·.2))→uE k es=some r→(r=none∧fI k ys=some none)∨∃p v,r=some p∧fI k ys=some (some v)∧RV C p v
 |[],ys,r,h,_,e=>by
  cases ys with
  |nil=>cases e;exact .inl ⟨rfl,rfl⟩
  |cons=>simp at h
 |(n,p)::es,ys,r,h,g,e=>by
  cases ys with
  |nil=>simp at h
  |cons y ys=>
   obtain ⟨m,v⟩:=y;simp only [List.map_cons,List.cons.injEq]at h;obtain ⟨rfl,h⟩:=h;simp only [List.map_cons]at g
   cases g with|cons l j=>
   simp only [uE]at e;split at e
   ·rename_i d
    cases e;exact .inr ⟨p,v,rfl,by simp [fI,d],l⟩
   ·rename_i d
    rcases Cd h j e with⟨a,b⟩|⟨i,f,a,b,c⟩
    ·exact .inl ⟨a,by simp [fI,d,b]⟩
    ·exact .inr ⟨i,f,a,by simp [fI,d,b],c⟩
   ·cases e
theorem HO {k:Value} {p:PV} {v:Value} (i:RV C p v):∀{es fs:List (Value×PV)} {ys:List (Value×Value)},es.map (·.1)=ys.map (·.1)→cL C (es.map (·.2)) (ys.map (·.2))→Ap k p es=some fs→∃d,lI k v ys=some d∧fs.map (·.1)=d.map (·.1)∧cL C (fs.map (·.2)) (d.map (·.2))
 |[],fs,ys,h,_,e=>by
  cases ys with
  |nil=>cases e;exact ⟨[(k,v)],rfl,rfl,.cons i .nil⟩
  |cons=>simp at h
 |(n,q)::es,fs,ys,h,g,e=>by
  cases ys with
  |nil=>simp at h
  |cons y ys=>
   obtain ⟨r,m⟩:=y;simp only [List.map_cons,List.cons.injEq]at h;obtain ⟨rfl,h⟩:=h;simp only [List.map_cons]at g
   cases g with|cons o l=>
   simp only [Ap]at e;split at e
   ·rename_i f
    cases e;exact ⟨(k,v)::ys,by simp [lI,f],by simp [h],.cons i l⟩
   ·rename_i f
    cases j:Ap k p es with
    |none=>simp [j]at e
    |some s=>
     simp only [j,Option.map_some,aqH]at e;subst e;obtain ⟨d,a,b,c⟩:=HO i h l j;exact ⟨(n,m)::d,by simp [lI,f,a],by simp [b],.cons o c⟩
   ·cases e
theorem HP {b:Nat} {x:Value} {es:List (Value×PV)} (h:RV C (.mp b) x) (e:C.h[b]?=some (.map es)):x= .map (some (C.φ b)):=by
 cases h with|mp _ c a=>exact a ⟨es,e⟩
theorem L5 (S:dO C) {kk:Nat} {z:Value} {p q r:PV} {x y:Value} {ok:Bool} (h:RV C p x) (g:RV C q y) (k:B1 kk z C.h p q ok=some r):∃w,iE kk z C.H x y ok=some w∧RV C r w:=by
 have i:∃w,(bif ok then Value.tuple #[z,.bool false]else z)=w∧RV C (bif ok then .fF [wW z,.v (.bool false)]else wW z) w:=by
  refine ⟨_,rfl,?_⟩;cases ok
  ·exact Aq z
  ·exact .fF (xs:=[z,.bool false]) (.cons (Aq z) (.cons (.v _) .nil))
 obtain ⟨l,m,n⟩:=i;unfold B1 at k;split at k
 ·cases h;cases g
  split at k
  case isFalse=>cases k
  rename_i c;cases k;exact ⟨l,by simp [iE,c,←m],n⟩
 ·rename_i b B
  cases g;split at k
  case h_2=>cases k
  rename_i es o;split at k
  case isFalse=>cases k
  rename_i c;rw [HP h o];obtain ⟨A,s,u,t,j,_⟩:=S.yp _ _ o;have d:decide (C.H.n0≤C.φ b)=true:=by simp [j]
  cases f:uE y es with
  |none=>simp [f]at k
  |some q=>
   rcases Cd u t f with⟨rfl,e⟩|⟨p,v,rfl,e,a⟩
   ·simp only [f,aqH]at k
    subst k;exact ⟨l,by simp [iE,s,c,j,e,←m],n⟩
   ·simp only [f,aqH]at k
    subst k;refine ⟨(bif ok then Value.tuple #[v,.bool true]else v),by simp [iE,s,c,j,e],?_⟩;cases ok
    ·exact a
    ·exact .fF (xs:=[v,.bool true]) (.cons a (.cons (.v _) .nil))
 ·cases k
theorem Ry (S:dO C) {kk:Nat} {p q r:PV} {x y z:Value} {i:PH} (h:RV C p x) (g:RV C q y) (f:RV C r z) (k:HI kk C.h p q r=some i) (t:∀b,p= .mp b→W b):∃H',rh kk C.H x y z=some H'∧dO ⟨C.F,H',C.φ,i⟩∧dH C.h.length W C ⟨C.F,H',C.φ,i⟩:=by
 unfold HI at k;split at k
 ·rename_i b D
  cases g;split at k
  case h_2=>cases k
  rename_i es d;split at k
  case isFalse=>cases k
  rename_i j;rw [HP h d];obtain ⟨w,o,n,l,m,_⟩:=S.yp _ _ d
  cases e:Ap y r es with
  |none=>simp [e]at k
  |some E=>
   simp only [e,Option.map_some,aqH]at k;subst k;obtain ⟨v,a,u,c⟩:=HO f n l e;obtain ⟨A,B⟩:=S.agk (t _ rfl) d u c;refine ⟨_,?_,A,B⟩;obtain ⟨cs,s⟩:=arj.1 j.2;simp [rh,o,j.1,m,a,(iW f s).2]
 ·cases k
theorem HQ (S:dO C) (W:Nat→Prop) {z:Nat} {cs:List PV} {vs:List Value} (h:cL C cs vs):pv C W (some (.pointer (some ⟨C.H.nx,0,none⟩),C.H.alloc (.cells z vs))) (.ref C.h.length 0 cs.length) (C.h++[.cells z cs]):=by
 obtain ⟨A,B⟩:=S.new (P:=.cells z cs) (B:=.cells z vs) W (.inl ⟨_,_,_,rfl,rfl,h⟩);refine ⟨_,_,_,rfl,.ref rfl (by simp) ?_ (fun _=>by simp [gH]),A,B⟩;intro c b a;rw [show(C.h++[PB.cells z cs])[C.h.length]?=_ from kT _ _]at a;cases a;exact aqK _
theorem Ce (S:dO C) (W:Nat→Prop) {sz len:Nat} {cs:List PV} {vs:List Value} (h:cL C cs vs) (b:cs.length=len*sz) (g:0<sz):pv C W (some (.slice (some ⟨C.H.nx,0,none⟩) len len,C.H.alloc (.cells sz vs))) (.sl sz C.h.length 0 len len) (C.h++[.cells sz cs]):=by
 obtain ⟨A,B⟩:=S.new (P:=.cells sz cs) (B:=.cells sz vs) W (.inl ⟨_,_,_,rfl,rfl,h⟩);refine ⟨_,_,_,rfl,.sl ⟨_,_,rfl⟩ (by simp) ?_ (fun _=>?_),A,B⟩
 ·intro f d a
  rw [show(C.h++[PB.cells sz cs])[C.h.length]?=_ from kT _ _]at a;cases a;simp [b]
 ·by_cases c:len=0
  ·subst c;exact .inl ⟨rfl,rfl,_,rfl,by rintro e ⟨⟩;rfl⟩
  ·exact .inr ⟨by omega,by simp [gH]⟩
theorem HR:∀{ps:List PV} {l xs:List Value},Rs ps=some l→cL C ps xs→xs=l
 |[],l,xs,h,g=>by cases g;cases h;rfl
 |p::ps,l,xs,h,g=>by
  cases g with|cons b a=>
  cases p with
  |v x=>
   cases b;simp only [Rs]at h
   cases h2:Rs ps with
   |none=>simp [h2]at h
   |some m=>
    simp only [h2,Option.map_some,aqH]at h;rw [←h,HR h2 a]
  |_=>simp [Rs]at h
theorem Cg {cs ds:List PV} {xs ys:List Value} (h:cL C cs xs) (g:cL C ds ys):∀{offs:List (Nat×Nat)} {b:Bool},D6 cs ds offs=some b→dP xs ys offs=some b
 |[],b,e=>e
 |(o,kk)::l,b,e=>by
  simp only [D6]at e;split at e
  case h_2=>cases e
  rename_i a m k h2;obtain ⟨x,i,rx⟩:=h.get k;obtain ⟨y,f,d⟩:=g.get h2;cases rx;cases d;split at e
  case isFalse=>cases e
  rename_i j;simp only [dP,i,f,j,cond_true];split at e
  ·rename_i c;rw [c];exact Cg h g e
  ·rename_i c;rw [c];exact e
  ·cases e
theorem Ou {f:Value→List Value→Option Value} {p r:PV} {x:Value} {ps:List PV} {xs:List Value} (h:RV C p x) (g:cL C ps xs) (k:Xt f p ps=some r):∃y,f x xs=some y∧RV C r y:=by
 unfold Xt at k;split at k
 ·rename_i c b e
  cases h;rw [HR e g]
  cases a:f x b with
  |none=>simp [a]at k
  |some y=>simp only [a,Option.map_some,aqH]at k;subst k;exact ⟨y,rfl,.v _⟩
 ·cases k
def up (r:Option (Value×AH)):Option (iY×AH):=r.map fun q=>(.v q.1,q.2)
theorem L6 (o n:Nat) (c:Bool) (vs:List Value) (H:AH):EM (.Jm o n c) vs H=(TQ (.Jm o n c) vs).map fun v=>(v,H):=by
 match vs with
 |[]=>rfl
 |[a]=>cases a<;>rfl
 |a::b::l=>cases a<;>rfl
theorem L7 (len n:Nat) (d:Bool) (vs:List Value) (H:AH):EM (.Jn len n d) vs H=(TQ (.Jn len n d) vs).map fun v=>(v,H):=by
 match vs with
 |[]=>rfl
 |[a]=>cases a<;>rfl
 |[a,b]=>
  cases a<;>first|rfl|skip
  cases b<;>first|rfl|skip
  simp only [EM,TQ];split<;>rfl
 |a::b::c::l=>cases a<;>first|rfl|(cases b<;>rfl)
theorem Ch {C:Cx} {ps:List PV} {vs:List Value} {n:Nat} {c:Bool} {q:PV} (h:cL C ps vs) (e:yq ps n c=some q):∃y,qw vs n c=some y∧RV C q y:=by
 unfold yq at e;split at e
 case isFalse=>cases e
 rename_i f;have d:vs.length=n:=by rw [←h.length];exact f
 unfold qw;rw [nb,decide_eq_true d,cond_true]
 cases c with
 |true=>
  simp only [cond_true,aqH]at e;subst e;exact ⟨_,rfl,.agg h⟩
 |false=>
  simp only [cond_false]at e⊢;split at e
  ·cases e
   cases h with|cons a b=>
   cases b;exact ⟨_,rfl,a⟩
  ·cases e
theorem dN {C:Cx} (S:dO C) {p:PV} {h':PH} {r:Option PV} {r':Option Value} {a:Option (iY×AH)} (f:a=r'.map fun v=>(.v v,C.H)) (k:(r.map fun v=>(v,C.h))=some (p,h')) (e:∀q,r=some q→∃y,r'=some y∧RV C q y):∃b,a=up b∧pv C W b p h':=by
 cases c:r with
 |none=>simp [c]at k
 |some q=>
  simp only [c,Option.map_some,aqH,aqO]at k;obtain ⟨rfl,rfl⟩:=k;obtain ⟨y,d,g⟩:=e q c;refine ⟨some (y,C.H),by rw [f,d];rfl,pv.val S g rfl⟩
theorem Rz {H:AH} {b:X→Value} {sz:Nat} {x i:X}:aq (.ia sz x i) b H=(NY sz (b x) (b i)).map fun v=>(.v v,H):=by
 simp only [aq]
 cases b x with
 |slice a len c=>
  cases a with
  |none=>rfl
  |some a=>
   cases b i<;>first
    |rfl
    |(simp only [NY];split<;>first|rfl|(cases a.spot.isNone<;>rfl))
 |_=>rfl
theorem L8 {H:AH} {b:X→Value} {len sz:Nat} {x i:X}:aq (.qx len sz x i) b H=(xJ len sz (b x) (b i)).map fun v=>(.v v,H):=by
 simp only [aq]
 cases b x with
 |pointer a=>
  cases a with
  |none=>rfl
  |some a=>
   cases b i<;>first
    |rfl
    |(simp only [xJ];split<;>first|rfl|(cases a.spot.isNone<;>rfl))
 |_=>rfl
theorem FN {H:AH} {a:X→Value} {x i:X}:aq (.ix x i) a H=(Ew (a x) (a i)).map fun v=>(.v v,H):=by
 simp only [aq]
 cases a x with
 |string s=>
  cases a i<;>first
   |rfl
   |(simp only [Ew];rename_i n;cases s[n.toNat]?<;>(split<;>rfl))
 |_=>rfl
theorem HS {H:AH} {a:X→Value} {kk:Nat} {z:Value} {x c:X} {ok:Bool}:aq (.look kk z x c ok) a H=(iE kk z H (a x) (a c) ok).map fun v=>(.v v,H):=by
 simp only [aq,iE]
 cases a x with
 |map r=>
  cases r with
  |none=>dsimp only;cases cw kk (a c)<;>rfl
  |some r=>
   dsimp only
   cases H.get r with
   |none=>rfl
   |some b=>
    cases b with
    |cells=>rfl
    |map es=>
     dsimp only;cases cw kk (a c)&&decide (H.n0≤r)
     ·rfl
     ·cases fI (a c) es with
      |none=>rfl
      |some q=>cases q<;>rfl
 |_=>rfl
theorem L9 {H:AH} {c:X→Value} {neg:Bool} {offs:List (Nat×Nat)} {x y:X}:aq (.eqs neg offs x y) c H=(KZ neg offs (c x) (c y)).map fun v=>(.v v,H):=by
 simp only [aq]
 cases c x<;>cases c y<;>first
  |rfl
  |(simp only [KZ];rename_i a b;cases dP a.toList b.toList offs<;>rfl)
theorem RA {C:Cx} (S:dO C) {o:cv} {G:X→PV} {u:X→Value} {p:PV} {h':PH} (h:∀x,RV C (G x) (u x)) (k:pop o G C.h=some (p,h')):∃b,aq o u C.H=up b∧pv C (· ∈yr o G) b p h':=by
 cases o with
 |mv x=>cases k;exact ⟨some (u x,C.H),rfl,pv.val S (h x) rfl⟩
 |pick c a b=>
  refine dN S (r':=xI (u c) (u a) (u b)) (by simp only [aq];cases u c<;>rfl) k fun q j=> ?_
  have I:=h c;revert j I;generalize G c=pc;intro j I
  cases pc<;>first
   |(cases j;done)
   |skip
  rename_i w
  cases w<;>first
   |(cases j;done)
   |skip
  rename_i t;cases j;rw [I.qS];refine ⟨_,rfl, ?_⟩;cases t
  · exact h b
  · exact h a
 |alloc z=>
  cases k;refine ⟨some (.pointer (some ⟨C.H.nx,0,none⟩),C.H.alloc (.cells z.length z)),rfl, ?_⟩;have:=HQ S (· ∈yr (.alloc z) G) (z:=z.length) (cL.lits z);rw [List.length_map]at this;exact this
 |box x=>
  simp only [pop,LX]at k;split at k
  case h_2=>cases k
  rename_i cs I;cases k;obtain ⟨a,b⟩:=iW (h x) I;refine ⟨some (.pointer (some ⟨C.H.nx,0,none⟩),C.H.alloc (.cells (aT (u x)).length (aT (u x)))),by simp [aq,b,up], ?_⟩;rw [←a.length];exact HQ S _ a
 |build z ps=>
  cases R:pr (z.map .v) (ps.map fun p=>(p.1,p.2.1,G p.2.2))with
  |none=>simp [pop,R]at k
  |some d=>
   simp only [pop,R,Option.map_some,aqH,aqO]at k;obtain ⟨rfl,rfl⟩:=k;obtain ⟨Q,e,g⟩:=B8 (LY.of h ps) (cL.lits z) R;exact ⟨some (.agg Q.toArray,C.H),by simp [aq,e,up],pv.val S (.agg g) rfl⟩
 |bsl len sz z ps=>
  simp only [pop,LV]at k;split at k
  case h_2=>cases k
  rename_i d R;split at k
  case isFalse=>cases k
  rename_i I;cases k;obtain ⟨Q,e,g⟩:=B8 (LY.of h ps) (cL.lits z) R;exact ⟨some (.slice (some ⟨C.H.nx,0,none⟩) len len,C.H.alloc (.cells sz Q)),by simp [aq,e,up],Ce S _ g I.1 I.2⟩
 |ld x=>exact dN S (r':=Tl C.H (u x)) (by
   simp only [aq]
   cases u x with
   |pointer a=>cases a<;>rfl
   |_=>rfl) k fun q j=>Ot S (h x) j
 |ldn n x=>exact dN S (r':=tW n C.H (u x)) (by
   simp only [aq]
   cases u x with
   |pointer a=>
    cases a with
    |none=>rfl
    |some a=>simp only [tW];cases C.H.ldn a n<;>rfl
   |_=>rfl) k fun q j=>Ar S (h x) j
 |st n x v=>
  cases J:Rq n C.h (G x) (G v)with
  |none=>simp [pop,J]at k
  |some h2=>
   simp only [pop,J,Option.map_some,aqH,aqO]at k;obtain ⟨rfl,rfl⟩:=k;obtain ⟨N,e,A,B⟩:=Xu (W:=(· ∈yr (.st n x v) G)) S (h x) (h v) J (fun b o t e=>by simp [yr,e]);refine ⟨some (undef,N), ?_,undef,N,C.φ,rfl, .v _,A,B⟩
   have:aq (.st n x v) u C.H=(Gg n C.H (u x) (u v)).map fun N=>(.v undef,N):=by
    simp only [aq]
    cases u x with
    |pointer a=>
     cases a with
     |none=>rfl
     |some a=>simp only [Gg];cases (Nat.beq (aT (u v)).length n&& !cC (u v))<;>simp
    |_=>rfl
   rw [this,e];rfl
 |aZ x=>
  refine dN S (r':=ur (u x)) (by
   simp only [aq]
   cases u x with
   |pointer a=>cases a<;>rfl
   |_=>rfl) k fun q j=> ?_
  obtain ⟨a,b⟩:=L0 (h x) j;exact ⟨_,a,b⟩
 |bin op x y=>
  refine dN S (r':=cj op (u x) (u y)) rfl k fun q j=> ?_
  have D:=h x;have K:=h y;unfold LO at j;split at j
  · rename_i a b E M
    rw [E]at D;rw [M]at K;rw [D.qS,K.qS]
    cases F:cj op a b with
    |none=>simp [F]at j
    |some w=>simp only [F,Option.map_some,aqH]at j;subst j;exact ⟨w,rfl, .v _⟩
  · cases j
 |eqk kk neg x y=>
  cases J:LR C.h kk (G x) (G y)with
  |none=>simp [pop,J]at k
  |some b=>
   simp only [pop,J,Option.map_some,aqH,aqO]at k;obtain ⟨rfl,rfl⟩:=k;exact ⟨some (.bool (bif neg then !b else b),C.H),by simp only [aq];rw [LZ (h x) (h y) J];rfl,pv.val S (.v _) rfl⟩
 |un op x=>
  refine dN S (r':=EL op (u x)) rfl k fun q j=> ?_
  have D:=h x;unfold pun at j;split at j
  · rename_i a E
    rw [E]at D;rw [D.qS]
    cases F:EL op a with
    |none=>simp [F]at j
    |some w=>simp only [F,Option.map_some,aqH]at j;subst j;exact ⟨w,rfl, .v _⟩
  · cases j
 |nk kk x=>
  refine dN S (r':=Gk kk (u x)) (by simp only [aq];cases u x<;>rfl) k fun q j=> ?_
  have D:=h x;unfold LS at j;split at j
  · rename_i V n E
    rw [E]at D;rw [D.qS];cases j;exact ⟨_,rfl, .v _⟩
  · cases j
 |SM x=>
  refine dN S (r':=Vw (u x)) (by simp only [aq];cases u x<;>rfl) k fun q j=> ?_
  have D:=h x;unfold Rr at j;split at j
  · rename_i V n E
    rw [E]at D;rw [D.qS];cases j;exact ⟨_,rfl, .v _⟩
  · cases j
 |mkf f first cap=>cases k;exact ⟨some (.func (.func f) (first.map u).toArray (cap.map u).toArray,C.H),rfl,pv.val S (.fn (cL.of h first) (cL.of h cap)) rfl⟩
 |mkmap=>
  cases k;obtain ⟨A,B⟩:=S.new (P:= .map []) (B:= .map []) (· ∈yr .mkmap G) (.inr ⟨[],[],rfl,rfl,rfl, .nil⟩);exact ⟨some (.map (some C.H.nx),C.H.alloc (.map [])),rfl,_,_,_,rfl, .mp rfl (by simp) (fun _=>by simp [gH]),A,B⟩
 |mksl sz bytes z x=>
  have D:=h x;simp only [pop]at k;unfold HJ at k;split at k
  · rename_i V n E
    rw [E]at D;split at k
    case isFalse=>cases k
    rename_i I;cases k;refine ⟨some (.slice (some ⟨C.H.nx,0,none⟩) n.toNat n.toNat,C.H.alloc (.cells sz (List.replicate n.toNat z).flatten)), ?_,Ce S _ ((cL.lits z).Xq _) ?_ I.2.2.2.2⟩
    · have d3:decide ((bytes:Int)*n≤2^47)=true:=decide_eq_true I.2.2.1
      simp only [aq,D.qS,decide_eq_true I.1,decide_eq_true I.2.1,d3,Bool.and_self,cond_true];rfl
    · have Y:=I.2.2.2.1
      clear I D E
      induction n.toNat with
      |zero=>simp
      |succ m ih=>simp only [List.replicate_succ,List.flatten_cons,aqP,List.length_map,ih,Nat.succ_mul];omega
  · cases k
 |sl sz x lo hi mx=>exact ⟨_,by simp only [aq,up,Option.map_map];rfl,Xz S h (h x) k⟩
 |fa off x=>
  refine dN S (r':=NX off (u x)) ?_ k fun q j=>Xw (h x) j
  simp only [aq]
  cases u x with
  |pointer a=>
   cases a with
   |none=>rfl
   |some a=>simp only [NX];cases a.spot.isNone<;>rfl
  |_=>rfl
 |ia sz x i=>exact dN S Rz k fun q j=>Xx (h x) (h i) j
 |qx len sz x i=>exact dN S L8 k fun q j=>Ru (h x) (h i) j
 |ix x i=>
  refine dN S FN k fun q j=> ?_
  have D:=h x;have K:=h i;unfold pix at j;split at j
  · rename_i a b E M
    rw [E]at D;rw [M]at K;rw [D.qS,K.qS]
    cases F:Ew a b with
    |none=>simp [F]at j
    |some w=>simp only [F,Option.map_some,aqH]at j;subst j;exact ⟨w,rfl, .v _⟩
  · cases j
 |look kk z x L ok=>exact dN S HS k fun q j=>L5 S (h x) (h L) j
 |pJ kk x L v=>
  cases J:HI kk C.h (G x) (G L) (G v)with
  |none=>simp [pop,J]at k
  |some h2=>
   simp only [pop,J,Option.map_some,aqH,aqO]at k;obtain ⟨rfl,rfl⟩:=k;obtain ⟨N,e,A,B⟩:=Ry (W:=(· ∈yr (.pJ kk x L v) G)) S (h x) (h L) (h v) J (fun b e=>by simp [yr,e]);refine ⟨some (undef,N), ?_,undef,N,C.φ,rfl, .v _,A,B⟩
   have:aq (.pJ kk x L v) u C.H=(rh kk C.H (u x) (u L) (u v)).map fun N=>(.v undef,N):=by
    simp only [aq,rh]
    cases u x with
    |map r=>
     cases r with
     |none=>rfl
     |some r=>
      dsimp only
      cases C.H.get r with
      |none=>rfl
      |some b=>
       cases b with
       |cells=>rfl
       |map es=>
        dsimp only;cases (cw kk (u L)&&decide (C.H.n0≤r)&& !cC (u v))
        · rfl
        · simp only [cond_true]
          cases lI (u L) (u v) es<;>rfl
    |_=>rfl
   rw [this,e];rfl
 |ext x i=>
  refine dN S (r':=xK (u x) i) (by
   simp only [aq]
   cases u x with
   |tuple vs=>simp only [xK];cases vs.toList[i]?<;>rfl
   |_=>rfl) k fun q j=> ?_
  have D:=h x;unfold LU at j;split at j
  · rename_i ps i' E
    rw [E]at D;revert D;generalize u x=y;intro D
    cases D with|fF g=>
    obtain ⟨z,Y,gz⟩:=g.get j;exact ⟨z,by simpa [xK]using Y,gz⟩
  · cases j
 |xt Z l=>
  have O:=cL.of h l
  cases Z with
  |bad=>simp only [pop,TP]at k;cases k
  |oA=>simp only [pop,TP]at k;cases k
  |Jm o n T=>
   refine dN S (r':=TQ (.Jm o n T) (l.map u)) (by simp only [aq,L6,Option.map_map];rfl) k fun q j=> ?_
   unfold TP at j;split at j
   case h_2=>cases ‹XK.Jm o n T=XK.Jn _ _ _›
   case h_3=>cases j
   rename_i o' n' U cs E M;cases E;rw [M]at O;generalize l.map u=Q at O
   cases O with|cons a b=>
   cases b
   cases a with|agg g=>
   obtain ⟨v,e,r⟩:=Ch ((g.drop o).take n) j;exact ⟨v,e,r⟩
  |Jn len n T=>
   refine dN S (r':=TQ (.Jn len n T) (l.map u)) (by simp only [aq,L7,Option.map_map];rfl) k fun q j=> ?_
   unfold TP at j;split at j
   case h_1=>cases ‹XK.Jn len n T=XK.Jm _ _ _›
   case h_3=>cases j
   rename_i aot n' U cs ki i E M;cases E;rw [M]at O;generalize l.map u=Q at O
   cases O with|cons a b=>
   cases b with|cons b c=>
   cases c;cases b
   cases a with|agg g=>
   split at j
   · rename_i hi
     obtain ⟨v,e,r⟩:=Ch ((g.drop (i.toNat*n)).take n) j;refine ⟨v, ?_,r⟩;simp only [TQ,if_pos hi];exact e
   · cases j
 |call f «as»=>cases k
 |callv x «as»=>cases k
 |app sz bytes s x=>exact ⟨_,rfl,Rw S (h s) (h x) k (fun sz b o n c e=>by simp [yr,e])⟩
 |copy sz d s=>exact ⟨_,rfl,L3 S (h d) (h s) k (fun sz b o n c e=>by simp [yr,e])⟩
 |lens x=>
  refine dN S (r':=sI (u x)) (by simp only [aq];cases u x<;>rfl) k fun q j=> ?_
  have D:=h x;unfold HG at j;split at j
  · rename_i a E
    rw [E]at D;rw [D.qS]
    cases F:sI a with
    |none=>simp [F]at j
    |some w=>simp only [F,Option.map_some,aqH]at j;subst j;exact ⟨w,rfl, .v _⟩
  · cases j
 |eN x=>
  refine dN S (r':=sJ (u x)) (by simp only [aq];cases u x<;>rfl) k fun q j=> ?_
  have D:=h x;unfold BZ at j;split at j
  · rename_i a E
    rw [E]at D;rw [D.qS]
    cases F:sJ a with
    |none=>simp [F]at j
    |some w=>simp only [F,Option.map_some,aqH]at j;subst j;exact ⟨w,rfl, .v _⟩
  · rename_i sz b o n c E
    rw [E]at D;cases j;revert D;generalize u x=y;intro D
    cases D with|sl hn _ _ _=>
    obtain ⟨_,_,rfl⟩:=hn;exact ⟨_,rfl, .v _⟩
  · rename_i sz rows E
    rw [E]at D;cases j;revert D;generalize u x=y;intro D
    cases D with|fs g=>
    cases g;exact ⟨_,rfl, .v _⟩
  · cases j
 |O2 t x=>cases k;exact ⟨some (.iface t (u x),C.H),rfl,pv.val S (.qg (h x)) rfl⟩
 |mxl x l=>exact dN S (r':=Jl (u x) (l.map u)) rfl k fun q j=>Ou (h x) (cL.of h l) j
 |mnl x l=>exact dN S (r':=Nq (u x) (l.map u)) rfl k fun q j=>Ou (h x) (cL.of h l) j
 |eqs neg offs x y=>
  refine dN S L9 k fun q j=> ?_
  have D:=h x;have K:=h y;unfold LW at j;split at j
  · rename_i cs ds E M
    rw [E]at D;rw [M]at K;revert D K;generalize u x=a;generalize u y=b;intro D K
    cases D with|agg gx=>
    cases K with|agg gy=>
    cases F:D6 cs ds offs with
    |none=>simp [F]at j
    |some w=>
     simp only [F,Option.map_some,aqH]at j;subst j;exact ⟨_,by simp only [KZ,List.toList_toArray];rw [Cg gx gy F];rfl, .v _⟩
  · cases j
end P
namespace P
open Go Go.RowKit
structure PF where
 g:Nat→PV
def PF.get (f:PF) (n:Nat):PV:=f.g n
def PF.put (f:PF) (n:Nat) (p:PV):PF:=⟨fun m=>if m=n then p else f.g m⟩
def PF.aO (f:PF) (d:Option Nat) (p:PV):PF:=match d with|some n=>f.put n p|none=>f
def PF.of (l:List PV):PF:=⟨fun n=>l.getD n .any⟩
theorem PF.bG (f:PF) (n m:Nat) (p:PV):(f.put n p).get m=if m=n then p else f.get m:=rfl
theorem PF.eO (l:List PV) (n:Nat):(PF.of l).get n=l.getD n .any:=rfl
def fG (f:PF):X→PV
 | .t n=>f.get n
 | .k v=>wW v
 | .f n=>.fn n [] []
def nh (C:Cx) (fr:PF) (af:Fr):Prop:=∀t,RV C (fr.get t) (af.get t)
theorem nh.ev {C:Cx} {a:PF} {b:Fr} (h:nh C a b):∀x,RV C (fG a x) (X.ev b x)
 | .t n=>h n
 | .k v=>Aq v
 | .f n=>.fn (xs:=[]) (ys:=[]) .nil .nil
theorem nh.put {C:Cx} {a:PF} {b:Fr} (h:nh C a b) {p:PV} {x:Value} (k:RV C p x) (n:Nat):nh C (a.put n p) (b.put n x):=by
 intro t;rw [PF.bG,Fr.bG];split
 ·exact k
 ·exact h t
theorem nh.aO {C:Cx} {a:PF} {b:Fr} (h:nh C a b) {p:PV} {x:Value} (k:RV C p x) (d:Option Nat):nh C (a.aO d p) (b.aO d x):=by
 cases d with
 |none=>exact h
 |some n=>exact h.put k n
theorem nh.step {W:Nat→Prop} {C D:Cx} {a:PF} {af:Fr} (h:nh C a af) (T:dH C.h.length W C D):nh D a af:=fun t=>(h t).step T
theorem nh.of {C:Cx} {ps:List PV} {xs:List Value} (h:cL C ps xs):nh C (PF.of ps) (Fr.of xs):=by
 intro t;rw [PF.eO,Fr.eO];rw [List.getD_eq_getElem?_getD,List.getD_eq_getElem?_getD]
 cases e:ps[t]? with
 |none=>exact .any _
 |some p=>
  obtain ⟨x,a,r⟩:=h.get e;rw [a];exact r
def Ov:PV→Bool
 | .v x=>LN x
 | .ref _ _ _| .sl _ _ _ _ _| .mp _| .fs _ _| .fp _=>true
 |_=>false
def HT (o:AO) (fr:PF):Bool:=match o.g with
 |none=>true
 |some (t,b)=>match fr.get t with| .v x=>et b x|_=>true
def D9 (n:Nat) (p:PV) (h:PH) (W:List Nat):Bool:=match p with
 | .ref b o t=>match h[b]? with
   |some (.cells _ cs)=>decide (cs.length=t)&&decide (o+n≤t)&&decide (0<t)&& !W.contains b&&((cs.drop o).take n).all Ov
   |_=>false
 | .fp cells=>decide (n≤cells.length)&&(cells.take n).all Ov
 |_=>false
def RB (o:cv) (fr:PF) (h:PH) (W:List Nat):Bool:=match o with
 | .ld x=>D9 1 (fG fr x) h W
 | .ldn n x=>D9 n (fG fr x) h W
 |_=>false
def Ma (b:Nat) (h:PH) (W:List Nat):Bool:=!W.contains b&&(match h[b]? with
 |some (.cells _ (c::cs))=>Ov c&&cs.all Ov
 |some (.map [])=>true
 |_=>false)
def yx (o:cv) (fr:PF) (h:PH):Option (Option Nat):=match o with
 | .st _ x _| .ld x| .ldn _ x=>match fG fr x with
   | .ref b _ t=>if du h b=some t∧0<t then some (some b)else none
   | .fp _=>some none
   |_=>none
 | .look _ _ x _ _=>match fG fr x with
   | .mp b=>match h[b]? with|some (.map _)=>some (some b)|_=>none
   |_=>none
 | .sl _ x _ _ _=>match fG fr x with
   | .sl sz b o n c=>if gI h (.sl sz b o n c)=true∧0<c∧0<sz then some (some b)else none
   |_=>none
 |_=>none
def we:Option (Option Nat)→Option (Option Nat)→Bool
 |some (some b),some (some c)=>!Nat.beq b c
 |some none,some (some _)=>true
 |_,_=>false
def pck (k p q:Nat):Option AO→Option (PF×PH×List Nat)→Option (PF×PH×List Nat)→Option AO→Option (PF×PH×List Nat)→Option (PF×PH×List Nat)→Bool
 |some op,some (fp,hp,_),some (_,hp',_),some oq,some (fq,hq,_),some (_,_,W)=>
  decide (p<q)&&(!HT op fp|| !HT oq fq||(match k with
   |0=>RB op.o fp hp W
   |1=>!op.o.aV&&Ma hp.length hp' W
   |_=>we (yx op.o fp hp) (yx oq.o fq hq)))
 |_,_,_,_,_,_=>false
def XA (l:List AO) (ck:List (Nat×Nat×Nat)) (acc:List (PF×PH×List Nat)):Bool:=
 ck.all fun c=>pck c.1 c.2.1 c.2.2 (nth l c.2.1) (nth acc.reverse c.2.1) (nth acc.reverse (c.2.1+1)) (nth l c.2.2) (nth acc.reverse c.2.2) (nth acc.reverse (c.2.2+1))
inductive nV (l0:List AO):List (PF×PH×List Nat)→List (Fr×AH)→Cx→List Nat→Prop
 |one {C:Cx} {fr:PF} {af:Fr}:dO C→nh C fr af→nV l0 [(fr,C.h,[])] [(af,C.H)] C []
 |cons {C D:Cx} {acc:List (PF×PH×List Nat)} {eI:List (Fr×AH)} {fr:PF} {af:Fr} {V W:List Nat}:nV l0 acc eI C W→dH 0 (· ∈V) C D→dO D→nh D fr af→(∀o,nth l0 (acc.length- 1)=some o→o.o.aV=false→D.H.nx≤C.H.nx+1)→nV l0 ((fr,D.h,V++W)::acc) ((af,D.H)::eI) D (V++W)
theorem nV.length {d:List AO} {W:List Nat} {acc:List (PF×PH×List Nat)} {c:List (Fr×AH)} {C:Cx} (h:nV d acc c C W):acc.length=c.length∧0<acc.length:=by
 induction h with
 |one a b=>exact ⟨rfl,Nat.one_pos⟩
 |cons _ T S R e ih=>simp [ih.1]
theorem tk {α:Type} (l:List α) (x:α) (i:Nat):nth (l++[x]) i=if i<l.length then nth l i else if i=l.length then some x else none:=by
 rw [uu,uu];split
 ·rw [aqT (by assumption)]
 ·rw [aqX (by omega)]
  split
  ·rename_i h;subst h;simp
  ·rw [arn (by simp;omega)]
theorem nV.fam {l:List AO} {W:List Nat} {acc:List (PF×PH×List Nat)} {k:List (Fr×AH)} {D:Cx} (h:nV l acc k D W):∃(cs:Nat→Cx) («as»:Nat→Fr),
 (∀i s,nth acc.reverse i=some s→(cs i).h=s.2.1∧nth k.reverse i=some («as» i,(cs i).H)∧dO (cs i)∧nh (cs i) s.1 («as» i))∧
 (∀i j s,i≤j→nth acc.reverse j=some s→dH 0 (· ∈s.2.2) (cs i) (cs j))∧
 (∀i o,i+1<acc.length→nth l i=some o→o.o.aV=false→(cs (i+1)).H.nx≤(cs i).H.nx+1)∧cs (acc.length- 1)=D∧∀i,i<acc.length→dH 0 (· ∈W) (cs i) D:=by
 induction h with
 | @one C y g a b=>
  refine ⟨fun _=>C,fun _=>g,fun i s e=>?_,fun _ _ _ _ _=>dH.refl _ _ _,fun i o hi=>by simp at hi,rfl,fun _ _=>dH.refl _ _ _⟩
  cases i with
  |zero=>simp only [List.reverse_singleton,VD,aqH]at e;subst e;exact ⟨rfl,rfl,a,b⟩
  |succ i=>simp [nth]at e
 | @cons C D acc k y g V W H0 T S R r ih=>
  obtain ⟨cs,«as»,x,h2,w,v,u⟩:=ih;have t:=H0.length;have n:∀i,i<acc.length→dH 0 (· ∈V++W) (cs i) D:=fun i hi=>(u i hi).trans T (aq8 _) (fun _ q=>List.mem_append_right _ q) (fun _ q=>List.mem_append_left _ q)
  refine ⟨fun i=>if i<acc.length then cs i else D,fun i=>if i<acc.length then «as» i else g,fun i s e=>?_,fun i j s f e=>?_,fun i o hi m p=>?_,by simp,fun i hi=>?_⟩
  ·rw [List.reverse_cons,tk,List.length_reverse]at e
   rw [List.reverse_cons,tk,List.length_reverse,←t.1];split at e
   ·rename_i hi
    simp only [if_pos hi];exact x i s e
   ·rename_i hi
    split at e
    case isFalse=>cases e
    rename_i c;cases e;simp only [if_neg hi,if_pos c];exact ⟨trivial,trivial,S,R⟩
  ·rw [List.reverse_cons,tk,List.length_reverse]at e
   split at e
   ·rename_i d
    simp only [if_pos d,if_pos (show i<acc.length by omega)];exact h2 i j s f e
   ·rename_i d
    split at e
    case isFalse=>cases e
    cases e;simp only [if_neg d];by_cases hi:i<acc.length
    ·simp only [if_pos hi];exact n i hi
    ·simp only [if_neg hi];exact dH.refl _ _ _
  ·simp only [List.length_cons]at hi
   by_cases c:i+1<acc.length
   ·simp only [if_pos c,if_pos (show i<acc.length by omega)]
    exact w i o c m p
   ·simp only [if_neg c,if_pos (show i<acc.length by omega)]
    have e:i=acc.length- 1:=by omega
    have:=r o (by rw [←e];exact m) p;rw [e,v];exact this
  ·by_cases c:i<acc.length
   ·simp only [if_pos c];exact n i c
   ·simp only [if_neg c];exact dH.refl _ _ _
theorem RC {α:Type} {l:List α} {i:Nat} {x:α} (h:nth l i=some x):i<l.length:=by
 rw [uu]at h;exact (aqM.1 h).1
theorem HU {x:Value} (h:LN x=true):da x x=true:=by
 cases x<;>first
  |(simp [LN]at h;done)
  |simp [da]
theorem RE {C:Cx} {p:PV} {x:Value} (h:RV C p x) (k:Ov p=true):da x x=true:=by
 apply HU
 cases p with
 |v y=>cases h;exact k
 |ref=>cases h;assumption
 |sl=>cases h with|sl a _ _ _=>exact a.sm
 |mp=>cases h;assumption
 |fs=>cases h with|fs q=>cases q;rfl
 |fp=>cases h;rfl
 |_=>cases k
theorem wg {C:Cx}:∀{ps:List PV} {xs:List Value},cL C ps xs→ps.all Ov=true→eK xs xs=true
 |_,_,.nil,_=>rfl
 |_,_,.cons a b,h=>by
  simp only [List.all_cons,aqJ]at h;simp only [eK,aqJ];exact ⟨RE a h.1,wg b h.2⟩
theorem HV {C:Cx} {a:PF} {c:Fr} (h:nh C a c) {o:AO} (k:o.wanted c=true):HT o a=true:=by
 obtain ⟨g,d,p⟩:=o
 cases g with
 |none=>rfl
 |some q=>
  obtain ⟨t,b⟩:=q;simp only [HT];have:=h t;split
  ·rename_i x e
   rw [e]at this;rw [mI,this.qS]at k;exact k
  ·rfl
theorem HW {C:Cx} (S:dO C) {W:List Nat} {b:Nat} (hs:aU C.h b) (d:b∉W):¬ im C (· ∈W) (C.φ b):=by
 rintro ⟨f,c,a,e⟩;exact d (S.inj _ _ a hs e▸c)
theorem HX {C D:Cx} {W:List Nat} (S:dO C) (T:dH 0 (· ∈W) C D) {n:Nat} {p:PV} {x:Value} (h:RV C p x) (k:D9 n p C.h W=true):
 ∃a l,x= .pointer (some a)∧C.H.ldn a n=some l∧sameAt D.H (a,l)=true:=by
 cases p with
 |ref b o t=>
  simp only [D9]at k;split at k
  case h_2=>cases k
  rename_i z cs r;simp only [aqJ,aqS,Bool.not_eq_true',List.contains_eq_mem,decide_eq_false_iff_not]at k;obtain ⟨⟨⟨⟨s,V⟩,U⟩,F⟩,E⟩:=k;obtain ⟨c,J,f,N⟩:=S.cells (t:=t) r (by omega);have X:=f.length;have G:=th h (t:=t) (by unfold du;rw [r];simp [s]);have d:C.H.ldn ⟨C.φ b,o,none⟩ n=some ((c.drop o).take n):=bH J N (by omega);have u:=bU r (by intro e;subst e;simp at s;omega);have M:=T.out _ (S.lt u) (HW S u F);refine ⟨_,_,G,d,?_⟩;rw [xL,eR M T.n0,show((c.drop o).take n).length=n by simp;omega,d];exact wg ((f.drop o).take n) E
 |fp cells=>
  simp only [D9,aqJ,aqS]at k;have O:=h
  cases h with| @fp _ b o c K d L=>
  have A:C.H.ldn ⟨b,o,none⟩ n=some (c.take n):=by
   have:=Ar S O (n:=n) (q:=.agg (cells.take n)) (by simp [vZ,k.1]);obtain ⟨y,m,Y⟩:=this;simp only [Qq]at m
   cases i:C.H.ldn ⟨b,o,none⟩ n with
   |none=>rw [i]at m;cases m
   |some l=>
    have P:l=c.take n:=by
     have Q:∀(j:Nat) (v:Value),l[j]?=some v→(c.take n)[j]?=some v:=by
      intro j v g;have Z:=(db i).2;have I:=(aqM.1 g).1;have R:=aK i g;have f:j<c.length:=by have:=(db d).2;omega
      have B:=aK d (j:=j) (aqG f);rw [R]at B;rw [arf,if_pos (by omega),aqG f];exact B.symm
     have w:l.length=(c.take n).length:=by
      have:=(db i).2;have:=(db d).2;simp;omega
     apply List.ext_getElem?;intro j;by_cases g:j<l.length
     ·rw [Q j _ (aqG g),aqG g]
     ·rw [arn (by omega),arn (by omega)]
    rw [P]
  refine ⟨⟨b,o,none⟩,c.take n,rfl,A,?_⟩;rw [xL,eR (T.fz _ K).2 T.n0,show(c.take n).length=n by have:=(db d).2;simp;omega,A];exact wg (L.take n).qS k.2
 |_=>cases k
theorem RG {C D:Cx} {W:List Nat} (S:dO C) (T:dH 0 (· ∈W) C D) {o:AO} {f:PF} {i:Fr} (h:nh C f i) (k:RB o.o f C.h W=true):∃x,eC o i C.H=some x∧sameAt D.H x=true:=by
 obtain ⟨g,d,p⟩:=o
 cases p<;>first
  |(cases k;done)
  |skip
 ·obtain ⟨a,l,e,c,b⟩:=HX S T (h.ev _) k
  exact ⟨(a,l),by simp only [eC,e,c];rfl,b⟩
 ·obtain ⟨a,l,e,c,b⟩:=HX S T (h.ev _) k
  exact ⟨(a,l),by simp only [eC,e,c];rfl,b⟩
theorem HY {z:Nat} {vs:List Value} (h:eK vs vs=true):nm (some (.cells z vs)) (some (.cells z vs))=true:=by simp [nm,h,nb]
theorem HZ {C X D:Cx} {V W:List Nat} (S:dO C) (g:dO X) (T:dH 0 (· ∈V) C X) (p:dH 0 (· ∈W) X D) (s:X.H.nx≤C.H.nx+1) (k:Ma C.h.length X.h W=true):nm (X.H.get C.H.nx) (D.H.get C.H.nx)=true:=by
 simp only [Ma,aqJ,Bool.not_eq_true',List.contains_eq_mem,decide_eq_false_iff_not]at k;obtain ⟨m,i⟩:=k
 have key:∀(d:aU X.h C.h.length),X.φ C.h.length=C.H.nx∧D.H.get C.H.nx=X.H.get C.H.nx:=by
  intro d
  have e:X.φ C.h.length=C.H.nx:=by
   rcases T.loc _ d with q|⟨q,_⟩
   ·have:=g.lt d;omega
   ·exact absurd (aQ q) (Nat.lt_irrefl _)
  refine ⟨e,?_⟩;have:=p.out _ (g.lt d) (HW g d m);rwa [e]at this
 split at i
 ·rename_i z c cs f
  obtain ⟨a,b⟩:=key (bU f (by simp));obtain ⟨r,j,n,_⟩:=g.cells (t:=0) f (by simp);rw [b,←a,j];exact HY (wg n (by simpa using i))
 ·rename_i f
  obtain ⟨a,b⟩:=key (ew f);obtain ⟨l,j,o,_⟩:=g.yp _ _ f;rw [b,←a,j]
  cases l with
  |nil=>rfl
  |cons=>simp at o
 ·cases i
theorem rI {C:Cx} (S:dO C) {o:AO} {m:PF} {l:Fr} (h:nh C m l) {r:Option Nat} (k:yx o.o m C.h=some r):∃a,cK o l=some a∧((∃b,r=some b∧aU C.h b∧a=C.φ b)∨(r=none∧C.F a)):=by
 have go:∀x:X,(match fG m x with| .ref b _ t=>if du C.h b=some t∧0<t then some (some b)else none| .fp _=>some none|_=>none)=some r→
  ∃a,(match x.ev l with| .pointer (some a)=>some a.block|_=>none)=some a∧((∃b,r=some b∧aU C.h b∧a=C.φ b)∨(r=none∧C.F a)):=by
  intro x k;have f:=h.ev x;split at k
  ·rename_i b o t e
   rw [e]at f;split at k
   case isFalse=>cases k
   rename_i j;cases k;rw [th f j.1];refine ⟨_,rfl,.inl ⟨b,rfl,?_,rfl⟩⟩;have:=j.1;unfold du at this;split at this
   ·rename_i z cs i
    cases this;exact bU i (List.length_pos_iff.1 j.2)
   ·cases this
  ·rename_i c e
   rw [e]at f;cases k;revert f;generalize x.ev l=y;intro f;cases f with|fp u _ _=>exact ⟨_,rfl,.inr ⟨rfl,u⟩⟩
  ·cases k
 obtain ⟨g,d,p⟩:=o
 cases p<;>first
  |(cases k;done)
  |exact go _ k
  |skip
 ·rename_i sz x lo hi mx
  simp only [yx]at k;have f:=h.ev x;split at k
  case h_2=>cases k
  rename_i v b o n c e;rw [e]at f;split at k
  case isFalse=>cases k
  rename_i s;cases k;obtain ⟨z,cs,i,j⟩:=yu s.1;rcases ti f i j.symm with⟨q,_⟩|⟨_,q⟩
  ·omega
  ·refine ⟨C.φ b,by simp only [cK,q];rfl,.inl ⟨b,rfl,bU i ?_,rfl⟩⟩
   intro e;subst e;have:=Nat.mul_pos (show 0<o+c by omega) s.2.2;simp at j;omega
 ·rename_i kk z x w ok
  simp only [yx]at k;have f:=h.ev x;split at k
  case h_2=>cases k
  rename_i b e;rw [e]at f;split at k
  case h_2=>cases k
  rename_i es i;cases k;exact ⟨C.φ b,by simp only [cK,HP f i],.inl ⟨b,rfl,ew i,rfl⟩⟩
theorem Ia {C D:Cx} {W:Nat→Prop} (S:dO C) (p:dO D) (T:dH 0 W C D) {o q:AO} {s r:PF} {u t:Fr} (h:nh C s u) (g:nh D r t) (k:we (yx o.o s C.h) (yx q.o r D.h)=true):
 (match cK o u,cK q t with|some b,some b'=>!Nat.beq b b'|_,_=>true)=true:=by
 unfold we at k;split at k
 ·rename_i b c n m
  obtain ⟨x,l,j⟩:=rI S h n;obtain ⟨y,i,a⟩:=rI p g m;rcases j with⟨A,e,f,rfl⟩|⟨e,_⟩<;>cases e;rcases a with⟨z,e,d,rfl⟩|⟨e,_⟩<;>cases e;rw [l,i];simp only [nb,Bool.not_eq_true',decide_eq_false_iff_not]at k⊢;intro e;rcases T.loc _ d with q|⟨q,w⟩
  ·have:=S.lt f;omega
  ·exact k (S.inj _ _ f q (e.trans w))
 ·rename_i c n m
  obtain ⟨x,l,j⟩:=rI S h n;obtain ⟨y,i,a⟩:=rI p g m;rcases j with⟨A,e,f,rfl⟩|⟨e,v⟩<;>cases e;rcases a with⟨z,e,d,rfl⟩|⟨e,_⟩<;>cases e;rw [l,i];simp only [nb,Bool.not_eq_true',decide_eq_false_iff_not];intro e;exact (p.old d).2 (e▸(T.fz _ v).1)
 ·cases k
theorem RH {d:List AO} {W:List Nat} {acc:List (PF×PH×List Nat)} {w:List (Fr×AH)} {D:Cx} (h:nV d acc w D W) {k p q:Nat}
 (e:pck k p q (nth d p) (nth acc.reverse p) (nth acc.reverse (p+1)) (nth d q) (nth acc.reverse q) (nth acc.reverse (q+1))=true):j7 d w.reverse (k,p,q)=true:=by
 unfold pck at e;split at e
 case h_2=>cases e
 rename_i op Y V Wp L I O F X T Z K H W' v N u M t f;simp only [aqJ,aqS]at e;obtain ⟨U,e⟩:=e;obtain ⟨cs,«as»,a,h2,J,_⟩:=h.fam;obtain ⟨c,E,l,j⟩:=a _ _ N;obtain ⟨n,A,z,S⟩:=a _ _ u;obtain ⟨s,C,B,r⟩:=a _ _ t;obtain ⟨R,y,Q,P⟩:=a _ _ f;have G:=RC f;rw [List.length_reverse]at G;simp only [j7,v,E,A,M,C,y];by_cases i:op.wanted («as» p)=true
 case neg=>simp [i]
 by_cases g:F.wanted («as» q)=true
 case neg=>simp [g]
 have m:=HV j i;have b:=HV r g;simp only at m b c s n;rw [m,b]at e;simp only [Bool.not_true,Bool.false_or]at e;rw [i,g];simp only [Bool.not_true,Bool.false_or]
 match k with
 |0=>
  simp only at e⊢;rw [←c]at e;obtain ⟨x,a,h2⟩:=RG (o:=op) l (h2 p (q+1) _ (by omega) f) j e;rw [a];exact h2
 |1=>
  simp only [aqJ,Bool.not_eq_true']at e⊢;rw [←c,←n]at e;exact HZ l z (h2 p (p+1) _ (by omega) u) (h2 (p+1) (q+1) _ (by omega) f) (J p op (by omega) v e.1) e.2
 |k+2=>
  simp only at e⊢;rw [←c,←s]at e;exact Ia l B (h2 p q _ (by omega) t) j r e
theorem nV.chn {e:List AO} {W:List Nat} {acc:List (PF×PH×List Nat)} {d:List (Fr×AH)} {D:Cx} (h:nV e acc d D W):chain d.reverse=true:=by
 have snoc:∀(l:List (Fr×AH)) (a b:Fr×AH),chain (l++[a])=true→a.2.n0=b.2.n0→a.2.nx≤b.2.nx→chain (l++[a]++[b])=true:=by
  intro l
  induction l with
  |nil=>intro a b _ c h2;simp [A.chain,c,h2]
  |cons x l ih=>
   intro a b h c h2
   cases l with
   |nil=>simp only [List.cons_append,List.nil_append,A.chain,Bool.and_true,aqJ]at h⊢;refine ⟨h,?_⟩;simp [c,h2]
   |cons y l=>
    simp only [List.cons_append,A.chain,aqJ]at h⊢;exact ⟨h.1,by simpa using ih a b h.2 c h2⟩
 induction h with
 |one=>rfl
 | @cons C D acc d g i V W H0 T S R f ih=>
  cases H0 with
  |one=>simp [A.chain,T.n0,T.nx]
  |cons=>
   simp only [List.reverse_cons]at ih⊢;exact snoc _ _ _ ih T.n0.symm T.nx
theorem Ib {a:List AO} {W:List Nat} {acc:List (PF×PH×List Nat)} {b:List (Fr×AH)} {D:Cx} (h:nV a acc b D W) {ck:List (Nat×Nat×Nat)} (e:XA a ck acc=true):tS a ck b=true:=by
 unfold tS;rw [aqJ];refine ⟨h.chn,?_⟩;unfold XA at e;rw [aqW]at e⊢;rintro ⟨k,p,q⟩ c;exact RH h (e _ c)
open Go Go.RowKit
theorem qi {H H':AH} {a:Addr} {vs:List Value} (h:H.st a vs=some H'):H'.nx=H.nx:=by
 unfold AH.st at h;split at h
 ·obtain ⟨_,h⟩:=aw h
  cases h;rfl
 ·cases h
theorem RI {o:cv} {m:X→Value} {H:AH} {b:Option (Value×AH)} {x:Value} {H':AH} (e:aq o m H=up b) (n:b=some (x,H')):H'.nx≤H.nx+1:=by
 subst n;simp only [up,Option.map_some]at e
 have app:∀{sz bytes:Nat} {s y z:Value} {H':AH},bm sz bytes H s y=some (z,H')→H'.nx≤H.nx+1:=by
  intro sz bytes s y z H' h;unfold bm at h;split at h
  case h_2=>cases h
  split at h
  ·obtain ⟨_,h⟩:=aw h;cases h;omega
  ·split at h
   ·cases h
   ·obtain ⟨_,h⟩:=aw h
    split at h
    ·split at h
     ·obtain ⟨_,h⟩:=aw h
      rename_i a _ _;obtain ⟨l,h2,f⟩:=aqQ.1 h;cases f;have:=qi h2;omega
     ·cases h
    ·split at h
     ·obtain ⟨_,h⟩:=aw h;cases h;exact aqK _
     ·split at h
      ·obtain ⟨_,h⟩:=aw h
       obtain ⟨l,h2,f⟩:=aqQ.1 h;cases f;exact aqK _
      ·cases h
 have g:∀{sz:Nat} {s y z:Value} {H':AH},j6 sz H s y=some (z,H')→H'.nx≤H.nx+1:=by
  intro sz s y z H' h;unfold j6 at h;split at h
  case h_2=>cases h
  obtain ⟨c,d,h⟩:=aqR.1 h;split at h
  ·simp only [Bool.cond_eq_ite]at h
   split at h
   ·cases h;exact aq7 _
   ·obtain ⟨l,h2,f⟩:=aqQ.1 h
    cases f;have:=qi h2;omega
  ·cases h;exact aq7 _
 have i:∀{k:XK} {j:List Value} {z:Value} {H':AH},EM k j H=some (z,H')→H'.nx≤H.nx+1:=by
  intro k j z H' h;unfold EM at h;split at h
  ·obtain ⟨_,_,e⟩:=aqQ.1 h;cases e;exact aq7 _
  ·split at h
   ·obtain ⟨_,_,e⟩:=aqQ.1 h;cases e;exact aq7 _
   ·cases h
  ·cases h;exact aqK _
  ·cases h
 cases o<;>simp only [aq]at e
 all_goals first
  |(simp only [aqH,aqO,iY.v.injEq,reduceCtorEq,false_and]at e;done)
  |skip
 all_goals first
  |(simp only [aqH,aqO]at e;obtain ⟨_,rfl⟩:=e;first|exact aq7 _|exact aqK _)
  |(obtain ⟨r,d,h2⟩:=aqQ.1 e;simp only [aqO]at h2;obtain ⟨_,rfl⟩:=h2;first|exact aq7 _|exact aqK _)
  |skip
 all_goals first
  |(obtain ⟨r,d,h2⟩:=aqQ.1 e;simp only [aqO]at h2;obtain ⟨_,rfl⟩:=h2;exact i d)
  |skip
 all_goals try simp only [Bool.cond_eq_ite]at e
 all_goals try(repeat' split at e)
 all_goals first
  |(cases e;done)
  |(simp only [aqH,aqO]at e;obtain ⟨_,rfl⟩:=e;first|exact aq7 _|exact aqK _)
  |(obtain ⟨r,d,h2⟩:=aqQ.1 e;simp only [aqO]at h2;obtain ⟨_,rfl⟩:=h2;first|exact aq7 _|(have:=qi d;omega)|exact app d|exact g d|exact i d)
  |skip
inductive Kp where
 |seq (c:AC)
 |aR (i:Nat)
 |lp (I:Nat→PF→PH→Prop) (k:Nat)
inductive Mp where
 |pl
 |d0
 |dr (l0:List AO) (ck:List (Nat×Nat×Nat)) (acc:List (PF×PH×List Nat)) (W:List Nat)
def Mp.up:Mp→List Nat→PF→PH→Mp
 | .pl,_,_,_=>.pl
 | .d0,_,_,_=>.d0
 | .dr l0 ck acc W,V,fr,h=>.dr l0 ck ((fr,h,V++W)::acc) (V++W)
inductive Cf where
 |code (c:AC) (ks:List Kp)
 |ops (m:Mp) (l:List AO) (ks:List Kp)
 |done (ex:Ex) (ks:List Kp)
def Ea (E:Env) (O:jD) (f:Nat) (args:List PV) (h:PH) (W:Nat→Prop) (R:PV→PH→Prop):Prop:=
 ∀F H φ vs,dO ⟨F,H,φ,h⟩→cL ⟨F,H,φ,h⟩ args vs→Ca E O f vs H (fun x H'=>∃r h' F' dG,R r h'∧RV ⟨F',H',dG,h'⟩ r x∧dO ⟨F',H',dG,h'⟩∧dH h.length W ⟨F,H,φ,h⟩ ⟨F',H',dG,h'⟩)
abbrev qj:Nat→Prop:=fun _=>True
abbrev mf (E:Env) (O:jD) (f:Nat) (args:List PV) (h:PH) (R:PV→PH→Prop):Prop:=Ea E O f args h qj R
def Gh (n:Nat) (fr:PF) (h:PH) (eZ:PF) (h2:PH):Prop:=
 ∀F H φ af,dO ⟨F,H,φ,h⟩→nh ⟨F,H,φ,h⟩ fr af→∃F' dG,dO ⟨F',H,dG,h2⟩∧nh ⟨F',H,dG,h2⟩ eZ af∧∀C0:Cx,C0.h.length=n→dH n qj C0 ⟨F,H,φ,h⟩→dH n qj C0 ⟨F',H,dG,h2⟩
theorem Gh.refl (n:Nat) (a:PF) (h:PH):Gh n a h a h:=fun F H b c S R=>⟨F,b,S,R,fun _ _ k=>k⟩
variable(E:Env) (O:jD) (n:Nat) (Q:Ex→PF→PH→Prop)
inductive PK:Cf→PF→PH→Prop where
 |skip {ks:List Kp} {fr:PF} {h:PH}:PK (.done .normal ks) fr h→PK (.code .skip ks) fr h
 |ret {ks:List Kp} {fr:PF} {h:PH}:PK (.done .ret ks) fr h→PK (.code .ret ks) fr h
 |exit {i:Nat} {ks:List Kp} {fr:PF} {h:PH}:PK (.done (.exit i) ks) fr h→PK (.code (.exit i) ks) fr h
 |bI {l:List AO} {ks:List Kp} {fr:PF} {h:PH}:PK (.ops .pl l ks) fr h→PK (.code (.bI l) ks) fr h
 |bJ {l:List AO} {c:Nat×Nat×Nat} {ck:List (Nat×Nat×Nat)} {ks:List Kp} {fr:PF} {h:PH}:PK (.ops (.dr l (c::ck) [(fr,h,[])] []) l ks) fr h→PK (.code (.bJ l (c::ck)) ks) fr h
 |Ci {l:List AO} {ks:List Kp} {fr:PF} {h:PH}:PK (.ops .d0 l ks) fr h→PK (.code (.bJ l []) ks) fr h
 |seq {a b:AC} {ks:List Kp} {fr:PF} {h:PH}:PK (.code a (.seq b::ks)) fr h→PK (.code (.seq a b) ks) fr h
 |block {i:Nat} {a:AC} {ks:List Kp} {fr:PF} {h:PH}:PK (.code a (.aR i::ks)) fr h→PK (.code (.block i a) ks) fr h
 |cond {x:X} {a b:AC} {t:Bool} {ks:List Kp} {fr:PF} {h:PH}:fG fr x= .v (.bool t)→PK (.code (bif t then a else b) ks) fr h→PK (.code (.cond x a b) ks) fr h
 |loop {a:AC} {ks:List Kp} {fr eZ:PF} {h h2:PH} (I:Nat→PF→PH→Prop) (k:Nat):(∀k fr h,I k fr h→PK (.code a (.lp I k::ks)) fr h)→Gh n fr h eZ h2→I k eZ h2→PK (.code (.loop a) ks) fr h
 |Mb {ks:List Kp} {fr:PF} {h:PH}:PK (.done .normal ks) fr h→PK (.ops .pl [] ks) fr h
 |Cj {ks:List Kp} {fr:PF} {h:PH}:PK (.done .normal ks) fr h→PK (.ops .d0 [] ks) fr h
 |yy {l0:List AO} {ck:List (Nat×Nat×Nat)} {acc:List (PF×PH×List Nat)} {W:List Nat} {ks:List Kp} {fr:PF} {h:PH}:XA l0 ck acc=true→PK (.done .normal ks) fr h→PK (.ops (.dr l0 ck acc W) [] ks) fr h
 |op {m:Mp} {d:Option Nat} {p:cv} {l:List AO} {ks:List Kp} {fr:PF} {h h':PH} {v:PV}:pop p (fG fr) h=some (v,h')→PK (.ops (m.up (yr p (fG fr)) (fr.aO d v) h') l ks) (fr.aO d v) h'→PK (.ops m (⟨none,d,p⟩::l) ks) fr h
 |XC {m:Mp} {t:Nat} {b:Bool} {x:Value} {d:Option Nat} {p:cv} {l:List AO} {ks:List Kp} {fr:PF} {h:PH}:fr.get t= .v x→et b x=true→PK (.ops m (⟨none,d,p⟩::l) ks) fr h→PK (.ops m (⟨some (t,b),d,p⟩::l) ks) fr h
 |Ic {m:Mp} {t:Nat} {b:Bool} {x:Value} {d:Option Nat} {p:cv} {l:List AO} {ks:List Kp} {fr:PF} {h:PH}:fr.get t= .v x→et b x=false→PK (.ops (m.up [] (fr.aO d (.v undef)) h) l ks) (fr.aO d (.v undef)) h→PK (.ops m (⟨some (t,b),d,p⟩::l) ks) fr h
 |call {m:Mp} {f:Nat} {«as»:List X} {d:Option Nat} {l:List AO} {ks:List Kp} {fr:PF} {h:PH} {W:List Nat} {R:PV→PH→Prop}:Ea E O f («as».map (fG fr)) h (· ∈W) R→(∀r h',R r h'→PK (.ops (m.up W (fr.aO d r) h') l ks) (fr.aO d r) h')→PK (.ops m (⟨none,d,.call f «as»⟩::l) ks) fr h
 |callv {m:Mp} {f:Nat} {x:X} {first cap:List PV} {«as»:List X} {d:Option Nat} {l:List AO} {ks:List Kp} {fr:PF} {h:PH} {W:List Nat} {R:PV→PH→Prop}:fG fr x= .fn f first cap→Ea E O f (first++«as».map (fG fr)++cap) h (· ∈W) R→(∀r h',R r h'→PK (.ops (m.up W (fr.aO d r) h') l ks) (fr.aO d r) h')→PK (.ops m (⟨none,d,.callv x «as»⟩::l) ks) fr h
 |Mc {ex:Ex} {fr:PF} {h:PH}:Q ex fr h→PK (.done ex []) fr h
 |dns {b:AC} {ks:List Kp} {fr:PF} {h:PH}:PK (.code b ks) fr h→PK (.done .normal (.seq b::ks)) fr h
 |dnb {i:Nat} {ks:List Kp} {fr:PF} {h:PH}:PK (.done .normal ks) fr h→PK (.done .normal (.aR i::ks)) fr h
 |XD {I:Nat→PF→PH→Prop} {k j:Nat} {ks:List Kp} {fr eZ:PF} {h h2:PH}:j<k→Gh n fr h eZ h2→I j eZ h2→PK (.done .normal (.lp I k::ks)) fr h
 |des {i:Nat} {b:AC} {ks:List Kp} {fr:PF} {h:PH}:PK (.done (.exit i) ks) fr h→PK (.done (.exit i) (.seq b::ks)) fr h
 |Ie {i:Nat} {ks:List Kp} {fr:PF} {h:PH}:PK (.done .normal ks) fr h→PK (.done (.exit i) (.aR i::ks)) fr h
 |Mg {i j:Nat} {ks:List Kp} {fr:PF} {h:PH}:j≠i→PK (.done (.exit j) ks) fr h→PK (.done (.exit j) (.aR i::ks)) fr h
 |del {I:Nat→PF→PH→Prop} {k i:Nat} {ks:List Kp} {fr:PF} {h:PH}:PK (.done (.exit i) ks) fr h→PK (.done (.exit i) (.lp I k::ks)) fr h
 |Mh {k:Kp} {ks:List Kp} {fr:PF} {h:PH}:PK (.done .ret ks) fr h→PK (.done .ret (k::ks)) fr h
variable{E O n Q}
def Live (C0:Cx) (C:Cx):Prop:=dO C∧dH C0.h.length qj C0 C
theorem Live.step {C0 C D:Cx} (h:Live C0 C) {W:Nat→Prop} (S:dO D) (T:dH C.h.length W C D):Live C0 D:=
 ⟨S,h.2.trans (T.mono (h.2.len (aqK _)) (fun _ _=>trivial) fun _=>aq2 (h.2.len (aqK _)) (T.len (aqK _))) (aqK _) (fun _ h=>h) fun _ h=>h⟩
def UP (E:Env) (O:jD) (C0:Cx) (Q:Ex→PF→PH→Prop):Ex→List Kp→Fr→AH→Prop
 |ex,[],af,H=>∃fr F φ h,Q ex fr h∧Live C0 ⟨F,H,φ,h⟩∧nh ⟨F,H,φ,h⟩ fr af
 | .normal,.seq b::ks,af,H=>Wp E O b af H (fun ex rJ H'=>UP E O C0 Q ex ks rJ H')
 | .normal,.aR _::ks,af,H=>UP E O C0 Q .normal ks af H
 | .normal,.lp I k::ks,af,H=>∃j,j<k∧∃fr F φ h,I j fr h∧Live C0 ⟨F,H,φ,h⟩∧nh ⟨F,H,φ,h⟩ fr af
 | .exit j,.seq _::ks,af,H=>UP E O C0 Q (.exit j) ks af H
 | .exit j,.aR i::ks,af,H=>if j=i then UP E O C0 Q .normal ks af H else UP E O C0 Q (.exit j) ks af H
 | .exit j,.lp _ _::ks,af,H=>UP E O C0 Q (.exit j) ks af H
 | .ret,_::ks,af,H=>UP E O C0 Q .ret ks af H
def TS (l1 l:List AO):Prop:=l1=l∨∃g d p t,l=⟨none,d,p⟩::t∧l1=⟨g,d,p⟩::t
theorem TS.head {a t:List AO} {g:Option (Nat×Bool)} {d:Option Nat} {p:cv} (h:TS a (⟨g,d,p⟩::t)):∃b,a=⟨b,d,p⟩::t:=by
 rcases h with rfl|⟨b,i,f,c,e,rfl⟩
 ·exact ⟨_,rfl⟩
 ·cases e;exact ⟨_,rfl⟩
def Ow (E:Env) (O:jD) (C0:Cx) (Q:Ex→PF→PH→Prop) (cf:Cf) (fr:PF) (h:PH):Prop:=∀F H φ af,Live C0 ⟨F,H,φ,h⟩→nh ⟨F,H,φ,h⟩ fr af→match cf with
 | .code c ks=>Wp E O c af H (fun ex rJ H'=>UP E O C0 Q ex ks rJ H')
 | .ops .pl l ks=>Wo E O l af H (fun rJ H'=>UP E O C0 Q .normal ks rJ H')
 | .ops .d0 l ks=>∀l0 acc eI W,nV l0 acc eI ⟨F,H,φ,h⟩ W→TS (l0.drop (acc.length- 1)) l→Wt E O l af H (fun ss=>tS l0 [] (ss.reverse++eI)=true∧UP E O C0 Q .normal ks (fJ (af,H) ss).1 (fJ (af,H) ss).2)
 | .ops (.dr l0 ck acc W) l ks=>∀eI,nV l0 acc eI ⟨F,H,φ,h⟩ W→TS (l0.drop (acc.length- 1)) l→Wt E O l af H (fun ss=>tS l0 ck (ss.reverse++eI)=true∧UP E O C0 Q .normal ks (fJ (af,H) ss).1 (fJ (af,H) ss).2)
 | .done ex ks=>UP E O C0 Q ex ks af H
theorem Ow.step {C0:Cx} {m:Mp} {g:Option (Nat×Bool)} {d:Option Nat} {p:cv} {l:List AO} {J:List Kp} {K:PF} {h:PH} (one:∀F H φ v,Live C0 ⟨F,H,φ,h⟩→nh ⟨F,H,φ,h⟩ K v→q8 E O ⟨g,d,p⟩ v H (fun f H'=>∃t s r i V,Live C0 ⟨s,H',r,i⟩∧nh ⟨s,H',r,i⟩ t f∧dH 0 (· ∈V) ⟨F,H,φ,h⟩ ⟨s,H',r,i⟩∧(p.aV=false→H'.nx≤H.nx+1)∧Ow E O C0 Q (.ops (m.up V t i) l J) t i)):
 Ow E O C0 Q (.ops m (⟨g,d,p⟩::l) J) K h:=by
 intro F H φ v L R
 have mono:∀{M Q2:Fr→AH→Prop},(∀a b,M a b→Q2 a b)→q8 E O ⟨g,d,p⟩ v H M→q8 E O ⟨g,d,p⟩ v H Q2:=fun k ⟨a,b,c,e,q⟩=>⟨a,b,c,e,k _ _ q⟩
 cases m with
 |pl=>
  refine Wo.cons (mono ?_ (one F H φ v L R));rintro f H' ⟨t,s,r,i,V,x,w,_,_,k⟩;exact k s H' r f x w
 |d0=>
  intro u acc B W C j;rw [jd];refine mono ?_ (one F H φ v L R);rintro f H' ⟨t,s,r,i,V,x,w,T,D,k⟩;have N:=C.length.2
  have y:nV u ((t,i,V++W)::acc) ((f,H')::B) ⟨s,H',r,i⟩ (V++W):=
   .cons C T x.1 w (fun o z I=>by
    obtain ⟨A,j⟩:=j.head
    have:u[acc.length- 1]?=some ⟨A,d,p⟩:=by
     have:=congrArg List.head? j
     simpa [List.head?_drop]using this
    rw [uu,this]at z;cases z
    exact D I)
  have G:TS (u.drop (((t,i,V++W)::acc).length- 1)) l:=by
   obtain ⟨A,j⟩:=j.head;left;simp only [List.length_cons,Nat.add_sub_cancel];rw [show acc.length=acc.length- 1+1 by omega,←List.drop_drop,j];rfl
  have:=k s H' r f x w u _ ((f,H')::B) _ y G;refine (fun⟨a,b,e,q⟩=>⟨a,b,e,?_⟩:Wt E O l f H' _→Wt E O l f H' _) this
  simpa [fJ]using q
 |dr u P acc W=>
  intro B C j;rw [jd];refine mono ?_ (one F H φ v L R);rintro f H' ⟨t,s,r,i,V,x,w,T,D,k⟩;have N:=C.length.2
  have y:nV u ((t,i,V++W)::acc) ((f,H')::B) ⟨s,H',r,i⟩ (V++W):=
   .cons C T x.1 w (fun o z I=>by
    obtain ⟨A,j⟩:=j.head
    have:u[acc.length- 1]?=some ⟨A,d,p⟩:=by
     have:=congrArg List.head? j
     simpa [List.head?_drop]using this
    rw [uu,this]at z;cases z
    exact D I)
  have G:TS (u.drop (((t,i,V++W)::acc).length- 1)) l:=by
   obtain ⟨A,j⟩:=j.head;left;simp only [List.length_cons,Nat.add_sub_cancel];rw [show acc.length=acc.length- 1+1 by omega,←List.drop_drop,j];rfl
  have:=k s H' r f x w ((f,H')::B) y G;refine (fun⟨a,b,e,q⟩=>⟨a,b,e,?_⟩:Wt E O l f H' _→Wt E O l f H' _) this
  simpa [fJ]using q
theorem PK.sound {C0:Cx} (M:n=C0.h.length):∀{cf:Cf} {u:PF} {h:PH},PK E O n Q cf u h→Ow E O C0 Q cf u h:=by
 intro cf u h k
 induction k with
 |skip _ ih=>exact fun F H s o L R=>Wp.skip (ih F H s o L R)
 |ret _ ih=>exact fun F H s o L R=>Wp.ret (ih F H s o L R)
 |exit _ ih=>exact fun F H s o L R=>Wp.exit (ih F H s o L R)
 |bI _ ih=>exact fun F H s o L R=>Wp.bI (ih F H s o L R)
 | @bJ l c ck z u h _ ih=>
  intro F H s o L R;have:=ih F H s o L R [(o,H)] (.one L.1 R) (.inl rfl);refine Wp.bJ ?_;obtain ⟨a,ss,e,C,h2⟩:=this;unfold tS at C;simp only [List.reverse_append,List.reverse_cons,List.reverse_nil,List.nil_append,List.reverse_reverse,List.cons_append,aqJ]at C;exact ⟨a,ss,e,C,h2⟩
 | @Ci l z u h _ ih=>
  intro F H s o L R;have:=ih F H s o L R l _ [(o,H)] _ (.one L.1 R) (.inl rfl);refine Wp.bJ ?_;obtain ⟨a,ss,e,C,h2⟩:=this;unfold tS at C;simp only [List.reverse_append,List.reverse_cons,List.reverse_nil,List.nil_append,List.reverse_reverse,List.cons_append,aqJ]at C;exact ⟨a,ss,e,C,h2⟩
 | @seq a b z u h _ ih=>
  intro F H s o L R;refine Wp.seq ((ih F H s o L R).mono ?_);intro ex bK V q;cases ex<;>exact q
 | @block i a z u h _ ih=>
  intro F H s o L R;refine Wp.block ((ih F H s o L R).mono ?_);intro ex bK V q;cases ex<;>exact q
 | @cond x a b t z u h e _ ih=>
  intro F H s o L R;have w:=R.ev x;rw [e]at w
  exact Wp.cond w.qS (by
   have:=ih F H s o L R
   cases t<;>exact this)
 | @loop a z u eZ h h2 I k _ g P ih=>
  intro F H s o L R;obtain ⟨F',N,S',A,T'⟩:=g F H s o L.1 R;refine Wp.loop (fun k o H=>∃u F s h,I k u h∧Live C0 ⟨F,H,s,h⟩∧nh ⟨F,H,s,h⟩ u o) ?_ k ⟨eZ,F',N,h2,P,⟨S',M▸T' C0 M.symm (M▸L.2)⟩,A⟩;rintro k o H ⟨u,F,s,h,P,L,R⟩;refine (ih k u h P F H s o L R).mono ?_;intro ex rJ V q;cases ex<;>exact q
 |Mb _ ih=>exact fun F H s o L R=>Wo.nil (ih F H s o L R)
 |Cj _ ih=>exact fun F H s o L R Y acc U W K B=>Wt.nil ⟨by have:=Ib K (ck:=[]) rfl;simpa using this,ih F H s o L R⟩
 | @yy Y ck acc W z u h ok _ ih=>
  intro F H s o L R U K B;exact Wt.nil ⟨by simpa using Ib K ok,ih F H s o L R⟩
 | @op m d p l z u h G v e _ ih=>
  refine Ow.step fun F H s o L R=>?_
  obtain ⟨b,Z,x,V,N,rfl,w,S,T⟩:=RA L.1 (R.ev) e;refine q8.val rfl Z ?_;exact ⟨_,F,N,G,_,L.step S T,(R.step T).aO w d,T.mono (aq8 _) (fun _ h=>h) (fun _=>aq8 _),fun _=>RI Z rfl,ih⟩
 | @XC m t b x d p l z u h e hw _ ih=>
  have eqv:∀{o:Fr} {H:AH} {Q:Fr→AH→Prop},AO.wanted ⟨some (t,b),d,p⟩ o=true→q8 E O ⟨none,d,p⟩ o H Q→q8 E O ⟨some (t,b),d,p⟩ o H Q:=by
   intro o H Q C h2;rw [fN _ _ _ _ C];rwa [fN _ _ _ _ rfl]at h2
  intro F H s o L R;have w:=R t;rw [e]at w;have D:AO.wanted ⟨some (t,b),d,p⟩ o=true:=by rw [mI,w.qS];exact hw
  have:=ih F H s o L R
  cases m with
  |pl=>
   refine Wo.cons (eqv D ?_);exact (gV _ _ _ _ _).1 this
  |d0=>
   intro Y acc U W K B;rw [jd];obtain ⟨g',B⟩:=B.head;exact eqv D ((jd _ _ _ _ _).1 (this Y acc U W K (.inr ⟨g',d,p,l,rfl,B⟩)))
  |dr Y ck acc W=>
   intro U K B;rw [jd];obtain ⟨g',B⟩:=B.head;exact eqv D ((jd _ _ _ _ _).1 (this U K (.inr ⟨g',d,p,l,rfl,B⟩)))
 | @Ic m t b x d p l z u h e hw _ ih=>
  refine Ow.step fun F H s o L R=>?_
  have w:=R t;rw [e]at w;refine q8.off (by rw [mI,w.qS];exact hw) ?_;exact ⟨_,F,s,h,[],L,R.aO (.v _) d,dH.refl _ _ _,fun _=>aq7 _,ih⟩
 | @call m f «as» d l z u h W R hc _ ih=>
  refine Ow.step fun F H s o L A=>?_
  refine q8.call rfl rfl ?_;refine (hc F H s _ L.1 (cL.of A.ev «as»)).mono ?_;rintro x V ⟨r,G,F2,mA,hR,w,S2,J⟩;exact ⟨_,F2,mA,G,W,L.step S2 J,(A.step J).aO w d,J.mono (aq8 _) (fun _ h=>h) (fun _=>aq8 _),(fun q=>by cases q),ih r G hR⟩
 | @callv m f x first cap «as» d l z u h W R hf hc _ ih=>
  refine Ow.step fun F H s o L A=>?_
  have w:=A.ev x;rw [hf]at w;revert w;generalize hy:X.ev o x=y;intro w
  cases w with| @fn _ _ _ xs ys ha Z=>
  refine q8.call rfl (f:=f) («as»:=xs++«as».map (X.ev o)++ys) (H1:=H) (by simp only [aq,hy]) ?_;refine (hc F H s _ L.1 ((ha.append (cL.of A.ev «as»)).append Z)).mono ?_;rintro x V ⟨r,G,F2,mA,hR,w,S2,J⟩;exact ⟨_,F2,mA,G,W,L.step S2 J,(A.step J).aO w d,J.mono (aq8 _) (fun _ h=>h) (fun _=>aq8 _),(fun q=>by cases q),ih r G hR⟩
 | @Mc ex u h q=>
  intro F H s o L R;simp only [UP];exact ⟨u,F,s,h,q,L,R⟩
 |dns _ ih=>exact fun F H s o L R=>ih F H s o L R
 |dnb _ ih=>exact fun F H s o L R=>ih F H s o L R
 | @XD I k j z u eZ h h2 hj g P=>
  intro F H s o L R;obtain ⟨F',N,S',A,T'⟩:=g F H s o L.1 R;exact ⟨j,hj,eZ,F',N,h2,P,⟨S',M▸T' C0 M.symm (M▸L.2)⟩,A⟩
 |des _ ih=>exact fun F H s o L R=>ih F H s o L R
 | @Ie i z u h _ ih=>
  intro F H s o L R;show(if i=i then _ else _);rw [if_pos rfl];exact ih F H s o L R
 | @Mg i j z u h hj _ ih=>
  intro F H s o L R;show(if j=i then _ else _);rw [if_neg hj];exact ih F H s o L R
 |del _ ih=>exact fun F H s o L R=>ih F H s o L R
 | @Mh k z u h _ ih=>
  intro F H s o L R;cases k<;>exact ih F H s o L R
end P
end Go.Proofs.YtppcmpmnglaleaaGreatDoor.A
